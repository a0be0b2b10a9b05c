/- Own work, printed: the functions compute these. -/
import Derived.Test.YtpmebmbfkmgjjaaWa26zx1
set_option linter.unusedVariables false
set_option linter.unusedSimpArgs false
set_option linter.unusedVariables false
set_option linter.unusedSimpArgs false
namespace Go.Ac
open Go.Proofs
theorem binding_Under_r1_rnd (s9_1 : List TSlot) (s9_2 : List TSlot) (s : Bool) (x : (TSlot × TValue) ⊕ TSlot) (o : (Bool) ⊕ (Bool)) (h : binding_Under_r1_rd s9_1 s9_2 s x = some o) (m : Nat) (uz : List Value) : ∃ M E1, LpOf Try.prog (some m) (fbody Try.prog 48) (0 :: [0, 1, 0, 1]) ⟨setPs (binding_Under_r1_E s9_1 s9_2) ((Array.toList #[10, 11]).zip (binding_both_1_enc x)), binding_Under_r1_BL s9_1 s9_2 s ++ [(vn, .vals (binding_Under_r1_E s9_1 s9_2) uz)], (fun _ => []) s⟩ .normal M ∧
    LpOf Try.prog (some m) (fbody Try.prog 48) (1 :: [0, 1, 0, 1]) M (rex binding_Under_r1_X o) ⟨E1, rbx (binding_Under_r1_BL s9_1 s9_2) (binding_Under_r1_BT s9_1 s9_2) o ++ [(vn, .vals (binding_Under_r1_E s9_1 s9_2) uz)], rbx (fun _ => []) (fun _ => []) o⟩ := by
  unfold binding_Under_r1_rd at h
  replace h := sumE_some h
  rcases h with ⟨z13, rfl, h⟩ | ⟨z14, rfl, h⟩
  ·
   obtain ⟨o6, h5, h⟩ := bS h
   obtain ⟨o7, h6, h⟩ := bS h
   replace h := sumE_some h
   rcases h with ⟨o15, rfl, h⟩ | ⟨o16, rfl, h⟩
   ·
    obtain rfl := si h
    exact ⟨(binding_Under_b2_O uz s9_1 s9_2 z13.1 z13.2 s s9_1 s9_2 o6).2, sp 22 0 [], lp_wks (w := [.live [4, 9, 10, 11], .keep [4, 998]]) (s1 := binding_Under_b2_I uz s9_1 s9_2 z13.1 z13.2 s s9_1 s9_2) (by kernel_rfl) (lp_cast (binding_Under_b2_ok (some m) uz s9_1 s9_2 z13.1 z13.2 s s9_1 s9_2 o6 h5) rfl (by kernel_rfl) rfl), lp_wks (w := [.live [4, 5, 6, 9], .keep [4, 5, 998]]) (s1 := binding_Under_b6_I uz z13.2 s9_1 s9_2 s z13.1 s9_1 s9_2) (by kernel_rfl) (lp_cast (binding_Under_b6_ok (some m) uz z13.2 s9_1 s9_2 s z13.1 s9_1 s9_2 (Sum.inl o15) h6) rfl (by kernel_rfl) (by kernel_rfl))⟩
   ·
    obtain rfl := si h
    exact ⟨(binding_Under_b2_O uz s9_1 s9_2 z13.1 z13.2 s s9_1 s9_2 o6).2, sp 22 0 [], lp_wks (w := [.live [4, 9, 10, 11], .keep [4, 998]]) (s1 := binding_Under_b2_I uz s9_1 s9_2 z13.1 z13.2 s s9_1 s9_2) (by kernel_rfl) (lp_cast (binding_Under_b2_ok (some m) uz s9_1 s9_2 z13.1 z13.2 s s9_1 s9_2 o6 h5) rfl (by kernel_rfl) rfl), lp_wks (w := [.live [4, 5, 6, 9], .keep [4, 5, 998]]) (s1 := binding_Under_b6_I uz z13.2 s9_1 s9_2 s z13.1 s9_1 s9_2) (by kernel_rfl) (lp_cast (binding_Under_b6_ok (some m) uz z13.2 s9_1 s9_2 s z13.1 s9_1 s9_2 (Sum.inr o16) h6) rfl (by kernel_rfl) (by kernel_rfl))⟩
  ·
   obtain ⟨o8, h7, h⟩ := bS h
   obtain ⟨o9, h8, h⟩ := bS h
   obtain rfl := si h
   exact ⟨(binding_Under_b4_O uz s9_1 s9_2 z14 s s9_1 s9_2 o8).2, sp 22 0 [], lp_wks (w := [.live [4, 9, 10, 11], .keep [4, 998]]) (s1 := binding_Under_b4_I uz s9_1 s9_2 z14 s s9_1 s9_2) (by kernel_rfl) (lp_cast (binding_Under_b4_ok (some m) uz s9_1 s9_2 z14 s s9_1 s9_2 o8 h7) rfl (by kernel_rfl) rfl), lp_wks (w := [.live [4, 5, 6, 9], .keep [4, 5, 998]]) (s1 := binding_Under_b7_I uz s9_1 s9_2 s z14 s9_1 s9_2) (by kernel_rfl) (lp_cast (binding_Under_b7_ok (some m) uz s9_1 s9_2 s z14 s9_1 s9_2 o9 h8) rfl (by kernel_rfl) (by kernel_rfl))⟩
theorem binding_Under_r1_ok (s9_1 : List TSlot) (s9_2 : List TSlot) (s : Bool) (o : (Bool) ⊕ (Bool)) (h : binding_both_1 (stepOf (binding_Under_r1_rd s9_1 s9_2)) s9_1 s9_2 (.inl s) = some o) : LpOf Try.prog none (fbody Try.prog 48) [0, 1, 0, 1] ⟨binding_Under_r1_E s9_1 s9_2, binding_Under_r1_BL s9_1 s9_2 s, (fun _ => []) s⟩ (binding_Under_r1_O s9_1 s9_2 o).1 (binding_Under_r1_O s9_1 s9_2 o).2 :=
  range_ok (p := [0, 1, 0, 1]) (g := .tmp 9) (ps := #[10, 11]) (assign := codeAt (fbody Try.prog 48) (0 :: [0, 1, 0, 1])) (body := codeAt (fbody Try.prog 48) (1 :: [0, 1, 0, 1])) (by kernel_rfl) (binding_Under_r1_BL s9_1 s9_2) (binding_Under_r1_BT s9_1 s9_2) (fun _ => []) (fun _ => []) binding_Under_r1_X binding_both_1_enc (binding_Under_r1_rd s9_1 s9_2) (gf := 75) (cs := [.eptr (D.cells ((D.l TSlot.D) s9_1)), .eptr (D.cells ((D.l TSlot.D) s9_2))]) (by kernel_rfl) (by kernel_rfl) (by kernel_rfl) (fun x => by rcases x with (_ | _) <;> exact ⟨by kernel_rfl, by kernel_rfl⟩) (fun s us => by kernel_rfl) (fun t us => by kernel_rfl) (fun s => rfl) (fun t => rfl) (by kernel_rfl) (fun t => rfl) (fun s => FOk.nil) (fun t => FOk.nil) (fun s x o h m us => binding_Under_r1_rnd s9_1 s9_2 s x o h m us) (binding_both_1_ok (stepOf (binding_Under_r1_rd s9_1 s9_2)) s9_1 s9_2 (.inl s) o h)
theorem binding_Under_ok (a0 : List TSlot) (a1 : List TSlot) (r : Bool) (h : binding_Under a0 a1 = some r) : ACall Try.prog 48 [.d ((D.l TSlot.D) a0), .d ((D.l TSlot.D) a1)] [] (.d (D.b r)) [] := by
  unfold binding_Under at h
  obtain ⟨r1, h1, h⟩ := bS h
  obtain ⟨o10, h4, h⟩ := bS h
  replace h := sumE_some h
  rcases h with ⟨o11, rfl, h⟩ | ⟨o12, rfl, h⟩
  ·
   obtain rfl := si h
   exact runF_call mixed [(9, .ret (.clo (.func 75) [] [.eptr (D.cells ((D.l TSlot.D) r1.1)), .eptr (D.cells ((D.l TSlot.D) r1.2))]))] [⟨[0, 1, 0, 1], [.live [4, 9], .keep [4]], .normal, (binding_Under_r1_O r1.1 r1.2 (Sum.inl o11)).2⟩] [] (ai (binding_both_ok a0 a1 r1 h1) (ai (binding_Under_r1_ok r1.1 r1.2 false (Sum.inl o11) h4) (ti))) (by kernel_rfl)
  ·
   obtain rfl := si h
   exact runF_call mixed [(9, .ret (.clo (.func 75) [] [.eptr (D.cells ((D.l TSlot.D) r1.1)), .eptr (D.cells ((D.l TSlot.D) r1.2))]))] [⟨[0, 1, 0, 1], [.live [4, 9], .keep [4]], .ret, (binding_Under_r1_O r1.1 r1.2 (Sum.inr o12)).2⟩] [] (ai (binding_both_ok a0 a1 r1 h1) (ai (binding_Under_r1_ok r1.1 r1.2 false (Sum.inr o12) h4) (ti))) (by kernel_rfl)
theorem extend_Greatest_1_ok (a0 : TRow) (a1 : TRow) (r : Bool) (h : extend_Greatest_1 a0 a1 = some r) : ACall Try.prog 49 [.d (TRow.D a0), .eptr (D.cells (TRow.D a1))] [] (.d (D.b r)) [] := by
  unfold extend_Greatest_1 at h
  rcases iS h with ⟨h1, h⟩ | ⟨h1, h⟩
  ·
   obtain ⟨r1, h2, h⟩ := bS h
   obtain rfl := si h
   exact runF_call mixed [(6, .int (a0.bind.length : Int)), (9, .int (a1.bind.length : Int)), (11, .bit true), (16, .ret (.d (D.b r1)))] [] [] (ai (len_map TSlot.D a0.bind) (ai (len_map TSlot.D a1.bind) (ai h1 (ai (binding_Under_ok a1.bind a0.bind r1 h2) (ti))))) (by kernel_rfl)
  ·
   obtain rfl := si h
   exact runF_call mixed [(6, .int (a0.bind.length : Int)), (9, .int (a1.bind.length : Int)), (11, .bit false)] [] [] (ai (len_map TSlot.D a0.bind) (ai (len_map TSlot.D a1.bind) (ai h1 (ti)))) (by kernel_rfl)
def slices_IndexFunc_Row_Row_l1_I (s0 : List TRow) (s1 : TRow) (s7 : Int) (s8 : Int) : St := ⟨sp 19 0 [(0, .d ((D.l TRow.D) s0)), (1, .clo (.func 49) [] [.eptr (D.cells (TRow.D s1))]), (7, .d ((D.i .i64) s7)), (8, .d ((D.i .i64) s8))], [], []⟩
def slices_IndexFunc_Row_Row_l1_O (s0 : List TRow) (s1 : TRow) (s7 : Int) (o : Unit ⊕ Int) : Ex × St := match o with
  | .inl o => (.exit 0, ⟨sp 19 0 [], [], []⟩)
  | .inr o => (.ret, ⟨sp 19 0 [(4, .d ((D.i .i64) o))], [], []⟩)
theorem slices_IndexFunc_Row_Row_l1_rnd (rd : Option Nat) (s0 : List TRow) (s1 : TRow) (s7 : Int) (s8 : Int) (o : (Int) ⊕ (Unit ⊕ Int)) (h : slices_IndexFunc_Row_Row_l1_s s0 s1 s7 s8 = some o) : Arr Try.prog rd (fbody Try.prog 67) (0 :: [0, 1, 0, 1]) (slices_IndexFunc_Row_Row_l1_I s0 s1 s7 s8) (rR (fun s : Int => slices_IndexFunc_Row_Row_l1_I s0 s1 s7 s) (slices_IndexFunc_Row_Row_l1_O s0 s1 s7) o).1 (rR (fun s : Int => slices_IndexFunc_Row_Row_l1_I s0 s1 s7 s) (slices_IndexFunc_Row_Row_l1_O s0 s1 s7) o).2 := by
  unfold slices_IndexFunc_Row_Row_l1_s at h
  rcases iS h with ⟨h1, h⟩ | ⟨h1, h⟩
  ·
   obtain ⟨x1, h2, h⟩ := xS h
   obtain ⟨r2, h3, h⟩ := bS h
   cases r2 with
   | true =>
    replace h := iteT h
    obtain rfl := si h
    exact runB_arr mixed [(9, .bit true), (14, .el (TRow.D x1)), (16, .ret (.d (D.b true)))] [] [.live [4], .keep []] (ai h1 (ai (elem_map TRow.D h2) (ai (extend_Greatest_1_ok x1 s1 true h3) (ti)))) (by kernel_rfl)
   | false =>
    replace h := iteF h
    obtain rfl := si h
    exact runB_arr mixed [(9, .bit true), (14, .el (TRow.D x1)), (16, .ret (.d (D.b false)))] [] [.live [0, 1, 7, 8], .keep []] (ai h1 (ai (elem_map TRow.D h2) (ai (extend_Greatest_1_ok x1 s1 false h3) (ti)))) (by kernel_rfl)
  ·
   obtain rfl := si h
   exact runB_arr mixed [(9, .bit false)] [] [.live [], .keep []] (ai h1 (ti)) (by kernel_rfl)
theorem slices_IndexFunc_Row_Row_l1_ok (rd : Option Nat) (s0 : List TRow) (s1 : TRow) (s7 : Int) (s8 : Int) (t : Unit ⊕ Int) (h : slices_IndexFunc_Row_Row_l1 s0 s1 s7 s8 = some t) : LpOf Try.prog rd (fbody Try.prog 67) [0, 1, 0, 1] (slices_IndexFunc_Row_Row_l1_I s0 s1 s7 s8) ((slices_IndexFunc_Row_Row_l1_O s0 s1 s7) t).1 ((slices_IndexFunc_Row_Row_l1_O s0 s1 s7) t).2 :=
  loopE_lpR (fun s : Int => slices_IndexFunc_Row_Row_l1_I s0 s1 s7 s) (slices_IndexFunc_Row_Row_l1_O s0 s1 s7) (by kernel_rfl) (fun t => isN_ne (by rcases t with (_ | _) <;> rfl)) (fun s o h => slices_IndexFunc_Row_Row_l1_rnd rd s0 s1 s7 s o h) (s := s8) (t := t) h
theorem slices_IndexFunc_Row_Row_ok (a0 : List TRow) (a1 : TRow) (r : Int) (h : slices_IndexFunc_Row_Row a0 a1 = some r) : ACall Try.prog 67 [.d ((D.l TRow.D) a0), .clo (.func 49) [] [.eptr (D.cells (TRow.D a1))]] [] (.d ((D.i .i64) r)) [] := by
  unfold slices_IndexFunc_Row_Row at h
  obtain ⟨o3, h5, h⟩ := bS h
  replace h := sumE_some h
  rcases h with ⟨o4, rfl, h⟩ | ⟨o5, rfl, h⟩
  ·
   obtain rfl := si h
   exact runF_call mixed [(7, .int (a0.length : Int))] [⟨[0, 1, 0, 1], [.live [0, 1, 7, 8], .keep []], .exit 0, (slices_IndexFunc_Row_Row_l1_O a0 a1 (a0.length : Int) (Sum.inl o4)).2⟩] [] (ai (len_map TRow.D a0) (ai (slices_IndexFunc_Row_Row_l1_ok none a0 a1 (a0.length : Int) 0 (Sum.inl o4) h5) (ti))) (by kernel_rfl)
  ·
   obtain rfl := si h
   exact runF_call mixed [(7, .int (a0.length : Int))] [⟨[0, 1, 0, 1], [.live [0, 1, 7, 8], .keep []], .ret, (slices_IndexFunc_Row_Row_l1_O a0 a1 (a0.length : Int) (Sum.inr o5)).2⟩] [] (ai (len_map TRow.D a0) (ai (slices_IndexFunc_Row_Row_l1_ok none a0 a1 (a0.length : Int) 0 (Sum.inr o5) h5) (ti))) (by kernel_rfl)
theorem slices_ContainsFunc_Row_Row_ok (a0 : List TRow) (a1 : TRow) (r : Bool) (h : slices_ContainsFunc_Row_Row a0 a1 = some r) : ACall Try.prog 50 [.d ((D.l TRow.D) a0), .clo (.func 49) [] [.eptr (D.cells (TRow.D a1))]] [] (.d (D.b r)) [] := by
  unfold slices_ContainsFunc_Row_Row at h
  obtain ⟨r1, h1, h⟩ := bS h
  obtain rfl := si h
  exact runF_call mixed [(7, .ret (.d ((D.i .i64) r1)))] [] [] (ai (slices_IndexFunc_Row_Row_ok a0 a1 r1 h1) (ti)) (by kernel_rfl)
def extend_Greatest_b5_I (s1 : List TSlot) (s12 : List TRow) (s13 : Int) (s14 : Int) (s21 : Bool) (w5 : List TRow) (w8 : TRow) : St := ⟨sp 44 0 [(1, .d ((D.l TSlot.D) s1)), (5, .row 5), (6, .nil), (8, .box 8 0), (12, .d ((D.l TRow.D) s12)), (13, .d ((D.i .i64) s13)), (14, .d ((D.i .i64) s14)), (21, .d (D.b s21))], [(5, .row 48 2 (w5.map TRow.D)), (8, .cells ((cellsA (TRow.D w8))))], []⟩
def extend_Greatest_b5_O (s1 : List TSlot) (s12 : List TRow) (s13 : Int) (s14 : Int) (s21 : Bool) (w5 : List TRow) (w8 : TRow) (o : (List TRow)) : Ex × St := (.normal, ⟨sp 44 0 [(1, .d ((D.l TSlot.D) s1)), (5, .row 5), (6, .nil), (12, .d ((D.l TRow.D) s12)), (13, .d ((D.i .i64) s13)), (14, .d ((D.i .i64) s14))], [(5, .row 48 2 (o.map TRow.D))], []⟩)
theorem extend_Greatest_b5_ok (rd : Option Nat) (s1 : List TSlot) (s12 : List TRow) (s13 : Int) (s14 : Int) (s21 : Bool) (w5 : List TRow) (w8 : TRow) (o : (List TRow)) (h : extend_Greatest_b5 s1 s12 s13 s14 s21 w5 w8 = some o) : LpOf Try.prog rd (fbody Try.prog 19) [1, 1, 0, 0, 1, 1, 0, 0, 1, 0, 1, 1] (extend_Greatest_b5_I s1 s12 s13 s14 s21 w5 w8) (extend_Greatest_b5_O s1 s12 s13 s14 s21 w5 w8 o).1 (extend_Greatest_b5_O s1 s12 s13 s14 s21 w5 w8 o).2 := by
  unfold extend_Greatest_b5 at h
  cases s21 with
  | true =>
   replace h := iteT h
   obtain ⟨h12, h⟩ := cS h
   obtain rfl := si h
   exact (runB_arr mixed [(25, .sl ((w5 ++ [w8]).map TRow.D))] [] [.live [1, 5, 6, 12, 13, 14], .keep [25], .ren 25 5, .sort] (ai (nc_ok TRow.D [w8]) (ai (nc_ok TRow.D [w8]) (ai (fit_map TRow.D h12) (ai (app_map TRow.D w5 [w8]) (ti))))) (by kernel_rfl)).lp
  | false =>
   replace h := iteF h
   obtain rfl := si h
   exact (runB_arr mixed [] [] [.live [1, 5, 6, 12, 13, 14], .keep [5]] (ti) (by kernel_rfl)).lp
def extend_Greatest_b4_I (s1 : List TSlot) (s12 : List TRow) (s13 : Int) (s14 : Int) (w5 : List TRow) : St := ⟨sp 44 0 [(1, .d ((D.l TSlot.D) s1)), (5, .row 5), (6, .nil), (12, .d ((D.l TRow.D) s12)), (13, .d ((D.i .i64) s13)), (14, .d ((D.i .i64) s14))], [(5, .row 48 2 (w5.map TRow.D))], []⟩
def extend_Greatest_b4_O (s1 : List TSlot) (s12 : List TRow) (s13 : Int) (s14 : Int) (w5 : List TRow) (o : (List TRow)) : Ex × St := (.normal, ⟨sp 44 0 [(1, .d ((D.l TSlot.D) s1)), (5, .row 5), (6, .nil), (12, .d ((D.l TRow.D) s12)), (13, .d ((D.i .i64) s13)), (14, .d ((D.i .i64) s14))], [(5, .row 48 2 (o.map TRow.D))], []⟩)
theorem extend_Greatest_b4_ok (rd : Option Nat) (s1 : List TSlot) (s12 : List TRow) (s13 : Int) (s14 : Int) (w5 : List TRow) (o : (List TRow)) (h : extend_Greatest_b4 s1 s12 s13 s14 w5 = some o) : LpOf Try.prog rd (fbody Try.prog 19) [0, 1, 1, 0, 0, 1, 0, 1, 1] (extend_Greatest_b4_I s1 s12 s13 s14 w5) (extend_Greatest_b4_O s1 s12 s13 s14 w5 o).1 (extend_Greatest_b4_O s1 s12 s13 s14 w5 o).2 := by
  unfold extend_Greatest_b4 at h
  obtain ⟨x5, h9, h⟩ := xS h
  obtain ⟨r6, h10, h⟩ := bS h
  obtain ⟨o7, h13, h⟩ := bS h
  obtain rfl := si h
  exact (runB_arr mixed [(16, .el (TRow.D x5)), (21, .ret (.d (D.b r6)))] [⟨[1, 1, 0, 0, 1, 1, 0, 0, 1, 0, 1, 1], [.live [1, 5, 6, 8, 12, 13, 14, 21], .keep [5, 8]], .normal, (extend_Greatest_b5_O s1 s12 s13 s14 r6 w5 x5 o7).2⟩] [.live [1, 5, 6, 12, 13, 14], .keep [5]] (ai (elem_map TRow.D h9) (ai (binding_Under_ok x5.bind s1 r6 h10) (ai (extend_Greatest_b5_ok rd s1 s12 s13 s14 r6 w5 x5 o7 h13) (ti)))) (by kernel_rfl)).lp
def extend_Greatest_l1_I (s1 : List TSlot) (s12 : List TRow) (s13 : Int) (s14 : Int) (w5 : List TRow) : St := ⟨sp 44 0 [(1, .d ((D.l TSlot.D) s1)), (5, .row 5), (6, .nil), (12, .d ((D.l TRow.D) s12)), (13, .d ((D.i .i64) s13)), (14, .d ((D.i .i64) s14))], [(5, .row 48 2 (w5.map TRow.D))], []⟩
def extend_Greatest_l1_O (s1 : List TSlot) (s12 : List TRow) (s13 : Int) (o : (List TRow)) : Ex × St := (.exit 0, ⟨sp 44 0 [(5, .row 5), (6, .nil)], [(5, .row 48 2 (o.map TRow.D))], []⟩)
theorem extend_Greatest_l1_rnd (rd : Option Nat) (s1 : List TSlot) (s12 : List TRow) (s13 : Int) (s14 : Int) (w5 : List TRow) (o : (Int × List TRow) ⊕ ((List TRow))) (h : extend_Greatest_l1_s s1 s12 s13 s14 w5 = some o) : Arr Try.prog rd (fbody Try.prog 19) (0 :: [0, 1, 0, 1, 1]) (extend_Greatest_l1_I s1 s12 s13 s14 w5) (rR (fun s : Int × List TRow => extend_Greatest_l1_I s1 s12 s13 s.1 s.2) (extend_Greatest_l1_O s1 s12 s13) o).1 (rR (fun s : Int × List TRow => extend_Greatest_l1_I s1 s12 s13 s.1 s.2) (extend_Greatest_l1_O s1 s12 s13) o).2 := by
  unfold extend_Greatest_l1_s at h
  rcases iS h with ⟨h8, h⟩ | ⟨h8, h⟩
  ·
   obtain ⟨o8, h14, h⟩ := bS h
   obtain rfl := si h
   exact runB_arr mixed [(15, .bit true)] [⟨[0, 1, 1, 0, 0, 1, 0, 1, 1], [.live [1, 5, 6, 12, 13, 14], .keep [5]], .normal, (extend_Greatest_b4_O s1 s12 s13 s14 w5 o8).2⟩] [.live [1, 5, 6, 12, 13, 14], .keep [5]] (ai h8 (ai (extend_Greatest_b4_ok rd s1 s12 s13 s14 w5 o8 h14) (ti))) (by kernel_rfl)
  ·
   obtain rfl := si h
   exact runB_arr mixed [(15, .bit false)] [] [.live [5, 6], .keep [5]] (ai h8 (ti)) (by kernel_rfl)
theorem extend_Greatest_l1_ok (rd : Option Nat) (s1 : List TSlot) (s12 : List TRow) (s13 : Int) (s14 : Int) (w5 : List TRow) (t : (List TRow)) (h : extend_Greatest_l1 s1 s12 s13 s14 w5 = some t) : LpOf Try.prog rd (fbody Try.prog 19) [0, 1, 0, 1, 1] (extend_Greatest_l1_I s1 s12 s13 s14 w5) ((extend_Greatest_l1_O s1 s12 s13) t).1 ((extend_Greatest_l1_O s1 s12 s13) t).2 :=
  loopE_lpR (fun s : Int × List TRow => extend_Greatest_l1_I s1 s12 s13 s.1 s.2) (extend_Greatest_l1_O s1 s12 s13) (by kernel_rfl) (fun t => isN_ne (by rfl)) (fun s o h => extend_Greatest_l1_rnd rd s1 s12 s13 s.1 s.2 o h) (s := (s14, w5)) (t := t) h
def extend_Greatest_b10_I (s28 : Int) (s29 : Int) (s37 : Bool) (w5 : List TRow) (w6 : List TRow) (w10 : TRow) : St := ⟨sp 44 0 [(5, .row 5), (6, .row 6), (10, .box 10 0), (27, .row 5), (28, .d ((D.i .i64) s28)), (29, .d ((D.i .i64) s29)), (37, .d (D.b s37))], [(5, .row 48 2 (w5.map TRow.D)), (6, .row 48 2 (w6.map TRow.D)), (10, .fz (D.cells (TRow.D w10)))], []⟩
def extend_Greatest_b10_O (s28 : Int) (s29 : Int) (s37 : Bool) (w5 : List TRow) (w6 : List TRow) (w10 : TRow) (o : (List TRow)) : Ex × St := (.normal, ⟨sp 44 0 [(5, .row 5), (6, .row 6), (27, .row 5), (28, .d ((D.i .i64) s28)), (29, .d ((D.i .i64) s29))], [(5, .row 48 2 (w5.map TRow.D)), (6, .row 48 2 (o.map TRow.D))], []⟩)
theorem extend_Greatest_b10_ok (rd : Option Nat) (s28 : Int) (s29 : Int) (s37 : Bool) (w5 : List TRow) (w6 : List TRow) (w10 : TRow) (o : (List TRow)) (h : extend_Greatest_b10 s28 s29 s37 w5 w6 w10 = some o) : LpOf Try.prog rd (fbody Try.prog 19) [1, 1, 1, 0, 0, 1, 1, 0, 0, 1, 0, 1, 1, 1] (extend_Greatest_b10_I s28 s29 s37 w5 w6 w10) (extend_Greatest_b10_O s28 s29 s37 w5 w6 w10 o).1 (extend_Greatest_b10_O s28 s29 s37 w5 w6 w10 o).2 := by
  unfold extend_Greatest_b10 at h
  cases s37 with
  | true =>
   replace h := iteT h
   obtain ⟨h27, h⟩ := cS h
   obtain rfl := si h
   exact (runB_arr mixed [(41, .sl ((w6 ++ [w10]).map TRow.D))] [] [.live [5, 6, 27, 28, 29], .keep [5, 41], .ren 41 6, .sort] (ai (nc_ok TRow.D [w10]) (ai (nc_ok TRow.D [w10]) (ai (fit_map TRow.D h27) (ai (app_map TRow.D w6 [w10]) (ti))))) (by kernel_rfl)).lp
  | false =>
   replace h := iteF h
   obtain rfl := si h
   exact (runB_arr mixed [] [] [.live [5, 6, 27, 28, 29], .keep [5, 6]] (ti) (by kernel_rfl)).lp
def extend_Greatest_b9_I (s28 : Int) (s29 : Int) (w5 : List TRow) (w6 : List TRow) : St := ⟨sp 44 0 [(5, .row 5), (6, .row 6), (27, .row 5), (28, .d ((D.i .i64) s28)), (29, .d ((D.i .i64) s29))], [(5, .row 48 2 (w5.map TRow.D)), (6, .row 48 2 (w6.map TRow.D))], []⟩
def extend_Greatest_b9_O (s28 : Int) (s29 : Int) (w5 : List TRow) (w6 : List TRow) (o : (List TRow)) : Ex × St := (.normal, ⟨sp 44 0 [(5, .row 5), (6, .row 6), (27, .row 5), (28, .d ((D.i .i64) s28)), (29, .d ((D.i .i64) s29))], [(5, .row 48 2 (w5.map TRow.D)), (6, .row 48 2 (o.map TRow.D))], []⟩)
theorem extend_Greatest_b9_ok (rd : Option Nat) (s28 : Int) (s29 : Int) (w5 : List TRow) (w6 : List TRow) (o : (List TRow)) (h : extend_Greatest_b9 s28 s29 w5 w6 = some o) : LpOf Try.prog rd (fbody Try.prog 19) [0, 1, 1, 0, 0, 1, 0, 1, 1, 1] (extend_Greatest_b9_I s28 s29 w5 w6) (extend_Greatest_b9_O s28 s29 w5 w6 o).1 (extend_Greatest_b9_O s28 s29 w5 w6 o).2 := by
  unfold extend_Greatest_b9 at h
  obtain ⟨x14, h24, h⟩ := xS h
  obtain ⟨r15, h25, h⟩ := bS h
  obtain ⟨o16, h28, h⟩ := bS h
  obtain rfl := si h
  exact (runB_arr mixed [(31, .el (TRow.D x14)), (10010, .frz), (36, .ret (.d (D.b r15)))] [⟨[1, 1, 1, 0, 0, 1, 1, 0, 0, 1, 0, 1, 1, 1], [.live [5, 6, 10, 27, 28, 29, 37], .keep [5, 6, 10]], .normal, (extend_Greatest_b10_O s28 s29 (!r15) w5 w6 x14 o16).2⟩] [.live [5, 6, 27, 28, 29], .keep [5, 6]] (ai (elem_map TRow.D h24) (ai (slices_ContainsFunc_Row_Row_ok w5 x14 r15 h25) (ai (extend_Greatest_b10_ok rd s28 s29 (!r15) w5 w6 x14 o16 h28) (ti)))) (by kernel_rfl)).lp
def extend_Greatest_l6_I (s28 : Int) (w5 : List TRow) (s29 : Int) (w6 : List TRow) : St := ⟨sp 44 0 [(5, .row 5), (6, .row 6), (27, .row 5), (28, .d ((D.i .i64) s28)), (29, .d ((D.i .i64) s29))], [(5, .row 48 2 (w5.map TRow.D)), (6, .row 48 2 (w6.map TRow.D))], []⟩
def extend_Greatest_l6_O (s28 : Int) (w5 : List TRow) (o : (List TRow)) : Ex × St := (.exit 2, ⟨sp 44 0 [(6, .row 6)], [(6, .row 48 2 (o.map TRow.D))], []⟩)
theorem extend_Greatest_l6_rnd (rd : Option Nat) (s28 : Int) (w5 : List TRow) (s29 : Int) (w6 : List TRow) (o : (Int × List TRow) ⊕ ((List TRow))) (h : extend_Greatest_l6_s s28 w5 s29 w6 = some o) : Arr Try.prog rd (fbody Try.prog 19) (0 :: [0, 1, 0, 1, 1, 1]) (extend_Greatest_l6_I s28 w5 s29 w6) (rR (fun s : Int × List TRow => extend_Greatest_l6_I s28 w5 s.1 s.2) (extend_Greatest_l6_O s28 w5) o).1 (rR (fun s : Int × List TRow => extend_Greatest_l6_I s28 w5 s.1 s.2) (extend_Greatest_l6_O s28 w5) o).2 := by
  unfold extend_Greatest_l6_s at h
  rcases iS h with ⟨h23, h⟩ | ⟨h23, h⟩
  ·
   obtain ⟨o17, h29, h⟩ := bS h
   obtain rfl := si h
   exact runB_arr mixed [(30, .bit true)] [⟨[0, 1, 1, 0, 0, 1, 0, 1, 1, 1], [.live [5, 6, 27, 28, 29], .keep [5, 6]], .normal, (extend_Greatest_b9_O s28 s29 w5 w6 o17).2⟩] [.live [5, 6, 27, 28, 29], .keep [5, 6]] (ai h23 (ai (extend_Greatest_b9_ok rd s28 s29 w5 w6 o17 h29) (ti))) (by kernel_rfl)
  ·
   obtain rfl := si h
   exact runB_arr mixed [(30, .bit false)] [] [.live [6], .keep [6]] (ai h23 (ti)) (by kernel_rfl)
theorem extend_Greatest_l6_ok (rd : Option Nat) (s28 : Int) (w5 : List TRow) (s29 : Int) (w6 : List TRow) (t : (List TRow)) (h : extend_Greatest_l6 s28 w5 s29 w6 = some t) : LpOf Try.prog rd (fbody Try.prog 19) [0, 1, 0, 1, 1, 1] (extend_Greatest_l6_I s28 w5 s29 w6) ((extend_Greatest_l6_O s28 w5) t).1 ((extend_Greatest_l6_O s28 w5) t).2 :=
  loopE_lpR (fun s : Int × List TRow => extend_Greatest_l6_I s28 w5 s.1 s.2) (extend_Greatest_l6_O s28 w5) (by kernel_rfl) (fun t => isN_ne (by rfl)) (fun s o h => extend_Greatest_l6_rnd rd s28 w5 s.1 s.2 o h) (s := (s29, w6)) (t := t) h
theorem extend_Greatest_ok (a0 : List TRow) (a1 : List TSlot) (r : List TRow) (h : extend_Greatest a0 a1 = some r) : ACall Try.prog 19 [.d ((D.l TRow.D) a0), .d ((D.l TSlot.D) a1)] [] (.d ((D.l TRow.D) r)) [] := by
  unfold extend_Greatest at h
  obtain ⟨o9, h15, h⟩ := bS h
  obtain ⟨o18, h30, h⟩ := bS h
  obtain rfl := si h
  exact runF_call mixed [(13, .int (a0.length : Int)), (28, .int (o9.length : Int))] [⟨[0, 1, 0, 1, 1], [.live [1, 5, 6, 12, 13, 14], .keep [], .nil 5 5 48 2, .sort], .exit 0, (extend_Greatest_l1_O a1 a0 (a0.length : Int) o9).2⟩, ⟨[0, 1, 0, 1, 1, 1], [.live [5, 6, 27, 28, 29], .keep [5], .nil 6 6 48 2, .sort], .exit 2, (extend_Greatest_l6_O (o9.length : Int) o9 o18).2⟩] [] (ai (len_map TRow.D a0) (ai (extend_Greatest_l1_ok none a1 a0 (a0.length : Int) 0 ([] : List TRow) o9 h15) (ai (len_map TRow.D o9) (ai (extend_Greatest_l6_ok none (o9.length : Int) o9 0 ([] : List TRow) o18 h30) (ti))))) (by kernel_rfl)
theorem slices_Clone_Config_Config_ok (l r : List TConfig) (h : slices_Clone_Config_Config l = some r) : ACall Try.prog 51 [.d (D.l TConfig.D l)] [] (.d (D.l TConfig.D r)) [] :=
  cloneE_d (ρ := ⟨fun _ => 51, fun n => if n = 4 then 4 else if n = 22 then 41 else 53, id⟩) (by_ := 32) TConfig.D rfl (cloneL mixed ⟨ "slices.Clone[[]proctor/api.Config,proctor/api.Config]", by decide, (Try.func51).trans (by kernel_rfl)⟩ Try.underlying4 Try.underlying41 (by kernel_rfl) (by kernel_rfl) (by kernel_rfl) (by kernel_rfl)) (by kernel_rfl) (by decide) l r h
theorem extend_Copy_ok (a0 : List TRow) (a1 : List TSlot) (r : List TConfig × Bool) (h : extend_Copy a0 a1 = some r) : ACall Try.prog 21 [.d ((D.l TRow.D) a0), .d ((D.l TSlot.D) a1)] [] (.tup [.d ((D.l TConfig.D) r.1), .d (D.b r.2)]) [] := by
  unfold extend_Copy at h
  obtain ⟨r1, h1, h⟩ := bS h
  rcases iS h with ⟨h2, h⟩ | ⟨h2, h⟩
  ·
   obtain rfl := si h
   exact runF_call mixed [(9, .ret (.d ((D.l TRow.D) r1))), (11, .int (r1.length : Int)), (12, .bit true)] [] [] (ai (extend_Greatest_ok a0 a1 r1 h1) (ai (len_map TRow.D r1) (ai h2 (ti)))) (by kernel_rfl)
  ·
   obtain ⟨x2, h3, h⟩ := xS h
   obtain ⟨r3, h4, h⟩ := bS h
   obtain rfl := si h
   exact runF_call mixed [(9, .ret (.d ((D.l TRow.D) r1))), (11, .int (r1.length : Int)), (12, .bit false), (14, .el (TRow.D x2)), (17, .ret (.d ((D.l TConfig.D) r3)))] [] [] (ai (extend_Greatest_ok a0 a1 r1 h1) (ai (len_map TRow.D r1) (ai h2 (ai (elem_map TRow.D h3) (ai (slices_Clone_Config_Config_ok x2.set r3 h4) (ti)))))) (by kernel_rfl)
def extend_New_l1_I (s0 : List TRow) (s1 : List THit) (s13 : List TRow) (s14 : Int) (s15 : Int) (w5 : List (List TSlot)) : St := ⟨sp 47 0 [(0, .d ((D.l TRow.D) s0)), (1, .d ((D.l THit.D) s1)), (5, .row 5), (13, .d ((D.l TRow.D) s13)), (14, .d ((D.i .i64) s14)), (15, .d ((D.i .i64) s15))], [(5, .row 23 1 (w5.map (D.l TSlot.D)))], []⟩
def extend_New_l1_O (s0 : List TRow) (s1 : List THit) (s13 : List TRow) (s14 : Int) (o : (List (List TSlot))) : Ex × St := (.exit 0, ⟨sp 47 0 [(0, .d ((D.l TRow.D) s0)), (1, .d ((D.l THit.D) s1)), (5, .row 5)], [(5, .row 23 1 (o.map (D.l TSlot.D)))], []⟩)
theorem extend_New_l1_rnd (rd : Option Nat) (s0 : List TRow) (s1 : List THit) (s13 : List TRow) (s14 : Int) (s15 : Int) (w5 : List (List TSlot)) (o : (Int × List (List TSlot)) ⊕ ((List (List TSlot)))) (h : extend_New_l1_s s0 s1 s13 s14 s15 w5 = some o) : Arr Try.prog rd (fbody Try.prog 25) (0 :: [0, 1, 0, 1, 1]) (extend_New_l1_I s0 s1 s13 s14 s15 w5) (rR (fun s : Int × List (List TSlot) => extend_New_l1_I s0 s1 s13 s14 s.1 s.2) (extend_New_l1_O s0 s1 s13 s14) o).1 (rR (fun s : Int × List (List TSlot) => extend_New_l1_I s0 s1 s13 s14 s.1 s.2) (extend_New_l1_O s0 s1 s13 s14) o).2 := by
  unfold extend_New_l1_s at h
  rcases iS h with ⟨h4, h⟩ | ⟨h4, h⟩
  ·
   obtain ⟨x2, h5, h⟩ := xS h
   obtain ⟨h6, h⟩ := cS h
   obtain rfl := si h
   exact runB_arr mixed [(16, .bit true), (17, .el (TRow.D x2)), (23, .sl ((w5 ++ [x2.bind]).map (D.l TSlot.D)))] [] [.live [0, 1, 5, 13, 14, 15], .keep [23], .ren 23 5, .sort] (ai h4 (ai (elem_map TRow.D h5) (ai (nc_ok (D.l TSlot.D) [x2.bind]) (ai (nc_ok (D.l TSlot.D) [x2.bind]) (ai (fit_map (D.l TSlot.D) h6) (ai (app_map (D.l TSlot.D) w5 [x2.bind]) (ti))))))) (by kernel_rfl)
  ·
   obtain rfl := si h
   exact runB_arr mixed [(16, .bit false)] [] [.live [0, 1, 5], .keep [5]] (ai h4 (ti)) (by kernel_rfl)
theorem extend_New_l1_ok (rd : Option Nat) (s0 : List TRow) (s1 : List THit) (s13 : List TRow) (s14 : Int) (s15 : Int) (w5 : List (List TSlot)) (t : (List (List TSlot))) (h : extend_New_l1 s0 s1 s13 s14 s15 w5 = some t) : LpOf Try.prog rd (fbody Try.prog 25) [0, 1, 0, 1, 1] (extend_New_l1_I s0 s1 s13 s14 s15 w5) ((extend_New_l1_O s0 s1 s13 s14) t).1 ((extend_New_l1_O s0 s1 s13 s14) t).2 :=
  loopE_lpR (fun s : Int × List (List TSlot) => extend_New_l1_I s0 s1 s13 s14 s.1 s.2) (extend_New_l1_O s0 s1 s13 s14) (by kernel_rfl) (fun t => isN_ne (by rfl)) (fun s o h => extend_New_l1_rnd rd s0 s1 s13 s14 s.1 s.2 o h) (s := (s15, w5)) (t := t) h
def extend_New_l2_I (s0 : List TRow) (s27 : List (List TSlot)) (s28 : Int) (s29 : Int) (w8 : List TRow) : St := ⟨sp 47 0 [(0, .d ((D.l TRow.D) s0)), (8, .row 8), (27, .d ((D.l (D.l TSlot.D)) s27)), (28, .d ((D.i .i64) s28)), (29, .d ((D.i .i64) s29))], [(8, .row 48 2 (w8.map TRow.D))], []⟩
def extend_New_l2_O (s0 : List TRow) (s27 : List (List TSlot)) (s28 : Int) (o : (List TRow)) : Ex × St := (.exit 2, ⟨sp 47 0 [(8, .row 8)], [(8, .row 48 2 (o.map TRow.D))], []⟩)
theorem extend_New_l2_rnd (rd : Option Nat) (s0 : List TRow) (s27 : List (List TSlot)) (s28 : Int) (s29 : Int) (w8 : List TRow) (o : (Int × List TRow) ⊕ ((List TRow))) (h : extend_New_l2_s s0 s27 s28 s29 w8 = some o) : Arr Try.prog rd (fbody Try.prog 25) (0 :: [0, 1, 0, 1, 1, 1, 1]) (extend_New_l2_I s0 s27 s28 s29 w8) (rR (fun s : Int × List TRow => extend_New_l2_I s0 s27 s28 s.1 s.2) (extend_New_l2_O s0 s27 s28) o).1 (rR (fun s : Int × List TRow => extend_New_l2_I s0 s27 s28 s.1 s.2) (extend_New_l2_O s0 s27 s28) o).2 := by
  unfold extend_New_l2_s at h
  rcases iS h with ⟨h13, h⟩ | ⟨h13, h⟩
  ·
   obtain ⟨x7, h14, h⟩ := xS h
   obtain ⟨r8, h15, h⟩ := bS h
   obtain ⟨h16, h⟩ := cS h
   obtain rfl := si h
   exact runB_arr mixed [(30, .bit true), (31, .el ((D.l TSlot.D) x7)), (36, .ret (.tup [.d ((D.l TConfig.D) r8.1), .d (D.b r8.2)])), (44, .sl ((w8 ++ [TRow.mk x7 r8.1]).map TRow.D))] [] [.live [0, 8, 27, 28, 29], .keep [44], .ren 44 8, .sort] (ai h13 (ai (elem_map (D.l TSlot.D) h14) (ai (extend_Copy_ok s0 x7 r8 h15) (ai (nc_ok TRow.D [TRow.mk x7 r8.1]) (ai (nc_ok TRow.D [TRow.mk x7 r8.1]) (ai (fit_map TRow.D h16) (ai (app_map TRow.D w8 [TRow.mk x7 r8.1]) (ti)))))))) (by kernel_rfl)
  ·
   obtain rfl := si h
   exact runB_arr mixed [(30, .bit false)] [] [.live [8], .keep [8]] (ai h13 (ti)) (by kernel_rfl)
theorem extend_New_l2_ok (rd : Option Nat) (s0 : List TRow) (s27 : List (List TSlot)) (s28 : Int) (s29 : Int) (w8 : List TRow) (t : (List TRow)) (h : extend_New_l2 s0 s27 s28 s29 w8 = some t) : LpOf Try.prog rd (fbody Try.prog 25) [0, 1, 0, 1, 1, 1, 1] (extend_New_l2_I s0 s27 s28 s29 w8) ((extend_New_l2_O s0 s27 s28) t).1 ((extend_New_l2_O s0 s27 s28) t).2 :=
  loopE_lpR (fun s : Int × List TRow => extend_New_l2_I s0 s27 s28 s.1 s.2) (extend_New_l2_O s0 s27 s28) (by kernel_rfl) (fun t => isN_ne (by rfl)) (fun s o h => extend_New_l2_rnd rd s0 s27 s28 s.1 s.2 o h) (s := (s29, w8)) (t := t) h
theorem extend_New_ok (a0 : List TRow) (a1 : List THit) (r : List TRow) (h : extend_New a0 a1 = some r) : ACall Try.prog 25 [.d ((D.l TRow.D) a0), .d ((D.l THit.D) a1)] [] (.d ((D.l TRow.D) r)) [] := by
  unfold extend_New at h
  obtain ⟨o3, h7, h⟩ := bS h
  obtain ⟨r4, h8, h⟩ := bS h
  obtain ⟨o9, h17, h⟩ := bS h
  obtain rfl := si h
  exact runF_call mixed [(14, .int (a0.length : Int)), (27, .ret (.d ((D.l (D.l TSlot.D)) r4))), (28, .int (r4.length : Int))] [⟨[0, 1, 0, 1, 1], [.live [0, 1, 5, 13, 14, 15], .keep [], .nil 5 5 23 1, .sort], .exit 0, (extend_New_l1_O a0 a1 a0 (a0.length : Int) o3).2⟩, ⟨[0, 1, 0, 1, 1, 1, 1], [.live [0, 8, 27, 28, 29], .keep [], .nil 8 8 48 2, .sort], .exit 2, (extend_New_l2_O a0 r4 (r4.length : Int) o9).2⟩] [] (ai (len_map TRow.D a0) (ai (extend_New_l1_ok none a0 a1 a0 (a0.length : Int) 0 ([] : List (List TSlot)) o3 h7) (ai (extend_Grow_ok o3 a1 r4 h8) (ai (len_map (D.l TSlot.D) r4) (ai (extend_New_l2_ok none a0 r4 (r4.length : Int) 0 ([] : List TRow) o9 h17) (ti)))))) (by kernel_rfl)
def ref03_Below_l1_I (s0 : List UInt8) (s1 : List UInt8) (s5 : Int) : St := ⟨sp 37 0 [(0, .d (D.s s0)), (1, .d (D.s s1)), (5, .d ((D.i .i64) s5))], [], []⟩
def ref03_Below_l1_O (s0 : List UInt8) (s1 : List UInt8) (o : Unit ⊕ Bool) : Ex × St := match o with
  | .inl o => (.exit 0, ⟨sp 37 0 [(0, .d (D.s s0)), (1, .d (D.s s1))], [], []⟩)
  | .inr o => (.ret, ⟨sp 37 0 [(4, .d (D.b o))], [], []⟩)
theorem ref03_Below_l1_rnd (rd : Option Nat) (s0 : List UInt8) (s1 : List UInt8) (s5 : Int) (o : (Int) ⊕ (Unit ⊕ Bool)) (h : ref03_Below_l1_s s0 s1 s5 = some o) : Arr Try.prog rd (fbody Try.prog 69) (0 :: [0, 1, 0, 1]) (ref03_Below_l1_I s0 s1 s5) (rR (fun s : Int => ref03_Below_l1_I s0 s1 s) (ref03_Below_l1_O s0 s1) o).1 (rR (fun s : Int => ref03_Below_l1_I s0 s1 s) (ref03_Below_l1_O s0 s1) o).2 := by
  unfold ref03_Below_l1_s at h
  rcases iS h with ⟨h1, h⟩ | ⟨h1, h⟩
  ·
   rcases iS h with ⟨h2, h⟩ | ⟨h2, h⟩
   ·
    obtain ⟨x1, h3, h⟩ := xS h
    obtain ⟨x2, h4, h⟩ := xS h
    rcases iS h with ⟨h5, h⟩ | ⟨h5, h⟩
    ·
     obtain ⟨x3, h6, h⟩ := xS h
     obtain ⟨x4, h7, h⟩ := xS h
     obtain rfl := si h
     exact runB_arr mixed [(8, .int (s0.length : Int)), (10, .bit true), (13, .int (s1.length : Int)), (15, .bit true), (20, .int x1.toNat), (23, .int x2.toNat), (24, .bit true), (27, .int x3.toNat), (30, .int x4.toNat)] [] [.live [4], .keep []] (ai (len_str s0) (ai h1 (ai (len_str s1) (ai h2 (ai (byte_ok h3) (ai (byte_ok h4) (ai h5 (ai (byte_ok h6) (ai (byte_ok h7) (ti)))))))))) (by kernel_rfl)
    ·
     obtain rfl := si h
     exact runB_arr mixed [(8, .int (s0.length : Int)), (10, .bit true), (13, .int (s1.length : Int)), (15, .bit true), (20, .int x1.toNat), (23, .int x2.toNat), (24, .bit false)] [] [.live [0, 1, 5], .keep []] (ai (len_str s0) (ai h1 (ai (len_str s1) (ai h2 (ai (byte_ok h3) (ai (byte_ok h4) (ai h5 (ti)))))))) (by kernel_rfl)
   ·
    obtain rfl := si h
    exact runB_arr mixed [(8, .int (s0.length : Int)), (10, .bit true), (13, .int (s1.length : Int)), (15, .bit false)] [] [.live [0, 1], .keep []] (ai (len_str s0) (ai h1 (ai (len_str s1) (ai h2 (ti))))) (by kernel_rfl)
  ·
   obtain rfl := si h
   exact runB_arr mixed [(8, .int (s0.length : Int)), (10, .bit false)] [] [.live [0, 1], .keep []] (ai (len_str s0) (ai h1 (ti))) (by kernel_rfl)
theorem ref03_Below_l1_ok (rd : Option Nat) (s0 : List UInt8) (s1 : List UInt8) (s5 : Int) (t : Unit ⊕ Bool) (h : ref03_Below_l1 s0 s1 s5 = some t) : LpOf Try.prog rd (fbody Try.prog 69) [0, 1, 0, 1] (ref03_Below_l1_I s0 s1 s5) ((ref03_Below_l1_O s0 s1) t).1 ((ref03_Below_l1_O s0 s1) t).2 :=
  loopE_lpR (fun s : Int => ref03_Below_l1_I s0 s1 s) (ref03_Below_l1_O s0 s1) (by kernel_rfl) (fun t => isN_ne (by rcases t with (_ | _) <;> rfl)) (fun s o h => ref03_Below_l1_rnd rd s0 s1 s o h) (s := s5) (t := t) h
theorem ref03_Below_ok (a0 : List UInt8) (a1 : List UInt8) (r : Bool) (h : ref03_Below a0 a1 = some r) : ACall Try.prog 69 [.d (D.s a0), .d (D.s a1)] [] (.d (D.b r)) [] := by
  unfold ref03_Below at h
  obtain ⟨o5, h8, h⟩ := bS h
  replace h := sumE_some h
  rcases h with ⟨o6, rfl, h⟩ | ⟨o7, rfl, h⟩
  ·
   obtain rfl := si h
   exact runF_call mixed [(33, .int (a0.length : Int)), (35, .int (a1.length : Int))] [⟨[0, 1, 0, 1], [.live [0, 1, 5], .keep []], .exit 0, (ref03_Below_l1_O a0 a1 (Sum.inl o6)).2⟩] [] (ai (ref03_Below_l1_ok none a0 a1 0 (Sum.inl o6) h8) (ai (len_str a0) (ai (len_str a1) (ti)))) (by kernel_rfl)
  ·
   obtain rfl := si h
   exact runF_call mixed [] [⟨[0, 1, 0, 1], [.live [0, 1, 5], .keep []], .ret, (ref03_Below_l1_O a0 a1 (Sum.inr o7)).2⟩] [] (ai (ref03_Below_l1_ok none a0 a1 0 (Sum.inr o7) h8) (ti)) (by kernel_rfl)
theorem ref03_Less_ok (a0 : TValue) (a1 : TValue) (r : Bool) (h : ref03_Less a0 a1 = some r) : ACall Try.prog 54 [.d (TValue.D a0), .d (TValue.D a1)] [] (.d (D.b r)) [] := by
  unfold ref03_Less at h
  rcases iS h with ⟨h1, h⟩ | ⟨h1, h⟩
  ·
   obtain rfl := si h
   exact runF_call mixed [(9, .bit true)] [] [] (ai h1 (ti)) (by kernel_rfl)
  ·
   rcases iS h with ⟨h2, h⟩ | ⟨h2, h⟩
   ·
    obtain rfl := si h
    exact runF_call mixed [(9, .bit false), (17, .bit true)] [] [] (ai h1 (ai h2 (ti))) (by kernel_rfl)
   ·
    rcases iS h with ⟨h3, h⟩ | ⟨h3, h⟩
    ·
     obtain ⟨r1, h4, h⟩ := bS h
     obtain rfl := si h
     exact runF_call mixed [(9, .bit false), (17, .bit false), (25, .bit true), (30, .ret (.d (D.b r1)))] [] [] (ai h1 (ai h2 (ai h3 (ai (ref03_Below_ok a0.str a1.str r1 h4) (ti))))) (by kernel_rfl)
    ·
     rcases iS h with ⟨h5, h⟩ | ⟨h5, h⟩
     ·
      obtain rfl := si h
      exact runF_call mixed [(9, .bit false), (17, .bit false), (25, .bit false), (34, .bit true)] [] [] (ai h1 (ai h2 (ai h3 (ai h5 (ti))))) (by kernel_rfl)
     ·
      obtain rfl := si h
      exact runF_call mixed [(9, .bit false), (17, .bit false), (25, .bit false), (34, .bit false)] [] [] (ai h1 (ai h2 (ai h3 (ai h5 (ti))))) (by kernel_rfl)
def ref05_Less_l1_I (s0 : List TSlot) (s1 : List TSlot) (s5 : Int) : St := ⟨sp 66 0 [(0, .d ((D.l TSlot.D) s0)), (1, .d ((D.l TSlot.D) s1)), (5, .d ((D.i .i64) s5))], [], []⟩
def ref05_Less_l1_O (s0 : List TSlot) (s1 : List TSlot) (o : Unit ⊕ Bool) : Ex × St := match o with
  | .inl o => (.exit 0, ⟨sp 66 0 [], [], []⟩)
  | .inr o => (.ret, ⟨sp 66 0 [(4, .d (D.b o))], [], []⟩)
theorem ref05_Less_l1_rnd (rd : Option Nat) (s0 : List TSlot) (s1 : List TSlot) (s5 : Int) (o : (Int) ⊕ (Unit ⊕ Bool)) (h : ref05_Less_l1_s s0 s1 s5 = some o) : Arr Try.prog rd (fbody Try.prog 33) (0 :: [0, 1, 0, 1, 1]) (ref05_Less_l1_I s0 s1 s5) (rR (fun s : Int => ref05_Less_l1_I s0 s1 s) (ref05_Less_l1_O s0 s1) o).1 (rR (fun s : Int => ref05_Less_l1_I s0 s1 s) (ref05_Less_l1_O s0 s1) o).2 := by
  unfold ref05_Less_l1_s at h
  rcases iS h with ⟨h2, h⟩ | ⟨h2, h⟩
  ·
   obtain ⟨x1, h3, h⟩ := xS h
   obtain ⟨x2, h4, h⟩ := xS h
   rcases iS h with ⟨h5, h⟩ | ⟨h5, h⟩
   ·
    obtain ⟨x3, h6, h⟩ := xS h
    obtain ⟨x4, h7, h⟩ := xS h
    obtain rfl := si h
    exact runB_arr mixed [(18, .int (s0.length : Int)), (19, .bit true), (24, .el (TSlot.D x1)), (29, .el (TSlot.D x2)), (32, .bit true), (35, .el (TSlot.D x3)), (40, .el (TSlot.D x4))] [] [.live [4], .keep []] (ai (len_map TSlot.D s0) (ai h2 (ai (elem_map TSlot.D h3) (ai (elem_map TSlot.D h4) (ai h5 (ai (elem_map TSlot.D h6) (ai (elem_map TSlot.D h7) (ti)))))))) (by kernel_rfl)
   ·
    obtain ⟨x5, h8, h⟩ := xS h
    obtain ⟨x6, h9, h⟩ := xS h
    rcases iS h with ⟨h10, h⟩ | ⟨h10, h⟩
    ·
     obtain ⟨x7, h11, h⟩ := xS h
     obtain ⟨x8, h12, h⟩ := xS h
     obtain ⟨r9, h13, h⟩ := bS h
     obtain rfl := si h
     exact runB_arr mixed [(18, .int (s0.length : Int)), (19, .bit true), (24, .el (TSlot.D x1)), (29, .el (TSlot.D x2)), (32, .bit false), (46, .el (TSlot.D x5)), (51, .el (TSlot.D x6)), (54, .bit true), (57, .el (TSlot.D x7)), (62, .el (TSlot.D x8)), (65, .ret (.d (D.b r9)))] [] [.live [4], .keep []] (ai (len_map TSlot.D s0) (ai h2 (ai (elem_map TSlot.D h3) (ai (elem_map TSlot.D h4) (ai h5 (ai (elem_map TSlot.D h8) (ai (elem_map TSlot.D h9) (ai h10 (ai (elem_map TSlot.D h11) (ai (elem_map TSlot.D h12) (ai (ref03_Less_ok x7.value x8.value r9 h13) (ti)))))))))))) (by kernel_rfl)
    ·
     obtain rfl := si h
     exact runB_arr mixed [(18, .int (s0.length : Int)), (19, .bit true), (24, .el (TSlot.D x1)), (29, .el (TSlot.D x2)), (32, .bit false), (46, .el (TSlot.D x5)), (51, .el (TSlot.D x6)), (54, .bit false)] [] [.live [0, 1, 5], .keep []] (ai (len_map TSlot.D s0) (ai h2 (ai (elem_map TSlot.D h3) (ai (elem_map TSlot.D h4) (ai h5 (ai (elem_map TSlot.D h8) (ai (elem_map TSlot.D h9) (ai h10 (ti))))))))) (by kernel_rfl)
  ·
   obtain rfl := si h
   exact runB_arr mixed [(18, .int (s0.length : Int)), (19, .bit false)] [] [.live [], .keep []] (ai (len_map TSlot.D s0) (ai h2 (ti))) (by kernel_rfl)
theorem ref05_Less_l1_ok (rd : Option Nat) (s0 : List TSlot) (s1 : List TSlot) (s5 : Int) (t : Unit ⊕ Bool) (h : ref05_Less_l1 s0 s1 s5 = some t) : LpOf Try.prog rd (fbody Try.prog 33) [0, 1, 0, 1, 1] (ref05_Less_l1_I s0 s1 s5) ((ref05_Less_l1_O s0 s1) t).1 ((ref05_Less_l1_O s0 s1) t).2 :=
  loopE_lpR (fun s : Int => ref05_Less_l1_I s0 s1 s) (ref05_Less_l1_O s0 s1) (by kernel_rfl) (fun t => isN_ne (by rcases t with (_ | _) <;> rfl)) (fun s o h => ref05_Less_l1_rnd rd s0 s1 s o h) (s := s5) (t := t) h
theorem ref05_Less_ok (a0 : List TSlot) (a1 : List TSlot) (r : Bool) (h : ref05_Less a0 a1 = some r) : ACall Try.prog 33 [.d ((D.l TSlot.D) a0), .d ((D.l TSlot.D) a1)] [] (.d (D.b r)) [] := by
  unfold ref05_Less at h
  rcases iS h with ⟨h1, h⟩ | ⟨h1, h⟩
  ·
   obtain rfl := si h
   exact runF_call mixed [(7, .int (a0.length : Int)), (9, .int (a1.length : Int)), (10, .bit true), (12, .int (a0.length : Int)), (14, .int (a1.length : Int))] [] [] (ai (len_map TSlot.D a0) (ai (len_map TSlot.D a1) (ai h1 (ai (len_map TSlot.D a0) (ai (len_map TSlot.D a1) (ti)))))) (by kernel_rfl)
  ·
   obtain ⟨o10, h14, h⟩ := bS h
   replace h := sumE_some h
   rcases h with ⟨o11, rfl, h⟩ | ⟨o12, rfl, h⟩
   ·
    obtain rfl := si h
    exact runF_call mixed [(7, .int (a0.length : Int)), (9, .int (a1.length : Int)), (10, .bit false)] [⟨[0, 1, 0, 1, 1], [.live [0, 1, 5], .keep []], .exit 0, (ref05_Less_l1_O a0 a1 (Sum.inl o11)).2⟩] [] (ai (len_map TSlot.D a0) (ai (len_map TSlot.D a1) (ai h1 (ai (ref05_Less_l1_ok none a0 a1 0 (Sum.inl o11) h14) (ti))))) (by kernel_rfl)
   ·
    obtain rfl := si h
    exact runF_call mixed [(7, .int (a0.length : Int)), (9, .int (a1.length : Int)), (10, .bit false)] [⟨[0, 1, 0, 1, 1], [.live [0, 1, 5], .keep []], .ret, (ref05_Less_l1_O a0 a1 (Sum.inr o12)).2⟩] [] (ai (len_map TSlot.D a0) (ai (len_map TSlot.D a1) (ai h1 (ai (ref05_Less_l1_ok none a0 a1 0 (Sum.inr o12) h14) (ti))))) (by kernel_rfl)
def ref24_Insert_l1_I (s0 : List TRow) (w3 : TRow) (s5 : Int) : St := ⟨sp 38 0 [(0, .d ((D.l TRow.D) s0)), (3, .box 3 0), (5, .d ((D.i .i64) s5))], [(3, .cells ((cellsA (TRow.D w3))))], []⟩
def ref24_Insert_l1_O (s0 : List TRow) (w3 : TRow) (o : Int) : Ex × St := (.exit 0, ⟨sp 38 0 [(0, .d ((D.l TRow.D) s0)), (3, .box 3 0), (5, .d ((D.i .i64) o))], [(3, .cells ((cellsA (TRow.D w3))))], []⟩)
theorem ref24_Insert_l1_rnd (rd : Option Nat) (s0 : List TRow) (w3 : TRow) (s5 : Int) (o : (Int) ⊕ (Int)) (h : ref24_Insert_l1_s s0 w3 s5 = some o) : Arr Try.prog rd (fbody Try.prog 26) (0 :: [0, 0, 1, 1]) (ref24_Insert_l1_I s0 w3 s5) (rR (fun s : Int => ref24_Insert_l1_I s0 w3 s) (ref24_Insert_l1_O s0 w3) o).1 (rR (fun s : Int => ref24_Insert_l1_I s0 w3 s) (ref24_Insert_l1_O s0 w3) o).2 := by
  unfold ref24_Insert_l1_s at h
  rcases iS h with ⟨h1, h⟩ | ⟨h1, h⟩
  ·
   obtain ⟨x1, h2, h⟩ := xS h
   obtain ⟨r2, h3, h⟩ := bS h
   cases r2 with
   | true =>
    replace h := iteT h
    obtain rfl := si h
    exact runB_arr mixed [(11, .bit true), (17, .el (TRow.D x1)), (20, .ret (.d (D.b true)))] [] [.live [0, 3, 5], .keep [3]] (ai h1 (ai (elem_map TRow.D h2) (ai (ref05_Less_ok w3.bind x1.bind true h3) (ti)))) (by kernel_rfl)
   | false =>
    replace h := iteF h
    obtain rfl := si h
    exact runB_arr mixed [(11, .bit true), (17, .el (TRow.D x1)), (20, .ret (.d (D.b false)))] [] [.live [0, 3, 5], .keep [3]] (ai h1 (ai (elem_map TRow.D h2) (ai (ref05_Less_ok w3.bind x1.bind false h3) (ti)))) (by kernel_rfl)
  ·
   obtain rfl := si h
   exact runB_arr mixed [(11, .bit false)] [] [.live [0, 3, 5], .keep [3]] (ai h1 (ti)) (by kernel_rfl)
theorem ref24_Insert_l1_ok (rd : Option Nat) (s0 : List TRow) (w3 : TRow) (s5 : Int) (t : Int) (h : ref24_Insert_l1 s0 w3 s5 = some t) : LpOf Try.prog rd (fbody Try.prog 26) [0, 0, 1, 1] (ref24_Insert_l1_I s0 w3 s5) ((ref24_Insert_l1_O s0 w3) t).1 ((ref24_Insert_l1_O s0 w3) t).2 :=
  loopE_lpR (fun s : Int => ref24_Insert_l1_I s0 w3 s) (ref24_Insert_l1_O s0 w3) (by kernel_rfl) (fun t => isN_ne (by rfl)) (fun s o h => ref24_Insert_l1_rnd rd s0 w3 s o h) (s := s5) (t := t) h
theorem ref24_Insert_ok (a0 : List TRow) (a1 : TRow) (r : List TRow) (h : ref24_Insert a0 a1 = some r) : ACall Try.prog 26 [.d ((D.l TRow.D) a0), .d (TRow.D a1)] [] (.d ((D.l TRow.D) r)) [] := by
  unfold ref24_Insert at h
  obtain ⟨o3, h5, h⟩ := bS h
  obtain ⟨h6, h⟩ := cS h
  obtain ⟨h7, h⟩ := cS h
  obtain ⟨h8, h⟩ := cS h
  obtain ⟨h9, h⟩ := cS h
  obtain ⟨h10, h⟩ := cS h
  obtain rfl := si h
  exact runF_call mixed [(8, .int (a0.length : Int)), (27, .sl ((sub a0 0 o3).map TRow.D)), (28, .sl ((([] : List TRow) ++ (sub a0 0 o3)).map TRow.D)), (32, .sl (((([] : List TRow) ++ (sub a0 0 o3)) ++ [a1]).map TRow.D)), (36, .sl ((sub a0 o3 (a0.length : Int)).map TRow.D)), (37, .sl ((((([] : List TRow) ++ (sub a0 0 o3)) ++ [a1]) ++ (sub a0 o3 (a0.length : Int))).map TRow.D))] [⟨[0, 0, 1, 1], [.live [0, 3, 5], .keep [3]], .exit 0, (ref24_Insert_l1_O a0 a1 o3).2⟩] [] (ai (len_map TRow.D a0) (ai (ref24_Insert_l1_ok none a0 a1 (a0.length : Int) o3 h5) (ai (nc_ok TRow.D ([] : List TRow)) (ai (cut_some TRow.D h6) (ai (nc_ok TRow.D (sub a0 0 o3)) (ai (fit_map TRow.D h7) (ai (app_map TRow.D ([] : List TRow) (sub a0 0 o3)) (ai (nc_ok TRow.D [a1]) (ai (nc_ok TRow.D [a1]) (ai (fit_map TRow.D h8) (ai (app_map TRow.D (([] : List TRow) ++ (sub a0 0 o3)) [a1]) (ai (cut_none TRow.D h9) (ai (nc_ok TRow.D (sub a0 o3 (a0.length : Int))) (ai (fit_map TRow.D h10) (ai (app_map TRow.D ((([] : List TRow) ++ (sub a0 0 o3)) ++ [a1]) (sub a0 o3 (a0.length : Int))) (ti)))))))))))))))) (by kernel_rfl)
def ref26_Binds_l1_I (s0 : List TRow) (s4 : Int) (w3 : List (List TSlot)) : St := ⟨sp 20 0 [(0, .d ((D.l TRow.D) s0)), (3, .row 3), (4, .d ((D.i .i64) s4))], [(3, .row 23 1 (w3.map (D.l TSlot.D)))], []⟩
def ref26_Binds_l1_O (s0 : List TRow) (o : (List (List TSlot))) : Ex × St := (.exit 0, ⟨sp 20 0 [(3, .row 3)], [(3, .row 23 1 (o.map (D.l TSlot.D)))], []⟩)
theorem ref26_Binds_l1_rnd (rd : Option Nat) (s0 : List TRow) (s4 : Int) (w3 : List (List TSlot)) (o : (Int × List (List TSlot)) ⊕ ((List (List TSlot)))) (h : ref26_Binds_l1_s s0 s4 w3 = some o) : Arr Try.prog rd (fbody Try.prog 24) (0 :: [0, 1, 0, 1, 1]) (ref26_Binds_l1_I s0 s4 w3) (rR (fun s : Int × List (List TSlot) => ref26_Binds_l1_I s0 s.1 s.2) (ref26_Binds_l1_O s0) o).1 (rR (fun s : Int × List (List TSlot) => ref26_Binds_l1_I s0 s.1 s.2) (ref26_Binds_l1_O s0) o).2 := by
  unfold ref26_Binds_l1_s at h
  rcases iS h with ⟨h4, h⟩ | ⟨h4, h⟩
  ·
   obtain ⟨x2, h5, h⟩ := xS h
   obtain ⟨h6, h⟩ := cS h
   obtain rfl := si h
   exact runB_arr mixed [(7, .int (s0.length : Int)), (8, .bit true), (14, .el (TRow.D x2)), (18, .sl ((w3 ++ [x2.bind]).map (D.l TSlot.D)))] [] [.live [0, 3, 4], .keep [18], .ren 18 3, .sort] (ai (len_map TRow.D s0) (ai h4 (ai (elem_map TRow.D h5) (ai (nc_ok (D.l TSlot.D) [x2.bind]) (ai (nc_ok (D.l TSlot.D) [x2.bind]) (ai (fit_map (D.l TSlot.D) h6) (ai (app_map (D.l TSlot.D) w3 [x2.bind]) (ti)))))))) (by kernel_rfl)
  ·
   obtain rfl := si h
   exact runB_arr mixed [(7, .int (s0.length : Int)), (8, .bit false)] [] [.live [3], .keep [3]] (ai (len_map TRow.D s0) (ai h4 (ti))) (by kernel_rfl)
theorem ref26_Binds_l1_ok (rd : Option Nat) (s0 : List TRow) (s4 : Int) (w3 : List (List TSlot)) (t : (List (List TSlot))) (h : ref26_Binds_l1 s0 s4 w3 = some t) : LpOf Try.prog rd (fbody Try.prog 24) [0, 1, 0, 1, 1] (ref26_Binds_l1_I s0 s4 w3) ((ref26_Binds_l1_O s0) t).1 ((ref26_Binds_l1_O s0) t).2 :=
  loopE_lpR (fun s : Int × List (List TSlot) => ref26_Binds_l1_I s0 s.1 s.2) (ref26_Binds_l1_O s0) (by kernel_rfl) (fun t => isN_ne (by rfl)) (fun s o h => ref26_Binds_l1_rnd rd s0 s.1 s.2 o h) (s := (s4, w3)) (t := t) h
theorem ref26_Binds_ok (a0 : List TRow) (r : List (List TSlot)) (h : ref26_Binds a0 = some r) : ACall Try.prog 24 [.d ((D.l TRow.D) a0)] [] (.d ((D.l (D.l TSlot.D)) r)) [] := by
  unfold ref26_Binds at h
  obtain ⟨o3, h7, h⟩ := bS h
  obtain rfl := si h
  exact runF_call mixed [] [⟨[0, 1, 0, 1, 1], [.live [0, 3, 4], .keep [], .nil 3 3 23 1, .sort], .exit 0, (ref26_Binds_l1_O a0 o3).2⟩] [] (ai (ref26_Binds_l1_ok none a0 0 ([] : List (List TSlot)) o3 h7) (ti)) (by kernel_rfl)
def ref05_Get_l1_I (s0 : List TSlot) (s1 : Int) (w4 : TValue) (s6 : Int) : St := ⟨sp 26 0 [(0, .d ((D.l TSlot.D) s0)), (1, .d ((D.i .i64) s1)), (4, .box 4 0), (6, .d ((D.i .i64) s6))], [(4, .cells ((cellsA (TValue.D w4))))], []⟩
def ref05_Get_l1_O (s0 : List TSlot) (s1 : Int) (w4 : TValue) (o : Unit ⊕ TValue) : Ex × St := match o with
  | .inl o => (.exit 0, ⟨sp 26 0 [(4, .box 4 0)], [(4, .cells ((cellsA (TValue.D w4))))], []⟩)
  | .inr o => (.ret, ⟨sp 26 0 [(4, .box 4 0), (5, .d (D.b true))], [(4, .cells ((cellsA (TValue.D o))))], []⟩)
theorem ref05_Get_l1_rnd (rd : Option Nat) (s0 : List TSlot) (s1 : Int) (w4 : TValue) (s6 : Int) (o : (Int) ⊕ (Unit ⊕ TValue)) (h : ref05_Get_l1_s s0 s1 w4 s6 = some o) : Arr Try.prog rd (fbody Try.prog 31) (0 :: [0, 1, 0, 1]) (ref05_Get_l1_I s0 s1 w4 s6) (rR (fun s : Int => ref05_Get_l1_I s0 s1 w4 s) (ref05_Get_l1_O s0 s1 w4) o).1 (rR (fun s : Int => ref05_Get_l1_I s0 s1 w4 s) (ref05_Get_l1_O s0 s1 w4) o).2 := by
  unfold ref05_Get_l1_s at h
  rcases iS h with ⟨h1, h⟩ | ⟨h1, h⟩
  ·
   obtain ⟨x1, h2, h⟩ := xS h
   rcases iS h with ⟨h3, h⟩ | ⟨h3, h⟩
   ·
    obtain ⟨x2, h4, h⟩ := xS h
    obtain rfl := si h
    exact runB_arr mixed [(9, .int (s0.length : Int)), (10, .bit true), (15, .el (TSlot.D x1)), (19, .bit true), (22, .el (TSlot.D x2))] [] [.live [4, 5], .keep [4]] (ai (len_map TSlot.D s0) (ai h1 (ai (elem_map TSlot.D h2) (ai h3 (ai (elem_map TSlot.D h4) (ti)))))) (by kernel_rfl)
   ·
    obtain rfl := si h
    exact runB_arr mixed [(9, .int (s0.length : Int)), (10, .bit true), (15, .el (TSlot.D x1)), (19, .bit false)] [] [.live [0, 1, 4, 6], .keep [4]] (ai (len_map TSlot.D s0) (ai h1 (ai (elem_map TSlot.D h2) (ai h3 (ti))))) (by kernel_rfl)
  ·
   obtain rfl := si h
   exact runB_arr mixed [(9, .int (s0.length : Int)), (10, .bit false)] [] [.live [4], .keep [4]] (ai (len_map TSlot.D s0) (ai h1 (ti))) (by kernel_rfl)
theorem ref05_Get_l1_ok (rd : Option Nat) (s0 : List TSlot) (s1 : Int) (w4 : TValue) (s6 : Int) (t : Unit ⊕ TValue) (h : ref05_Get_l1 s0 s1 w4 s6 = some t) : LpOf Try.prog rd (fbody Try.prog 31) [0, 1, 0, 1] (ref05_Get_l1_I s0 s1 w4 s6) ((ref05_Get_l1_O s0 s1 w4) t).1 ((ref05_Get_l1_O s0 s1 w4) t).2 :=
  loopE_lpR (fun s : Int => ref05_Get_l1_I s0 s1 w4 s) (ref05_Get_l1_O s0 s1 w4) (by kernel_rfl) (fun t => isN_ne (by rcases t with (_ | _) <;> rfl)) (fun s o h => ref05_Get_l1_rnd rd s0 s1 w4 s o h) (s := s6) (t := t) h
theorem ref05_Get_ok (a0 : List TSlot) (a1 : Int) (r : TValue × Bool) (h : ref05_Get a0 a1 = some r) : ACall Try.prog 31 [.d ((D.l TSlot.D) a0), .d ((D.i .i64) a1)] [] (.tup [.d (TValue.D r.1), .d (D.b r.2)]) [] := by
  unfold ref05_Get at h
  obtain ⟨o3, h5, h⟩ := bS h
  replace h := sumE_some h
  rcases h with ⟨o4, rfl, h⟩ | ⟨o5, rfl, h⟩
  ·
   obtain rfl := si h
   exact runF_call mixed [] [⟨[0, 1, 0, 1], [.live [0, 1, 4, 6], .keep [4]], .exit 0, (ref05_Get_l1_O a0 a1 (TValue.mk 0 0 ([] : List UInt8) false) (Sum.inl o4)).2⟩] [] (ai (ref05_Get_l1_ok none a0 a1 (TValue.mk 0 0 ([] : List UInt8) false) 0 (Sum.inl o4) h5) (ti)) (by kernel_rfl)
  ·
   obtain rfl := si h
   exact runF_call mixed [] [⟨[0, 1, 0, 1], [.live [0, 1, 4, 6], .keep [4]], .ret, (ref05_Get_l1_O a0 a1 (TValue.mk 0 0 ([] : List UInt8) false) (Sum.inr o5)).2⟩] [] (ai (ref05_Get_l1_ok none a0 a1 (TValue.mk 0 0 ([] : List UInt8) false) 0 (Sum.inr o5) h5) (ti)) (by kernel_rfl)
def ref05_Fits_l1_I (s0 : List TSlot) (s1 : List TSlot) (s5 : Int) : St := ⟨sp 34 0 [(0, .d ((D.l TSlot.D) s0)), (1, .d ((D.l TSlot.D) s1)), (5, .d ((D.i .i64) s5))], [], []⟩
def ref05_Fits_l1_O (s0 : List TSlot) (s1 : List TSlot) (o : Unit ⊕ Unit) : Ex × St := match o with
  | .inl o => (.exit 0, ⟨sp 34 0 [], [], []⟩)
  | .inr o => (.ret, ⟨sp 34 0 [(4, .d (D.b false))], [], []⟩)
theorem ref05_Fits_l1_rnd (rd : Option Nat) (s0 : List TSlot) (s1 : List TSlot) (s5 : Int) (o : (Int) ⊕ (Unit ⊕ Unit)) (h : ref05_Fits_l1_s s0 s1 s5 = some o) : Arr Try.prog rd (fbody Try.prog 10) (0 :: [0, 1, 0, 1]) (ref05_Fits_l1_I s0 s1 s5) (rR (fun s : Int => ref05_Fits_l1_I s0 s1 s) (ref05_Fits_l1_O s0 s1) o).1 (rR (fun s : Int => ref05_Fits_l1_I s0 s1 s) (ref05_Fits_l1_O s0 s1) o).2 := by
  unfold ref05_Fits_l1_s at h
  rcases iS h with ⟨h1, h⟩ | ⟨h1, h⟩
  ·
   obtain ⟨x1, h2, h⟩ := xS h
   obtain ⟨r2, h3, h⟩ := bS h
   rcases iS h with ⟨h4, h⟩ | ⟨h4, h⟩
   ·
    obtain ⟨x3, h5, h⟩ := xS h
    rcases iS h with ⟨h6, h⟩ | ⟨h6, h⟩
    ·
     obtain rfl := si h
     exact runB_arr mixed [(10, .int (s0.length : Int)), (11, .bit true), (18, .el (TSlot.D x1)), (21, .ret (.tup [.d (TValue.D r2.1), .d (D.b r2.2)])), (25, .bit true), (29, .el (TSlot.D x3)), (33, .bit true)] [] [.live [4], .keep []] (ai (len_map TSlot.D s0) (ai h1 (ai (elem_map TSlot.D h2) (ai (ref05_Get_ok s1 x1.var r2 h3) (ai h4 (ai (elem_map TSlot.D h5) (ai h6 (ti)))))))) (by kernel_rfl)
    ·
     obtain rfl := si h
     exact runB_arr mixed [(10, .int (s0.length : Int)), (11, .bit true), (18, .el (TSlot.D x1)), (21, .ret (.tup [.d (TValue.D r2.1), .d (D.b r2.2)])), (25, .bit true), (29, .el (TSlot.D x3)), (33, .bit false)] [] [.live [0, 1, 5], .keep []] (ai (len_map TSlot.D s0) (ai h1 (ai (elem_map TSlot.D h2) (ai (ref05_Get_ok s1 x1.var r2 h3) (ai h4 (ai (elem_map TSlot.D h5) (ai h6 (ti)))))))) (by kernel_rfl)
   ·
    obtain rfl := si h
    exact runB_arr mixed [(10, .int (s0.length : Int)), (11, .bit true), (18, .el (TSlot.D x1)), (21, .ret (.tup [.d (TValue.D r2.1), .d (D.b r2.2)])), (25, .bit false)] [] [.live [0, 1, 5], .keep []] (ai (len_map TSlot.D s0) (ai h1 (ai (elem_map TSlot.D h2) (ai (ref05_Get_ok s1 x1.var r2 h3) (ai h4 (ti)))))) (by kernel_rfl)
  ·
   obtain rfl := si h
   exact runB_arr mixed [(10, .int (s0.length : Int)), (11, .bit false)] [] [.live [], .keep []] (ai (len_map TSlot.D s0) (ai h1 (ti))) (by kernel_rfl)
theorem ref05_Fits_l1_ok (rd : Option Nat) (s0 : List TSlot) (s1 : List TSlot) (s5 : Int) (t : Unit ⊕ Unit) (h : ref05_Fits_l1 s0 s1 s5 = some t) : LpOf Try.prog rd (fbody Try.prog 10) [0, 1, 0, 1] (ref05_Fits_l1_I s0 s1 s5) ((ref05_Fits_l1_O s0 s1) t).1 ((ref05_Fits_l1_O s0 s1) t).2 :=
  loopE_lpR (fun s : Int => ref05_Fits_l1_I s0 s1 s) (ref05_Fits_l1_O s0 s1) (by kernel_rfl) (fun t => isN_ne (by rcases t with (_ | _) <;> rfl)) (fun s o h => ref05_Fits_l1_rnd rd s0 s1 s o h) (s := s5) (t := t) h
theorem ref05_Fits_ok (a0 : List TSlot) (a1 : List TSlot) (r : Bool) (h : ref05_Fits a0 a1 = some r) : ACall Try.prog 10 [.d ((D.l TSlot.D) a0), .d ((D.l TSlot.D) a1)] [] (.d (D.b r)) [] := by
  unfold ref05_Fits at h
  obtain ⟨o4, h7, h⟩ := bS h
  replace h := sumE_some h
  rcases h with ⟨o5, rfl, h⟩ | ⟨o6, rfl, h⟩
  ·
   obtain rfl := si h
   exact runF_call mixed [] [⟨[0, 1, 0, 1], [.live [0, 1, 5], .keep []], .exit 0, (ref05_Fits_l1_O a0 a1 (Sum.inl o5)).2⟩] [] (ai (ref05_Fits_l1_ok none a0 a1 0 (Sum.inl o5) h7) (ti)) (by kernel_rfl)
  ·
   obtain rfl := si h
   exact runF_call mixed [] [⟨[0, 1, 0, 1], [.live [0, 1, 5], .keep []], .ret, (ref05_Fits_l1_O a0 a1 (Sum.inr o6)).2⟩] [] (ai (ref05_Fits_l1_ok none a0 a1 0 (Sum.inr o6) h7) (ti)) (by kernel_rfl)
def ref05_Union_b7_I (s0 : List TSlot) (s1 : List TSlot) (s6 : Int) (s34 : Bool) (w5 : List TSlot) (w9 : TValue) : St := ⟨sp 42 0 [(0, .d ((D.l TSlot.D) s0)), (1, .d ((D.l TSlot.D) s1)), (5, .row 5), (6, .d ((D.i .i64) s6)), (9, .box 9 0), (34, .d (D.b s34))], [(5, .row 60 5 (w5.map TSlot.D)), (9, .cells ((cellsA (TValue.D w9))))], []⟩
def ref05_Union_b7_O (s0 : List TSlot) (s1 : List TSlot) (s6 : Int) (s34 : Bool) (w5 : List TSlot) (w9 : TValue) (o : (List TSlot)) : Ex × St := (.normal, ⟨sp 42 0 [(0, .d ((D.l TSlot.D) s0)), (1, .d ((D.l TSlot.D) s1)), (5, .row 5), (6, .d ((D.i .i64) s6))], [(5, .row 60 5 (o.map TSlot.D))], []⟩)
theorem ref05_Union_b7_ok (rd : Option Nat) (s0 : List TSlot) (s1 : List TSlot) (s6 : Int) (s34 : Bool) (w5 : List TSlot) (w9 : TValue) (o : (List TSlot)) (h : ref05_Union_b7 s0 s1 s6 s34 w5 w9 = some o) : LpOf Try.prog rd (fbody Try.prog 12) [1, 1, 1, 1, 1, 0, 0, 1, 0, 0, 1, 0, 1, 1] (ref05_Union_b7_I s0 s1 s6 s34 w5 w9) (ref05_Union_b7_O s0 s1 s6 s34 w5 w9 o).1 (ref05_Union_b7_O s0 s1 s6 s34 w5 w9 o).2 := by
  unfold ref05_Union_b7 at h
  cases s34 with
  | true =>
   replace h := iteT h
   obtain ⟨h17, h⟩ := cS h
   obtain rfl := si h
   exact (runB_arr mixed [(40, .sl ((w5 ++ [TSlot.mk s6 w9]).map TSlot.D))] [] [.live [0, 1, 5, 6], .keep [40], .ren 40 5, .sort] (ai (nc_ok TSlot.D [TSlot.mk s6 w9]) (ai (nc_ok TSlot.D [TSlot.mk s6 w9]) (ai (fit_map TSlot.D h17) (ai (app_map TSlot.D w5 [TSlot.mk s6 w9]) (ti))))) (by kernel_rfl)).lp
  | false =>
   replace h := iteF h
   obtain rfl := si h
   exact (runB_arr mixed [] [] [.live [0, 1, 5, 6], .keep [5]] (ti) (by kernel_rfl)).lp
def ref05_Union_b6_I (s0 : List TSlot) (s1 : List TSlot) (s6 : Int) (s10 : Bool) (s27 : Bool) (w5 : List TSlot) (w7 : TValue) (w9 : TValue) : St := ⟨sp 42 0 [(0, .d ((D.l TSlot.D) s0)), (1, .d ((D.l TSlot.D) s1)), (5, .row 5), (6, .d ((D.i .i64) s6)), (7, .box 7 0), (9, .box 9 0), (10, .d (D.b s10)), (27, .d (D.b s27))], [(5, .row 60 5 (w5.map TSlot.D)), (7, .cells ((cellsA (TValue.D w7)))), (9, .cells ((cellsA (TValue.D w9))))], []⟩
def ref05_Union_b6_O (s0 : List TSlot) (s1 : List TSlot) (s6 : Int) (s10 : Bool) (s27 : Bool) (w5 : List TSlot) (w7 : TValue) (w9 : TValue) (o : (List TSlot)) : Ex × St := (.normal, ⟨sp 42 0 [(0, .d ((D.l TSlot.D) s0)), (1, .d ((D.l TSlot.D) s1)), (5, .row 5), (6, .d ((D.i .i64) s6))], [(5, .row 60 5 (o.map TSlot.D))], []⟩)
theorem ref05_Union_b6_ok (rd : Option Nat) (s0 : List TSlot) (s1 : List TSlot) (s6 : Int) (s10 : Bool) (s27 : Bool) (w5 : List TSlot) (w7 : TValue) (w9 : TValue) (o : (List TSlot)) (h : ref05_Union_b6 s0 s1 s6 s10 s27 w5 w7 w9 = some o) : LpOf Try.prog rd (fbody Try.prog 12) [1, 1, 1, 0, 0, 1, 0, 0, 1, 0, 1, 1] (ref05_Union_b6_I s0 s1 s6 s10 s27 w5 w7 w9) (ref05_Union_b6_O s0 s1 s6 s10 s27 w5 w7 w9 o).1 (ref05_Union_b6_O s0 s1 s6 s10 s27 w5 w7 w9 o).2 := by
  unfold ref05_Union_b6 at h
  cases s27 with
  | true =>
   replace h := iteT h
   obtain ⟨h15, h⟩ := cS h
   obtain rfl := si h
   exact (runB_arr mixed [(33, .sl ((w5 ++ [TSlot.mk s6 w7]).map TSlot.D))] [] [.live [0, 1, 5, 6], .keep [33], .ren 33 5, .sort] (ai (nc_ok TSlot.D [TSlot.mk s6 w7]) (ai (nc_ok TSlot.D [TSlot.mk s6 w7]) (ai (fit_map TSlot.D h15) (ai (app_map TSlot.D w5 [TSlot.mk s6 w7]) (ti))))) (by kernel_rfl)).lp
  | false =>
   replace h := iteF h
   obtain ⟨o8, h18, h⟩ := bS h
   obtain rfl := si h
   exact (runB_arr mixed [] [⟨[1, 1, 1, 1, 1, 0, 0, 1, 0, 0, 1, 0, 1, 1], [.live [0, 1, 5, 6, 9, 34], .keep [5, 9]], .normal, (ref05_Union_b7_O s0 s1 s6 s10 w5 w9 o8).2⟩] [.live [0, 1, 5, 6], .keep [5]] (ai (ref05_Union_b7_ok rd s0 s1 s6 s10 w5 w9 o8 h18) (ti)) (by kernel_rfl)).lp
def ref05_Union_b5_I (s0 : List TSlot) (s1 : List TSlot) (s6 : Int) (w5 : List TSlot) : St := ⟨sp 42 0 [(0, .d ((D.l TSlot.D) s0)), (1, .d ((D.l TSlot.D) s1)), (5, .row 5), (6, .d ((D.i .i64) s6))], [(5, .row 60 5 (w5.map TSlot.D))], []⟩
def ref05_Union_b5_O (s0 : List TSlot) (s1 : List TSlot) (s6 : Int) (w5 : List TSlot) (o : (List TSlot)) : Ex × St := (.normal, ⟨sp 42 0 [(0, .d ((D.l TSlot.D) s0)), (1, .d ((D.l TSlot.D) s1)), (5, .row 5), (6, .d ((D.i .i64) s6))], [(5, .row 60 5 (o.map TSlot.D))], []⟩)
theorem ref05_Union_b5_ok (rd : Option Nat) (s0 : List TSlot) (s1 : List TSlot) (s6 : Int) (w5 : List TSlot) (o : (List TSlot)) (h : ref05_Union_b5 s0 s1 s6 w5 = some o) : LpOf Try.prog rd (fbody Try.prog 12) [0, 1, 0, 0, 1, 0, 1, 1] (ref05_Union_b5_I s0 s1 s6 w5) (ref05_Union_b5_O s0 s1 s6 w5 o).1 (ref05_Union_b5_O s0 s1 s6 w5 o).2 := by
  unfold ref05_Union_b5 at h
  obtain ⟨r6, h12, h⟩ := bS h
  obtain ⟨r7, h13, h⟩ := bS h
  obtain ⟨o9, h19, h⟩ := bS h
  obtain rfl := si h
  exact (runB_arr mixed [(18, .ret (.tup [.d (TValue.D r6.1), .d (D.b r6.2)])), (24, .ret (.tup [.d (TValue.D r7.1), .d (D.b r7.2)]))] [⟨[1, 1, 1, 0, 0, 1, 0, 0, 1, 0, 1, 1], [.live [0, 1, 5, 6, 7, 9, 10, 27], .keep [5, 7, 9]], .normal, (ref05_Union_b6_O s0 s1 s6 r7.2 r6.2 w5 r6.1 r7.1 o9).2⟩] [.live [0, 1, 5, 6], .keep [5]] (ai (ref05_Get_ok s0 s6 r6 h12) (ai (ref05_Get_ok s1 s6 r7 h13) (ai (ref05_Union_b6_ok rd s0 s1 s6 r7.2 r6.2 w5 r6.1 r7.1 o9 h19) (ti)))) (by kernel_rfl)).lp
def ref05_Union_l1_I (s0 : List TSlot) (s1 : List TSlot) (s6 : Int) (w5 : List TSlot) : St := ⟨sp 42 0 [(0, .d ((D.l TSlot.D) s0)), (1, .d ((D.l TSlot.D) s1)), (5, .row 5), (6, .d ((D.i .i64) s6))], [(5, .row 60 5 (w5.map TSlot.D))], []⟩
def ref05_Union_l1_O (s0 : List TSlot) (s1 : List TSlot) (o : (List TSlot)) : Ex × St := (.exit 0, ⟨sp 42 0 [(5, .row 5)], [(5, .row 60 5 (o.map TSlot.D))], []⟩)
theorem ref05_Union_l1_rnd (rd : Option Nat) (s0 : List TSlot) (s1 : List TSlot) (s6 : Int) (w5 : List TSlot) (o : (Int × List TSlot) ⊕ ((List TSlot))) (h : ref05_Union_l1_s s0 s1 s6 w5 = some o) : Arr Try.prog rd (fbody Try.prog 12) (0 :: [0, 1, 0, 1, 1]) (ref05_Union_l1_I s0 s1 s6 w5) (rR (fun s : Int × List TSlot => ref05_Union_l1_I s0 s1 s.1 s.2) (ref05_Union_l1_O s0 s1) o).1 (rR (fun s : Int × List TSlot => ref05_Union_l1_I s0 s1 s.1 s.2) (ref05_Union_l1_O s0 s1) o).2 := by
  unfold ref05_Union_l1_s at h
  rcases iS h with ⟨h11, h⟩ | ⟨h11, h⟩
  ·
   obtain ⟨o10, h20, h⟩ := bS h
   obtain rfl := si h
   exact runB_arr mixed [(12, .bit true)] [⟨[0, 1, 0, 0, 1, 0, 1, 1], [.live [0, 1, 5, 6], .keep [5]], .normal, (ref05_Union_b5_O s0 s1 s6 w5 o10).2⟩] [.live [0, 1, 5, 6], .keep [5]] (ai h11 (ai (ref05_Union_b5_ok rd s0 s1 s6 w5 o10 h20) (ti))) (by kernel_rfl)
  ·
   obtain rfl := si h
   exact runB_arr mixed [(12, .bit false)] [] [.live [5], .keep [5]] (ai h11 (ti)) (by kernel_rfl)
theorem ref05_Union_l1_ok (rd : Option Nat) (s0 : List TSlot) (s1 : List TSlot) (s6 : Int) (w5 : List TSlot) (t : (List TSlot)) (h : ref05_Union_l1 s0 s1 s6 w5 = some t) : LpOf Try.prog rd (fbody Try.prog 12) [0, 1, 0, 1, 1] (ref05_Union_l1_I s0 s1 s6 w5) ((ref05_Union_l1_O s0 s1) t).1 ((ref05_Union_l1_O s0 s1) t).2 :=
  loopE_lpR (fun s : Int × List TSlot => ref05_Union_l1_I s0 s1 s.1 s.2) (ref05_Union_l1_O s0 s1) (by kernel_rfl) (fun t => isN_ne (by rfl)) (fun s o h => ref05_Union_l1_rnd rd s0 s1 s.1 s.2 o h) (s := (s6, w5)) (t := t) h
theorem ref05_Union_ok (a0 : List TSlot) (a1 : List TSlot) (r : List TSlot) (h : ref05_Union a0 a1 = some r) : ACall Try.prog 12 [.d ((D.l TSlot.D) a0), .d ((D.l TSlot.D) a1)] [] (.d ((D.l TSlot.D) r)) [] := by
  unfold ref05_Union at h
  obtain ⟨o11, h21, h⟩ := bS h
  obtain rfl := si h
  exact runF_call mixed [] [⟨[0, 1, 0, 1, 1], [.live [0, 1, 5, 6], .keep [], .nil 5 5 60 5, .sort], .exit 0, (ref05_Union_l1_O a0 a1 o11).2⟩] [] (ai (ref05_Union_l1_ok none a0 a1 0 ([] : List TSlot) o11 h21) (ti)) (by kernel_rfl)
def ref05_Has_l1_I (s0 : List (List TSlot)) (s1 : List TSlot) (s5 : Int) : St := ⟨sp 18 0 [(0, .d ((D.l (D.l TSlot.D)) s0)), (1, .d ((D.l TSlot.D) s1)), (5, .d ((D.i .i64) s5))], [], []⟩
def ref05_Has_l1_O (s0 : List (List TSlot)) (s1 : List TSlot) (o : Unit ⊕ Unit) : Ex × St := match o with
  | .inl o => (.exit 0, ⟨sp 18 0 [], [], []⟩)
  | .inr o => (.ret, ⟨sp 18 0 [(4, .d (D.b true))], [], []⟩)
theorem ref05_Has_l1_rnd (rd : Option Nat) (s0 : List (List TSlot)) (s1 : List TSlot) (s5 : Int) (o : (Int) ⊕ (Unit ⊕ Unit)) (h : ref05_Has_l1_s s0 s1 s5 = some o) : Arr Try.prog rd (fbody Try.prog 32) (0 :: [0, 1, 0, 1]) (ref05_Has_l1_I s0 s1 s5) (rR (fun s : Int => ref05_Has_l1_I s0 s1 s) (ref05_Has_l1_O s0 s1) o).1 (rR (fun s : Int => ref05_Has_l1_I s0 s1 s) (ref05_Has_l1_O s0 s1) o).2 := by
  unfold ref05_Has_l1_s at h
  rcases iS h with ⟨h1, h⟩ | ⟨h1, h⟩
  ·
   obtain ⟨x1, h2, h⟩ := xS h
   obtain ⟨r2, h3, h⟩ := bS h
   cases r2 with
   | true =>
    replace h := iteT h
    obtain rfl := si h
    exact runB_arr mixed [(8, .int (s0.length : Int)), (9, .bit true), (14, .el ((D.l TSlot.D) x1)), (17, .ret (.d (D.b true)))] [] [.live [4], .keep []] (ai (len_map (D.l TSlot.D) s0) (ai h1 (ai (elem_map (D.l TSlot.D) h2) (ai (ref05_Same_ok x1 s1 true h3) (ti))))) (by kernel_rfl)
   | false =>
    replace h := iteF h
    obtain rfl := si h
    exact runB_arr mixed [(8, .int (s0.length : Int)), (9, .bit true), (14, .el ((D.l TSlot.D) x1)), (17, .ret (.d (D.b false)))] [] [.live [0, 1, 5], .keep []] (ai (len_map (D.l TSlot.D) s0) (ai h1 (ai (elem_map (D.l TSlot.D) h2) (ai (ref05_Same_ok x1 s1 false h3) (ti))))) (by kernel_rfl)
  ·
   obtain rfl := si h
   exact runB_arr mixed [(8, .int (s0.length : Int)), (9, .bit false)] [] [.live [], .keep []] (ai (len_map (D.l TSlot.D) s0) (ai h1 (ti))) (by kernel_rfl)
theorem ref05_Has_l1_ok (rd : Option Nat) (s0 : List (List TSlot)) (s1 : List TSlot) (s5 : Int) (t : Unit ⊕ Unit) (h : ref05_Has_l1 s0 s1 s5 = some t) : LpOf Try.prog rd (fbody Try.prog 32) [0, 1, 0, 1] (ref05_Has_l1_I s0 s1 s5) ((ref05_Has_l1_O s0 s1) t).1 ((ref05_Has_l1_O s0 s1) t).2 :=
  loopE_lpR (fun s : Int => ref05_Has_l1_I s0 s1 s) (ref05_Has_l1_O s0 s1) (by kernel_rfl) (fun t => isN_ne (by rcases t with (_ | _) <;> rfl)) (fun s o h => ref05_Has_l1_rnd rd s0 s1 s o h) (s := s5) (t := t) h
theorem ref05_Has_ok (a0 : List (List TSlot)) (a1 : List TSlot) (r : Bool) (h : ref05_Has a0 a1 = some r) : ACall Try.prog 32 [.d ((D.l (D.l TSlot.D)) a0), .d ((D.l TSlot.D) a1)] [] (.d (D.b r)) [] := by
  unfold ref05_Has at h
  obtain ⟨o3, h5, h⟩ := bS h
  replace h := sumE_some h
  rcases h with ⟨o4, rfl, h⟩ | ⟨o5, rfl, h⟩
  ·
   obtain rfl := si h
   exact runF_call mixed [] [⟨[0, 1, 0, 1], [.live [0, 1, 5], .keep []], .exit 0, (ref05_Has_l1_O a0 a1 (Sum.inl o4)).2⟩] [] (ai (ref05_Has_l1_ok none a0 a1 0 (Sum.inl o4) h5) (ti)) (by kernel_rfl)
  ·
   obtain rfl := si h
   exact runF_call mixed [] [⟨[0, 1, 0, 1], [.live [0, 1, 5], .keep []], .ret, (ref05_Has_l1_O a0 a1 (Sum.inr o5)).2⟩] [] (ai (ref05_Has_l1_ok none a0 a1 0 (Sum.inr o5) h5) (ti)) (by kernel_rfl)
def law26_closed_l2_I (s0 : List (List TSlot)) (s3 : Int) (s4 : Int) : St := ⟨sp 39 0 [(0, .d ((D.l (D.l TSlot.D)) s0)), (3, .d ((D.i .i64) s3)), (4, .d ((D.i .i64) s4))], [], []⟩
def law26_closed_l2_O (s0 : List (List TSlot)) (s3 : Int) (o : Unit ⊕ Unit) : Ex × St := match o with
  | .inl o => (.exit 2, ⟨sp 39 0 [(0, .d ((D.l (D.l TSlot.D)) s0)), (3, .d ((D.i .i64) s3))], [], []⟩)
  | .inr o => (.ret, ⟨sp 39 0 [(2, .d (D.b false))], [], []⟩)
theorem law26_closed_l2_rnd (rd : Option Nat) (s0 : List (List TSlot)) (s3 : Int) (s4 : Int) (o : (Int) ⊕ (Unit ⊕ Unit)) (h : law26_closed_l2_s s0 s3 s4 = some o) : Arr Try.prog rd (fbody Try.prog 27) (0 :: [0, 1, 0, 0, 1, 0, 0, 1, 0, 1]) (law26_closed_l2_I s0 s3 s4) (rR (fun s : Int => law26_closed_l2_I s0 s3 s) (law26_closed_l2_O s0 s3) o).1 (rR (fun s : Int => law26_closed_l2_I s0 s3 s) (law26_closed_l2_O s0 s3) o).2 := by
  unfold law26_closed_l2_s at h
  rcases iS h with ⟨h2, h⟩ | ⟨h2, h⟩
  ·
   obtain ⟨x1, h3, h⟩ := xS h
   obtain ⟨x2, h4, h⟩ := xS h
   obtain ⟨r3, h5, h⟩ := bS h
   cases r3 with
   | true =>
    replace h := iteT h
    obtain ⟨x4, h7, h⟩ := xS h
    obtain ⟨x5, h8, h⟩ := xS h
    obtain ⟨r6, h9, h⟩ := bS h
    obtain ⟨r7, h10, h⟩ := bS h
    rcases iS h with ⟨h11, h⟩ | ⟨h11, h⟩
    ·
     obtain rfl := si h
     exact runB_arr mixed [(13, .bit true), (18, .el ((D.l TSlot.D) x1)), (22, .el ((D.l TSlot.D) x2)), (24, .ret (.d (D.b true))), (29, .el ((D.l TSlot.D) x4)), (33, .el ((D.l TSlot.D) x5)), (35, .ret (.d ((D.l TSlot.D) r6))), (36, .ret (.d (D.b r7))), (38, .bit true)] [] [.live [2], .keep []] (ai h2 (ai (elem_map (D.l TSlot.D) h3) (ai (elem_map (D.l TSlot.D) h4) (ai (ref05_Fits_ok x1 x2 true h5) (ai (elem_map (D.l TSlot.D) h7) (ai (elem_map (D.l TSlot.D) h8) (ai (ref05_Union_ok x4 x5 r6 h9) (ai (ref05_Has_ok s0 r6 r7 h10) (ai h11 (ti)))))))))) (by kernel_rfl)
    ·
     obtain rfl := si h
     exact runB_arr mixed [(13, .bit true), (18, .el ((D.l TSlot.D) x1)), (22, .el ((D.l TSlot.D) x2)), (24, .ret (.d (D.b true))), (29, .el ((D.l TSlot.D) x4)), (33, .el ((D.l TSlot.D) x5)), (35, .ret (.d ((D.l TSlot.D) r6))), (36, .ret (.d (D.b r7))), (38, .bit false)] [] [.live [0, 3, 4], .keep []] (ai h2 (ai (elem_map (D.l TSlot.D) h3) (ai (elem_map (D.l TSlot.D) h4) (ai (ref05_Fits_ok x1 x2 true h5) (ai (elem_map (D.l TSlot.D) h7) (ai (elem_map (D.l TSlot.D) h8) (ai (ref05_Union_ok x4 x5 r6 h9) (ai (ref05_Has_ok s0 r6 r7 h10) (ai h11 (ti)))))))))) (by kernel_rfl)
   | false =>
    replace h := iteF h
    obtain rfl := si h
    exact runB_arr mixed [(13, .bit true), (18, .el ((D.l TSlot.D) x1)), (22, .el ((D.l TSlot.D) x2)), (24, .ret (.d (D.b false)))] [] [.live [0, 3, 4], .keep []] (ai h2 (ai (elem_map (D.l TSlot.D) h3) (ai (elem_map (D.l TSlot.D) h4) (ai (ref05_Fits_ok x1 x2 false h5) (ti))))) (by kernel_rfl)
  ·
   obtain rfl := si h
   exact runB_arr mixed [(13, .bit false)] [] [.live [0, 3], .keep []] (ai h2 (ti)) (by kernel_rfl)
theorem law26_closed_l2_ok (rd : Option Nat) (s0 : List (List TSlot)) (s3 : Int) (s4 : Int) (t : Unit ⊕ Unit) (h : law26_closed_l2 s0 s3 s4 = some t) : LpOf Try.prog rd (fbody Try.prog 27) [0, 1, 0, 0, 1, 0, 0, 1, 0, 1] (law26_closed_l2_I s0 s3 s4) ((law26_closed_l2_O s0 s3) t).1 ((law26_closed_l2_O s0 s3) t).2 :=
  loopE_lpR (fun s : Int => law26_closed_l2_I s0 s3 s) (law26_closed_l2_O s0 s3) (by kernel_rfl) (fun t => isN_ne (by rcases t with (_ | _) <;> rfl)) (fun s o h => law26_closed_l2_rnd rd s0 s3 s o h) (s := s4) (t := t) h
def law26_closed_l1_I (s0 : List (List TSlot)) (s3 : Int) : St := ⟨sp 39 0 [(0, .d ((D.l (D.l TSlot.D)) s0)), (3, .d ((D.i .i64) s3))], [], []⟩
def law26_closed_l1_O (s0 : List (List TSlot)) (o : Unit ⊕ Unit) : Ex × St := match o with
  | .inl o => (.exit 0, ⟨sp 39 0 [], [], []⟩)
  | .inr o => (.ret, ⟨sp 39 0 [(2, .d (D.b false))], [], []⟩)
theorem law26_closed_l1_rnd (rd : Option Nat) (s0 : List (List TSlot)) (s3 : Int) (o : (Int) ⊕ (Unit ⊕ Unit)) (h : law26_closed_l1_s s0 s3 = some o) : Arr Try.prog rd (fbody Try.prog 27) (0 :: [0, 1, 0, 1]) (law26_closed_l1_I s0 s3) (rR (fun s : Int => law26_closed_l1_I s0 s) (law26_closed_l1_O s0) o).1 (rR (fun s : Int => law26_closed_l1_I s0 s) (law26_closed_l1_O s0) o).2 := by
  unfold law26_closed_l1_s at h
  rcases iS h with ⟨h1, h⟩ | ⟨h1, h⟩
  ·
   obtain ⟨o8, h12, h⟩ := bS h
   replace h := sumE_some h
   rcases h with ⟨o9, rfl, h⟩ | ⟨o10, rfl, h⟩
   ·
    obtain rfl := si h
    exact runB_arr mixed [(7, .int (s0.length : Int)), (8, .bit true)] [⟨[0, 1, 0, 0, 1, 0, 0, 1, 0, 1], [.live [0, 3, 4], .keep []], .exit 2, (law26_closed_l2_O s0 s3 (Sum.inl o9)).2⟩] [.live [0, 3], .keep []] (ai (len_map (D.l TSlot.D) s0) (ai h1 (ai (law26_closed_l2_ok rd s0 s3 0 (Sum.inl o9) h12) (ti)))) (by kernel_rfl)
   ·
    obtain rfl := si h
    exact runB_arr mixed [(7, .int (s0.length : Int)), (8, .bit true)] [⟨[0, 1, 0, 0, 1, 0, 0, 1, 0, 1], [.live [0, 3, 4], .keep []], .ret, (law26_closed_l2_O s0 s3 (Sum.inr o10)).2⟩] [.live [2], .keep []] (ai (len_map (D.l TSlot.D) s0) (ai h1 (ai (law26_closed_l2_ok rd s0 s3 0 (Sum.inr o10) h12) (ti)))) (by kernel_rfl)
  ·
   obtain rfl := si h
   exact runB_arr mixed [(7, .int (s0.length : Int)), (8, .bit false)] [] [.live [], .keep []] (ai (len_map (D.l TSlot.D) s0) (ai h1 (ti))) (by kernel_rfl)
theorem law26_closed_l1_ok (rd : Option Nat) (s0 : List (List TSlot)) (s3 : Int) (t : Unit ⊕ Unit) (h : law26_closed_l1 s0 s3 = some t) : LpOf Try.prog rd (fbody Try.prog 27) [0, 1, 0, 1] (law26_closed_l1_I s0 s3) ((law26_closed_l1_O s0) t).1 ((law26_closed_l1_O s0) t).2 :=
  loopE_lpR (fun s : Int => law26_closed_l1_I s0 s) (law26_closed_l1_O s0) (by kernel_rfl) (fun t => isN_ne (by rcases t with (_ | _) <;> rfl)) (fun s o h => law26_closed_l1_rnd rd s0 s o h) (s := s3) (t := t) h
theorem law26_closed_ok (a0 : List (List TSlot)) (r : Bool) (h : law26_closed a0 = some r) : ACall Try.prog 27 [.d ((D.l (D.l TSlot.D)) a0)] [] (.d (D.b r)) [] := by
  unfold law26_closed at h
  obtain ⟨o11, h13, h⟩ := bS h
  replace h := sumE_some h
  rcases h with ⟨o12, rfl, h⟩ | ⟨o13, rfl, h⟩
  ·
   obtain rfl := si h
   exact runF_call mixed [] [⟨[0, 1, 0, 1], [.live [0, 3], .keep []], .exit 0, (law26_closed_l1_O a0 (Sum.inl o12)).2⟩] [] (ai (law26_closed_l1_ok none a0 0 (Sum.inl o12) h13) (ti)) (by kernel_rfl)
  ·
   obtain rfl := si h
   exact runF_call mixed [] [⟨[0, 1, 0, 1], [.live [0, 3], .keep []], .ret, (law26_closed_l1_O a0 (Sum.inr o13)).2⟩] [] (ai (law26_closed_l1_ok none a0 0 (Sum.inr o13) h13) (ti)) (by kernel_rfl)
def law26_ExtendClosed_l3_I (s0 : List (List (List TSlot))) (s1 : List TSlot) (s6 : Int) (s7 : List TRow) (s5 : List TRow) (s8 : Int) : St := ⟨sp 79 0 [(0, .d ((D.l (D.l (D.l TSlot.D))) s0)), (1, .d ((D.l TSlot.D) s1)), (5, .d ((D.l TRow.D) s5)), (6, .d ((D.i .i64) s6)), (7, .d ((D.l TRow.D) s7)), (8, .d ((D.i .i64) s8))], [], []⟩
def law26_ExtendClosed_l3_O (s0 : List (List (List TSlot))) (s1 : List TSlot) (s6 : Int) (s7 : List TRow) (o : (List TRow)) : Ex × St := (.exit 2, ⟨sp 79 0 [(0, .d ((D.l (D.l (D.l TSlot.D))) s0)), (1, .d ((D.l TSlot.D) s1)), (5, .d ((D.l TRow.D) o)), (6, .d ((D.i .i64) s6))], [], []⟩)
theorem law26_ExtendClosed_l3_rnd (rd : Option Nat) (s0 : List (List (List TSlot))) (s1 : List TSlot) (s6 : Int) (s7 : List TRow) (s5 : List TRow) (s8 : Int) (o : (List TRow × Int) ⊕ ((List TRow))) (h : law26_ExtendClosed_l3_s s0 s1 s6 s7 s5 s8 = some o) : Arr Try.prog rd (fbody Try.prog 6) (0 :: [0, 1, 0, 1, 1, 0, 0, 1, 0, 0, 1, 0, 1, 1, 1]) (law26_ExtendClosed_l3_I s0 s1 s6 s7 s5 s8) (rR (fun s : List TRow × Int => law26_ExtendClosed_l3_I s0 s1 s6 s7 s.1 s.2) (law26_ExtendClosed_l3_O s0 s1 s6 s7) o).1 (rR (fun s : List TRow × Int => law26_ExtendClosed_l3_I s0 s1 s6 s7 s.1 s.2) (law26_ExtendClosed_l3_O s0 s1 s6 s7) o).2 := by
  unfold law26_ExtendClosed_l3_s at h
  rcases iS h with ⟨h42, h⟩ | ⟨h42, h⟩
  ·
   obtain ⟨x29, h43, h⟩ := xS h
   obtain ⟨r30, h44, h⟩ := bS h
   obtain rfl := si h
   exact runB_arr mixed [(53, .int (s7.length : Int)), (54, .bit true), (60, .el (TRow.D x29)), (62, .ret (.d ((D.l TRow.D) r30)))] [] [.live [0, 1, 5, 6, 7, 8], .keep []] (ai (len_map TRow.D s7) (ai h42 (ai (elem_map TRow.D h43) (ai (ref24_Insert_ok s5 x29 r30 h44) (ti))))) (by kernel_rfl)
  ·
   obtain rfl := si h
   exact runB_arr mixed [(53, .int (s7.length : Int)), (54, .bit false)] [] [.live [0, 1, 5, 6], .keep []] (ai (len_map TRow.D s7) (ai h42 (ti))) (by kernel_rfl)
theorem law26_ExtendClosed_l3_ok (rd : Option Nat) (s0 : List (List (List TSlot))) (s1 : List TSlot) (s6 : Int) (s7 : List TRow) (s5 : List TRow) (s8 : Int) (t : (List TRow)) (h : law26_ExtendClosed_l3 s0 s1 s6 s7 s5 s8 = some t) : LpOf Try.prog rd (fbody Try.prog 6) [0, 1, 0, 1, 1, 0, 0, 1, 0, 0, 1, 0, 1, 1, 1] (law26_ExtendClosed_l3_I s0 s1 s6 s7 s5 s8) ((law26_ExtendClosed_l3_O s0 s1 s6 s7) t).1 ((law26_ExtendClosed_l3_O s0 s1 s6 s7) t).2 :=
  loopE_lpR (fun s : List TRow × Int => law26_ExtendClosed_l3_I s0 s1 s6 s7 s.1 s.2) (law26_ExtendClosed_l3_O s0 s1 s6 s7) (by kernel_rfl) (fun t => isN_ne (by rfl)) (fun s o h => law26_ExtendClosed_l3_rnd rd s0 s1 s6 s7 s.1 s.2 o h) (s := (s5, s8)) (t := t) h
def law26_ExtendClosed_l1_I (s0 : List (List (List TSlot))) (s1 : List TSlot) (s5 : List TRow) (s6 : Int) : St := ⟨sp 79 0 [(0, .d ((D.l (D.l (D.l TSlot.D))) s0)), (1, .d ((D.l TSlot.D) s1)), (5, .d ((D.l TRow.D) s5)), (6, .d ((D.i .i64) s6))], [], []⟩
def law26_ExtendClosed_l1_O (s0 : List (List (List TSlot))) (s1 : List TSlot) (o : Unit ⊕ Bool) : Ex × St := match o with
  | .inl o => (.exit 0, ⟨sp 79 0 [], [], []⟩)
  | .inr o => (.ret, ⟨sp 79 0 [(4, .d (D.b o))], [], []⟩)
theorem law26_ExtendClosed_l1_rnd (rd : Option Nat) (s0 : List (List (List TSlot))) (s1 : List TSlot) (s5 : List TRow) (s6 : Int) (o : (List TRow × Int) ⊕ (Unit ⊕ Bool)) (h : law26_ExtendClosed_l1_s s0 s1 s5 s6 = some o) : Arr Try.prog rd (fbody Try.prog 6) (0 :: [0, 1, 0, 1, 1, 1]) (law26_ExtendClosed_l1_I s0 s1 s5 s6) (rR (fun s : List TRow × Int => law26_ExtendClosed_l1_I s0 s1 s.1 s.2) (law26_ExtendClosed_l1_O s0 s1) o).1 (rR (fun s : List TRow × Int => law26_ExtendClosed_l1_I s0 s1 s.1 s.2) (law26_ExtendClosed_l1_O s0 s1) o).2 := by
  unfold law26_ExtendClosed_l1_s at h
  rcases iS h with ⟨h31, h⟩ | ⟨h31, h⟩
  ·
   obtain ⟨x21, h32, h⟩ := xS h
   rcases iS h with ⟨h33, h⟩ | ⟨h33, h⟩
   ·
    obtain ⟨r22, h34, h⟩ := bS h
    obtain rfl := si h
    exact runB_arr mixed [(25, .int (s0.length : Int)), (26, .bit true), (31, .el ((D.l (D.l TSlot.D)) x21)), (33, .int (x21.length : Int)), (35, .bit true), (43, .ret (.d (D.b r22)))] [] [.live [4], .keep []] (ai (len_map (D.l (D.l TSlot.D)) s0) (ai h31 (ai (elem_map (D.l (D.l TSlot.D)) h32) (ai (len_map (D.l TSlot.D) x21) (ai h33 (ai (law26_awake_ok r22 h34) (ti))))))) (by kernel_rfl)
   ·
    obtain ⟨x23, h35, h⟩ := xS h
    obtain ⟨r24, h36, h⟩ := bS h
    rcases iS h with ⟨h37, h⟩ | ⟨h37, h⟩
    ·
     obtain ⟨r25, h38, h⟩ := bS h
     obtain rfl := si h
     exact runB_arr mixed [(25, .int (s0.length : Int)), (26, .bit true), (31, .el ((D.l (D.l TSlot.D)) x21)), (33, .int (x21.length : Int)), (35, .bit false), (38, .el ((D.l (D.l TSlot.D)) x23)), (40, .ret (.d (D.b r24))), (42, .bit true), (43, .ret (.d (D.b r25)))] [] [.live [4], .keep []] (ai (len_map (D.l (D.l TSlot.D)) s0) (ai h31 (ai (elem_map (D.l (D.l TSlot.D)) h32) (ai (len_map (D.l TSlot.D) x21) (ai h33 (ai (elem_map (D.l (D.l TSlot.D)) h35) (ai (law26_right_ok x23 r24 h36) (ai h37 (ai (law26_awake_ok r25 h38) (ti)))))))))) (by kernel_rfl)
    ·
     obtain ⟨x26, h39, h⟩ := xS h
     obtain ⟨r27, h40, h⟩ := bS h
     obtain ⟨r28, h41, h⟩ := bS h
     obtain ⟨o31, h45, h⟩ := bS h
     rcases iS h with ⟨h46, h⟩ | ⟨h46, h⟩
     ·
      obtain ⟨r32, h47, h⟩ := bS h
      obtain rfl := si h
      exact runB_arr mixed [(25, .int (s0.length : Int)), (26, .bit true), (31, .el ((D.l (D.l TSlot.D)) x21)), (33, .int (x21.length : Int)), (35, .bit false), (38, .el ((D.l (D.l TSlot.D)) x23)), (40, .ret (.d (D.b r24))), (42, .bit false), (47, .el ((D.l (D.l TSlot.D)) x26)), (49, .ret (.d ((D.l THit.D) r27))), (50, .ret (.d ((D.l TRow.D) r28))), (64, .int (o31.length : Int)), (65, .bit true), (66, .ret (.d (D.b r32)))] [⟨[0, 1, 0, 1, 1, 0, 0, 1, 0, 0, 1, 0, 1, 1, 1], [.live [0, 1, 5, 6, 7, 8], .keep []], .exit 2, (law26_ExtendClosed_l3_O s0 s1 s6 r28 o31).2⟩] [.live [4], .keep []] (ai (len_map (D.l (D.l TSlot.D)) s0) (ai h31 (ai (elem_map (D.l (D.l TSlot.D)) h32) (ai (len_map (D.l TSlot.D) x21) (ai h33 (ai (elem_map (D.l (D.l TSlot.D)) h35) (ai (law26_right_ok x23 r24 h36) (ai h37 (ai (elem_map (D.l (D.l TSlot.D)) h39) (ai (law26_hits_ok x26 r27 h40) (ai (extend_New_ok s5 r27 r28 h41) (ai (law26_ExtendClosed_l3_ok rd s0 s1 s6 r28 s5 0 o31 h45) (ai (len_map TRow.D o31) (ai h46 (ai (law26_awake_ok r32 h47) (ti)))))))))))))))) (by kernel_rfl)
     ·
      obtain ⟨r33, h48, h⟩ := bS h
      rcases iS h with ⟨h49, h⟩ | ⟨h49, h⟩
      ·
       obtain rfl := si h
       exact runB_arr mixed [(25, .int (s0.length : Int)), (26, .bit true), (31, .el ((D.l (D.l TSlot.D)) x21)), (33, .int (x21.length : Int)), (35, .bit false), (38, .el ((D.l (D.l TSlot.D)) x23)), (40, .ret (.d (D.b r24))), (42, .bit false), (47, .el ((D.l (D.l TSlot.D)) x26)), (49, .ret (.d ((D.l THit.D) r27))), (50, .ret (.d ((D.l TRow.D) r28))), (64, .int (o31.length : Int)), (65, .bit false), (69, .ret (.d ((D.l TRow.D) r33))), (70, .int (r33.length : Int)), (72, .bit true)] [⟨[0, 1, 0, 1, 1, 0, 0, 1, 0, 0, 1, 0, 1, 1, 1], [.live [0, 1, 5, 6, 7, 8], .keep []], .exit 2, (law26_ExtendClosed_l3_O s0 s1 s6 r28 o31).2⟩] [.live [4], .keep []] (ai (len_map (D.l (D.l TSlot.D)) s0) (ai h31 (ai (elem_map (D.l (D.l TSlot.D)) h32) (ai (len_map (D.l TSlot.D) x21) (ai h33 (ai (elem_map (D.l (D.l TSlot.D)) h35) (ai (law26_right_ok x23 r24 h36) (ai h37 (ai (elem_map (D.l (D.l TSlot.D)) h39) (ai (law26_hits_ok x26 r27 h40) (ai (extend_New_ok s5 r27 r28 h41) (ai (law26_ExtendClosed_l3_ok rd s0 s1 s6 r28 s5 0 o31 h45) (ai (len_map TRow.D o31) (ai h46 (ai (extend_Greatest_ok o31 s1 r33 h48) (ai (len_map TRow.D r33) (ai h49 (ti)))))))))))))))))) (by kernel_rfl)
      ·
       obtain ⟨r34, h50, h⟩ := bS h
       obtain ⟨r35, h51, h⟩ := bS h
       rcases iS h with ⟨h52, h⟩ | ⟨h52, h⟩
       ·
        obtain rfl := si h
        exact runB_arr mixed [(25, .int (s0.length : Int)), (26, .bit true), (31, .el ((D.l (D.l TSlot.D)) x21)), (33, .int (x21.length : Int)), (35, .bit false), (38, .el ((D.l (D.l TSlot.D)) x23)), (40, .ret (.d (D.b r24))), (42, .bit false), (47, .el ((D.l (D.l TSlot.D)) x26)), (49, .ret (.d ((D.l THit.D) r27))), (50, .ret (.d ((D.l TRow.D) r28))), (64, .int (o31.length : Int)), (65, .bit false), (69, .ret (.d ((D.l TRow.D) r33))), (70, .int (r33.length : Int)), (72, .bit false), (74, .ret (.d ((D.l (D.l TSlot.D)) r34))), (75, .ret (.d (D.b r35))), (77, .bit true)] [⟨[0, 1, 0, 1, 1, 0, 0, 1, 0, 0, 1, 0, 1, 1, 1], [.live [0, 1, 5, 6, 7, 8], .keep []], .exit 2, (law26_ExtendClosed_l3_O s0 s1 s6 r28 o31).2⟩] [.live [4], .keep []] (ai (len_map (D.l (D.l TSlot.D)) s0) (ai h31 (ai (elem_map (D.l (D.l TSlot.D)) h32) (ai (len_map (D.l TSlot.D) x21) (ai h33 (ai (elem_map (D.l (D.l TSlot.D)) h35) (ai (law26_right_ok x23 r24 h36) (ai h37 (ai (elem_map (D.l (D.l TSlot.D)) h39) (ai (law26_hits_ok x26 r27 h40) (ai (extend_New_ok s5 r27 r28 h41) (ai (law26_ExtendClosed_l3_ok rd s0 s1 s6 r28 s5 0 o31 h45) (ai (len_map TRow.D o31) (ai h46 (ai (extend_Greatest_ok o31 s1 r33 h48) (ai (len_map TRow.D r33) (ai h49 (ai (ref26_Binds_ok o31 r34 h50) (ai (law26_closed_ok r34 r35 h51) (ai h52 (ti))))))))))))))))))))) (by kernel_rfl)
       ·
        obtain rfl := si h
        exact runB_arr mixed [(25, .int (s0.length : Int)), (26, .bit true), (31, .el ((D.l (D.l TSlot.D)) x21)), (33, .int (x21.length : Int)), (35, .bit false), (38, .el ((D.l (D.l TSlot.D)) x23)), (40, .ret (.d (D.b r24))), (42, .bit false), (47, .el ((D.l (D.l TSlot.D)) x26)), (49, .ret (.d ((D.l THit.D) r27))), (50, .ret (.d ((D.l TRow.D) r28))), (64, .int (o31.length : Int)), (65, .bit false), (69, .ret (.d ((D.l TRow.D) r33))), (70, .int (r33.length : Int)), (72, .bit false), (74, .ret (.d ((D.l (D.l TSlot.D)) r34))), (75, .ret (.d (D.b r35))), (77, .bit false)] [⟨[0, 1, 0, 1, 1, 0, 0, 1, 0, 0, 1, 0, 1, 1, 1], [.live [0, 1, 5, 6, 7, 8], .keep []], .exit 2, (law26_ExtendClosed_l3_O s0 s1 s6 r28 o31).2⟩] [.live [0, 1, 5, 6], .keep []] (ai (len_map (D.l (D.l TSlot.D)) s0) (ai h31 (ai (elem_map (D.l (D.l TSlot.D)) h32) (ai (len_map (D.l TSlot.D) x21) (ai h33 (ai (elem_map (D.l (D.l TSlot.D)) h35) (ai (law26_right_ok x23 r24 h36) (ai h37 (ai (elem_map (D.l (D.l TSlot.D)) h39) (ai (law26_hits_ok x26 r27 h40) (ai (extend_New_ok s5 r27 r28 h41) (ai (law26_ExtendClosed_l3_ok rd s0 s1 s6 r28 s5 0 o31 h45) (ai (len_map TRow.D o31) (ai h46 (ai (extend_Greatest_ok o31 s1 r33 h48) (ai (len_map TRow.D r33) (ai h49 (ai (ref26_Binds_ok o31 r34 h50) (ai (law26_closed_ok r34 r35 h51) (ai h52 (ti))))))))))))))))))))) (by kernel_rfl)
  ·
   obtain rfl := si h
   exact runB_arr mixed [(25, .int (s0.length : Int)), (26, .bit false)] [] [.live [], .keep []] (ai (len_map (D.l (D.l TSlot.D)) s0) (ai h31 (ti))) (by kernel_rfl)
theorem law26_ExtendClosed_l1_ok (rd : Option Nat) (s0 : List (List (List TSlot))) (s1 : List TSlot) (s5 : List TRow) (s6 : Int) (t : Unit ⊕ Bool) (h : law26_ExtendClosed_l1 s0 s1 s5 s6 = some t) : LpOf Try.prog rd (fbody Try.prog 6) [0, 1, 0, 1, 1, 1] (law26_ExtendClosed_l1_I s0 s1 s5 s6) ((law26_ExtendClosed_l1_O s0 s1) t).1 ((law26_ExtendClosed_l1_O s0 s1) t).2 :=
  loopE_lpR (fun s : List TRow × Int => law26_ExtendClosed_l1_I s0 s1 s.1 s.2) (law26_ExtendClosed_l1_O s0 s1) (by kernel_rfl) (fun t => isN_ne (by rcases t with (_ | _) <;> rfl)) (fun s o h => law26_ExtendClosed_l1_rnd rd s0 s1 s.1 s.2 o h) (s := (s5, s6)) (t := t) h
theorem law26_ExtendClosed_ok (a0 : List (List (List TSlot))) (a1 : List TSlot) (r : Bool) (h : law26_ExtendClosed a0 a1 = some r) : ACall Try.prog 6 [.d ((D.l (D.l (D.l TSlot.D))) a0), .d ((D.l TSlot.D) a1)] [] (.d (D.b r)) [] := by
  unfold law26_ExtendClosed at h
  rcases iS h with ⟨h1, h⟩ | ⟨h1, h⟩
  ·
   obtain ⟨r1, h2, h⟩ := bS h
   obtain rfl := si h
   exact runF_call mixed [(10, .int (a0.length : Int)), (12, .bit true), (18, .ret (.d (D.b r1)))] [] [] (ai (len_map (D.l (D.l TSlot.D)) a0) (ai h1 (ai (law26_awake_ok r1 h2) (ti)))) (by kernel_rfl)
  ·
   obtain ⟨r2, h3, h⟩ := bS h
   rcases iS h with ⟨h4, h⟩ | ⟨h4, h⟩
   ·
    obtain ⟨r3, h5, h⟩ := bS h
    obtain rfl := si h
    exact runF_call mixed [(10, .int (a0.length : Int)), (12, .bit false), (15, .ret (.d (D.b r2))), (17, .bit true), (18, .ret (.d (D.b r3)))] [] [] (ai (len_map (D.l (D.l TSlot.D)) a0) (ai h1 (ai (nc_ok (D.l TSlot.D) [a1]) (ai (law26_right_ok [a1] r2 h3) (ai h4 (ai (law26_awake_ok r3 h5) (ti))))))) (by kernel_rfl)
   ·
    obtain ⟨o36, h53, h⟩ := bS h
    replace h := sumE_some h
    rcases h with ⟨o37, rfl, h⟩ | ⟨o38, rfl, h⟩
    ·
     obtain ⟨r39, h54, h⟩ := bS h
     obtain rfl := si h
     exact runF_call mixed [(10, .int (a0.length : Int)), (12, .bit false), (15, .ret (.d (D.b r2))), (17, .bit false), (78, .ret (.d (D.b r39)))] [⟨[0, 1, 0, 1, 1, 1], [.look 5, .live [0, 1, 5, 6], .keep []], .exit 0, (law26_ExtendClosed_l1_O a0 a1 (Sum.inl o37)).2⟩] [] (ai (len_map (D.l (D.l TSlot.D)) a0) (ai h1 (ai (nc_ok (D.l TSlot.D) [a1]) (ai (law26_right_ok [a1] r2 h3) (ai h4 (ai (nc_ok TConfig.D ([TConfig.mk 0 ([] : List TValue)])) (ai (nc_ok TRow.D ([TRow.mk ([] : List TSlot) ([TConfig.mk 0 ([] : List TValue)])])) (ai (law26_ExtendClosed_l1_ok none a0 a1 ([TRow.mk ([] : List TSlot) ([TConfig.mk 0 ([] : List TValue)])]) 0 (Sum.inl o37) h53) (ai (law26_awake_ok r39 h54) (ti)))))))))) (by kernel_rfl)
    ·
     obtain rfl := si h
     exact runF_call mixed [(10, .int (a0.length : Int)), (12, .bit false), (15, .ret (.d (D.b r2))), (17, .bit false)] [⟨[0, 1, 0, 1, 1, 1], [.look 5, .live [0, 1, 5, 6], .keep []], .ret, (law26_ExtendClosed_l1_O a0 a1 (Sum.inr o38)).2⟩] [] (ai (len_map (D.l (D.l TSlot.D)) a0) (ai h1 (ai (nc_ok (D.l TSlot.D) [a1]) (ai (law26_right_ok [a1] r2 h3) (ai h4 (ai (nc_ok TConfig.D ([TConfig.mk 0 ([] : List TValue)])) (ai (nc_ok TRow.D ([TRow.mk ([] : List TSlot) ([TConfig.mk 0 ([] : List TValue)])])) (ai (law26_ExtendClosed_l1_ok none a0 a1 ([TRow.mk ([] : List TSlot) ([TConfig.mk 0 ([] : List TValue)])]) 0 (Sum.inr o38) h53) (ti))))))))) (by kernel_rfl)
end Go.Ac
