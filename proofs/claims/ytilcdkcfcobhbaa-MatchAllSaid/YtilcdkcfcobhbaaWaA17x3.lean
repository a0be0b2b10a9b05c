/-
  Part of a proof: the plain law, lists and numbers alone.
-/
import Derived.Test.YtilcdkcfcobhbaaWaA17x2
set_option linter.unusedVariables false
set_option linter.unusedSimpArgs false
set_option linter.unusedVariables false
set_option linter.unusedSimpArgs false
namespace Go.Ac
open Go.Proofs
def match_part_Hit_b5_O (s1 : List TSlot) (s8 : List THit) (s9 : Int) (s10 : Int) (s16 : Bool) (w4 : List THit) (w5 : List THit) (w7 : THit) (o : (List THit × List THit)) : Ex × St := (.normal, ⟨sp 28 0 [(1, .clo (.func 41) [] [.eptr (D.cells ((D.l TSlot.D) s1))]), (4, .row 4), (5, .row 5), (8, .d ((D.l THit.D) s8)), (9, .d ((D.i .i64) s9)), (10, .d ((D.i .i64) s10))], [(4, .row 57 3 (o.1.map THit.D)), (5, .row 57 3 (o.2.map THit.D))], []⟩)
theorem match_part_Hit_b5_ok (rd : Option Nat) (s1 : List TSlot) (s8 : List THit) (s9 : Int) (s10 : Int) (s16 : Bool) (w4 : List THit) (w5 : List THit) (w7 : THit) (o : (List THit × List THit)) (h : match_part_Hit_b5 s1 s8 s9 s10 s16 w4 w5 w7 = some o) : LpOf Try.prog rd (fbody Try.prog 40) [1, 1, 0, 0, 1, 1, 0, 0, 1, 0, 1] (match_part_Hit_b5_I s1 s8 s9 s10 s16 w4 w5 w7) (match_part_Hit_b5_O s1 s8 s9 s10 s16 w4 w5 w7 o).1 (match_part_Hit_b5_O s1 s8 s9 s10 s16 w4 w5 w7 o).2 := by
  unfold match_part_Hit_b5 at h
  cases s16 with
  | true =>
   replace h := iteT h
   obtain ⟨h13, h⟩ := chkE_some h
   obtain rfl := Option.some.inj h
   exact (runB_arr mixed [(20, .sl ((w4 ++ [w7]).map THit.D))] [] [.live [1, 4, 5, 8, 9, 10], .keep [5, 20], .ren 20 4, .sort] (ai (nc_ok THit.D [w7]) (ai (nc_ok THit.D [w7]) (ai (fit_map THit.D h13) (ai (app_map THit.D w4 [w7]) (ti))))) (by kernel_rfl)).lp
  | false =>
   replace h := iteF h
   obtain ⟨h14, h⟩ := chkE_some h
   obtain rfl := Option.some.inj h
   exact (runB_arr mixed [(24, .sl ((w5 ++ [w7]).map THit.D))] [] [.live [1, 4, 5, 8, 9, 10], .keep [4, 24], .ren 24 5, .sort] (ai (nc_ok THit.D [w7]) (ai (nc_ok THit.D [w7]) (ai (fit_map THit.D h14) (ai (app_map THit.D w5 [w7]) (ti))))) (by kernel_rfl)).lp
def match_part_Hit_b4_I (s1 : List TSlot) (s8 : List THit) (s9 : Int) (s10 : Int) (w4 : List THit) (w5 : List THit) : St := ⟨sp 28 0 [(1, .clo (.func 41) [] [.eptr (D.cells ((D.l TSlot.D) s1))]), (4, .row 4), (5, .row 5), (8, .d ((D.l THit.D) s8)), (9, .d ((D.i .i64) s9)), (10, .d ((D.i .i64) s10))], [(4, .row 57 3 (w4.map THit.D)), (5, .row 57 3 (w5.map THit.D))], []⟩
def match_part_Hit_b4_O (s1 : List TSlot) (s8 : List THit) (s9 : Int) (s10 : Int) (w4 : List THit) (w5 : List THit) (o : (List THit × List THit)) : Ex × St := (.normal, ⟨sp 28 0 [(1, .clo (.func 41) [] [.eptr (D.cells ((D.l TSlot.D) s1))]), (4, .row 4), (5, .row 5), (8, .d ((D.l THit.D) s8)), (9, .d ((D.i .i64) s9)), (10, .d ((D.i .i64) s10))], [(4, .row 57 3 (o.1.map THit.D)), (5, .row 57 3 (o.2.map THit.D))], []⟩)
theorem match_part_Hit_b4_ok (rd : Option Nat) (s1 : List TSlot) (s8 : List THit) (s9 : Int) (s10 : Int) (w4 : List THit) (w5 : List THit) (o : (List THit × List THit)) (h : match_part_Hit_b4 s1 s8 s9 s10 w4 w5 = some o) : LpOf Try.prog rd (fbody Try.prog 40) [0, 1, 1, 0, 0, 1, 0, 1] (match_part_Hit_b4_I s1 s8 s9 s10 w4 w5) (match_part_Hit_b4_O s1 s8 s9 s10 w4 w5 o).1 (match_part_Hit_b4_O s1 s8 s9 s10 w4 w5 o).2 := by
  unfold match_part_Hit_b4 at h
  obtain ⟨x5, h10, h⟩ := idxE_some h
  obtain ⟨r6, h11, h⟩ := bndE_some h
  obtain ⟨o7, h15, h⟩ := bndE_some h
  obtain rfl := Option.some.inj h
  exact (runB_arr mixed [(12, .el (THit.D x5)), (16, .ret (.d (D.b r6)))] [⟨[1, 1, 0, 0, 1, 1, 0, 0, 1, 0, 1], [.live [1, 4, 5, 7, 8, 9, 10, 16], .keep [4, 5, 7]], .normal, (match_part_Hit_b5_O s1 s8 s9 s10 r6 w4 w5 x5 o7).2⟩] [.live [1, 4, 5, 8, 9, 10], .keep [4, 5]] (ai (elem_map THit.D h10) (ai (match_Under_1_ok x5 s1 r6 h11) (ai (match_part_Hit_b5_ok rd s1 s8 s9 s10 r6 w4 w5 x5 o7 h15) (ti)))) (by kernel_rfl)).lp
def match_part_Hit_l1_I (s1 : List TSlot) (s8 : List THit) (s9 : Int) (s10 : Int) (w4 : List THit) (w5 : List THit) : St := ⟨sp 28 0 [(1, .clo (.func 41) [] [.eptr (D.cells ((D.l TSlot.D) s1))]), (4, .row 4), (5, .row 5), (8, .d ((D.l THit.D) s8)), (9, .d ((D.i .i64) s9)), (10, .d ((D.i .i64) s10))], [(4, .row 57 3 (w4.map THit.D)), (5, .row 57 3 (w5.map THit.D))], []⟩
def match_part_Hit_l1_O (s1 : List TSlot) (s8 : List THit) (s9 : Int) (o : (List THit × List THit)) : Ex × St := (.exit 0, ⟨sp 28 0 [(4, .row 4), (5, .row 5)], [(4, .row 57 3 (o.1.map THit.D)), (5, .row 57 3 (o.2.map THit.D))], []⟩)
theorem match_part_Hit_l1_rnd (rd : Option Nat) (s1 : List TSlot) (s8 : List THit) (s9 : Int) (s10 : Int) (w4 : List THit) (w5 : List THit) (o : (Int × List THit × List THit) ⊕ ((List THit × List THit))) (h : match_part_Hit_l1_s s1 s8 s9 s10 w4 w5 = some o) : Arr Try.prog rd (fbody Try.prog 40) (0 :: [0, 1, 0, 1]) (match_part_Hit_l1_I s1 s8 s9 s10 w4 w5) (rR (fun s : Int × List THit × List THit => match_part_Hit_l1_I s1 s8 s9 s.1 s.2.1 s.2.2) (match_part_Hit_l1_O s1 s8 s9) o).1 (rR (fun s : Int × List THit × List THit => match_part_Hit_l1_I s1 s8 s9 s.1 s.2.1 s.2.2) (match_part_Hit_l1_O s1 s8 s9) o).2 := by
  unfold match_part_Hit_l1_s at h
  rcases iteE_some h with ⟨h9, h⟩ | ⟨h9, h⟩
  ·
   obtain ⟨o8, h16, h⟩ := bndE_some h
   obtain rfl := Option.some.inj h
   exact runB_arr mixed [(11, .bit true)] [⟨[0, 1, 1, 0, 0, 1, 0, 1], [.live [1, 4, 5, 8, 9, 10], .keep [4, 5]], .normal, (match_part_Hit_b4_O s1 s8 s9 s10 w4 w5 o8).2⟩] [.live [1, 4, 5, 8, 9, 10], .keep [4, 5]] (ai h9 (ai (match_part_Hit_b4_ok rd s1 s8 s9 s10 w4 w5 o8 h16) (ti))) (by kernel_rfl)
  ·
   obtain rfl := Option.some.inj h
   exact runB_arr mixed [(11, .bit false)] [] [.live [4, 5], .keep [4, 5]] (ai h9 (ti)) (by kernel_rfl)
theorem match_part_Hit_l1_ok (rd : Option Nat) (s1 : List TSlot) (s8 : List THit) (s9 : Int) (s10 : Int) (w4 : List THit) (w5 : List THit) (t : (List THit × List THit)) (h : match_part_Hit_l1 s1 s8 s9 s10 w4 w5 = some t) : LpOf Try.prog rd (fbody Try.prog 40) [0, 1, 0, 1] (match_part_Hit_l1_I s1 s8 s9 s10 w4 w5) ((match_part_Hit_l1_O s1 s8 s9) t).1 ((match_part_Hit_l1_O s1 s8 s9) t).2 :=
  loopE_lpR (fun s : Int × List THit × List THit => match_part_Hit_l1_I s1 s8 s9 s.1 s.2.1 s.2.2) (match_part_Hit_l1_O s1 s8 s9) (by kernel_rfl) (fun t => isN_ne (by rfl)) (fun s o h => match_part_Hit_l1_rnd rd s1 s8 s9 s.1 s.2.1 s.2.2 o h) (s := (s10, w4, w5)) (t := t) h
theorem match_part_Hit_ok (a0 : List THit) (a1 : List TSlot) (r : List THit × List THit) (h : match_part_Hit a0 a1 = some r) : ACall Try.prog 40 [.d ((D.l THit.D) a0), .clo (.func 41) [] [.eptr (D.cells ((D.l TSlot.D) a1))]] [] (.tup [.d ((D.l THit.D) r.1), .d ((D.l THit.D) r.2)]) [] := by
  unfold match_part_Hit at h
  obtain ⟨o9, h17, h⟩ := bndE_some h
  obtain rfl := Option.some.inj h
  exact runF_call mixed [(9, .int (a0.length : Int))] [⟨[0, 1, 0, 1], [.live [1, 4, 5, 8, 9, 10], .keep [], .nil 4 4 57 3, .nil 5 5 57 3, .sort], .exit 0, (match_part_Hit_l1_O a1 a0 (a0.length : Int) o9).2⟩] [] (ai (len_map THit.D a0) (ai (match_part_Hit_l1_ok none a1 a0 (a0.length : Int) 0 ([] : List THit) ([] : List THit) o9 h17) (ti))) (by kernel_rfl)
theorem match_Under_ok (a0 : List THit) (a1 : List TSlot) (r : List THit) (h : match_Under a0 a1 = some r) : ACall Try.prog 21 [.d ((D.l THit.D) a0), .d ((D.l TSlot.D) a1)] [] (.d ((D.l THit.D) r)) [] := by
  unfold match_Under at h
  obtain ⟨r1, h1, h⟩ := bndE_some h
  obtain rfl := Option.some.inj h
  exact runF_call mixed [(3, .frz), (10, .ret (.tup [.d ((D.l THit.D) r1.1), .d ((D.l THit.D) r1.2)]))] [] [] (ai (match_part_Hit_ok a0 a1 r1 h1) (ti)) (by kernel_rfl)
def ref05_Under_l1_I (s0 : List TSlot) (s1 : List TSlot) (s5 : Int) : St := ⟨sp 35 0 [(0, .d ((D.l TSlot.D) s0)), (1, .d ((D.l TSlot.D) s1)), (5, .d ((D.i .i64) s5))], [], []⟩
def ref05_Under_l1_O (s0 : List TSlot) (s1 : List TSlot) (o : Unit ⊕ Unit) : Ex × St := match o with
  | .inl o => (.exit 0, ⟨sp 35 0 [], [], []⟩)
  | .inr o => (.ret, ⟨sp 35 0 [(4, .d (D.b false))], [], []⟩)
theorem ref05_Under_l1_rnd (rd : Option Nat) (s0 : List TSlot) (s1 : List TSlot) (s5 : Int) (o : (Int) ⊕ (Unit ⊕ Unit)) (h : ref05_Under_l1_s s0 s1 s5 = some o) : Arr Try.prog rd (fbody Try.prog 31) (0 :: [0, 1, 0, 1]) (ref05_Under_l1_I s0 s1 s5) (rR (fun s : Int => ref05_Under_l1_I s0 s1 s) (ref05_Under_l1_O s0 s1) o).1 (rR (fun s : Int => ref05_Under_l1_I s0 s1 s) (ref05_Under_l1_O s0 s1) o).2 := by
  unfold ref05_Under_l1_s at h
  rcases iteE_some h with ⟨h1, h⟩ | ⟨h1, h⟩
  ·
   obtain ⟨x1, h2, h⟩ := idxE_some h
   obtain ⟨r2, h3, h⟩ := bndE_some h
   rcases iteE_some h with ⟨h4, h⟩ | ⟨h4, h⟩
   ·
    obtain rfl := Option.some.inj h
    exact runB_arr mixed [(10, .int (s0.length : Int)), (11, .bit true), (18, .el (TSlot.D x1)), (21, .ret (.tup [.d (TValue.D r2.1), .d (D.b r2.2)])), (26, .bit true)] [] [.live [4], .keep []] (ai (len_map TSlot.D s0) (ai h1 (ai (elem_map TSlot.D h2) (ai (ref05_Get_ok s1 x1.var r2 h3) (ai h4 (ti)))))) (by kernel_rfl)
   ·
    obtain ⟨x3, h5, h⟩ := idxE_some h
    rcases iteE_some h with ⟨h6, h⟩ | ⟨h6, h⟩
    ·
     obtain rfl := Option.some.inj h
     exact runB_arr mixed [(10, .int (s0.length : Int)), (11, .bit true), (18, .el (TSlot.D x1)), (21, .ret (.tup [.d (TValue.D r2.1), .d (D.b r2.2)])), (26, .bit false), (30, .el (TSlot.D x3)), (34, .bit true)] [] [.live [4], .keep []] (ai (len_map TSlot.D s0) (ai h1 (ai (elem_map TSlot.D h2) (ai (ref05_Get_ok s1 x1.var r2 h3) (ai h4 (ai (elem_map TSlot.D h5) (ai h6 (ti)))))))) (by kernel_rfl)
    ·
     obtain rfl := Option.some.inj h
     exact runB_arr mixed [(10, .int (s0.length : Int)), (11, .bit true), (18, .el (TSlot.D x1)), (21, .ret (.tup [.d (TValue.D r2.1), .d (D.b r2.2)])), (26, .bit false), (30, .el (TSlot.D x3)), (34, .bit false)] [] [.live [0, 1, 5], .keep []] (ai (len_map TSlot.D s0) (ai h1 (ai (elem_map TSlot.D h2) (ai (ref05_Get_ok s1 x1.var r2 h3) (ai h4 (ai (elem_map TSlot.D h5) (ai h6 (ti)))))))) (by kernel_rfl)
  ·
   obtain rfl := Option.some.inj h
   exact runB_arr mixed [(10, .int (s0.length : Int)), (11, .bit false)] [] [.live [], .keep []] (ai (len_map TSlot.D s0) (ai h1 (ti))) (by kernel_rfl)
theorem ref05_Under_l1_ok (rd : Option Nat) (s0 : List TSlot) (s1 : List TSlot) (s5 : Int) (t : Unit ⊕ Unit) (h : ref05_Under_l1 s0 s1 s5 = some t) : LpOf Try.prog rd (fbody Try.prog 31) [0, 1, 0, 1] (ref05_Under_l1_I s0 s1 s5) ((ref05_Under_l1_O s0 s1) t).1 ((ref05_Under_l1_O s0 s1) t).2 :=
  loopE_lpR (fun s : Int => ref05_Under_l1_I s0 s1 s) (ref05_Under_l1_O s0 s1) (by kernel_rfl) (fun t => isN_ne (by rcases t with (_ | _) <;> rfl)) (fun s o h => ref05_Under_l1_rnd rd s0 s1 s o h) (s := s5) (t := t) h
theorem ref05_Under_ok (a0 : List TSlot) (a1 : List TSlot) (r : Bool) (h : ref05_Under a0 a1 = some r) : ACall Try.prog 31 [.d ((D.l TSlot.D) a0), .d ((D.l TSlot.D) a1)] [] (.d (D.b r)) [] := by
  unfold ref05_Under at h
  obtain ⟨o4, h7, h⟩ := bndE_some h
  replace h := sumE_some h
  rcases h with ⟨o5, rfl, h⟩ | ⟨o6, rfl, h⟩
  ·
   obtain rfl := Option.some.inj h
   exact runF_call mixed [] [⟨[0, 1, 0, 1], [.live [0, 1, 5], .keep []], .exit 0, (ref05_Under_l1_O a0 a1 (Sum.inl o5)).2⟩] [] (ai (ref05_Under_l1_ok none a0 a1 0 (Sum.inl o5) h7) (ti)) (by kernel_rfl)
  ·
   obtain rfl := Option.some.inj h
   exact runF_call mixed [] [⟨[0, 1, 0, 1], [.live [0, 1, 5], .keep []], .ret, (ref05_Under_l1_O a0 a1 (Sum.inr o6)).2⟩] [] (ai (ref05_Under_l1_ok none a0 a1 0 (Sum.inr o6) h7) (ti)) (by kernel_rfl)
def ref17_Under_b5_I (s0 : List THit) (s1 : List TSlot) (s6 : Int) (s19 : Bool) (w5 : List THit) : St := ⟨sp 28 0 [(0, .d ((D.l THit.D) s0)), (1, .d ((D.l TSlot.D) s1)), (5, .row 5), (6, .d ((D.i .i64) s6)), (19, .d (D.b s19))], [(5, .row 57 3 (w5.map THit.D))], []⟩
def ref17_Under_b5_O (s0 : List THit) (s1 : List TSlot) (s6 : Int) (s19 : Bool) (w5 : List THit) (o : (List THit)) : Ex × St := (.normal, ⟨sp 28 0 [(0, .d ((D.l THit.D) s0)), (1, .d ((D.l TSlot.D) s1)), (5, .row 5), (6, .d ((D.i .i64) s6))], [(5, .row 57 3 (o.map THit.D))], []⟩)
theorem ref17_Under_b5_ok (rd : Option Nat) (s0 : List THit) (s1 : List TSlot) (s6 : Int) (s19 : Bool) (w5 : List THit) (o : (List THit)) (h : ref17_Under_b5 s0 s1 s6 s19 w5 = some o) : LpOf Try.prog rd (fbody Try.prog 11) [1, 0, 0, 1, 0, 0, 1, 0, 1, 1] (ref17_Under_b5_I s0 s1 s6 s19 w5) (ref17_Under_b5_O s0 s1 s6 s19 w5 o).1 (ref17_Under_b5_O s0 s1 s6 s19 w5 o).2 := by
  unfold ref17_Under_b5 at h
  cases s19 with
  | true =>
   replace h := iteT h
   obtain ⟨x8, h13, h⟩ := idxE_some h
   obtain ⟨h14, h⟩ := chkE_some h
   obtain rfl := Option.some.inj h
   exact (runB_arr mixed [(23, .el (THit.D x8)), (26, .sl ((w5 ++ [x8]).map THit.D))] [] [.live [0, 1, 5, 6], .keep [26], .ren 26 5, .sort] (ai (elem_map THit.D h13) (ai (nc_ok THit.D [x8]) (ai (nc_ok THit.D [x8]) (ai (fit_map THit.D h14) (ai (app_map THit.D w5 [x8]) (ti)))))) (by kernel_rfl)).lp
  | false =>
   replace h := iteF h
   obtain rfl := Option.some.inj h
   exact (runB_arr mixed [] [] [.live [0, 1, 5, 6], .keep [5]] (ti) (by kernel_rfl)).lp
def ref17_Under_b4_I (s0 : List THit) (s1 : List TSlot) (s6 : Int) (w5 : List THit) : St := ⟨sp 28 0 [(0, .d ((D.l THit.D) s0)), (1, .d ((D.l TSlot.D) s1)), (5, .row 5), (6, .d ((D.i .i64) s6))], [(5, .row 57 3 (w5.map THit.D))], []⟩
def ref17_Under_b4_O (s0 : List THit) (s1 : List TSlot) (s6 : Int) (w5 : List THit) (o : (List THit)) : Ex × St := (.normal, ⟨sp 28 0 [(0, .d ((D.l THit.D) s0)), (1, .d ((D.l TSlot.D) s1)), (5, .row 5), (6, .d ((D.i .i64) s6))], [(5, .row 57 3 (o.map THit.D))], []⟩)
theorem ref17_Under_b4_ok (rd : Option Nat) (s0 : List THit) (s1 : List TSlot) (s6 : Int) (w5 : List THit) (o : (List THit)) (h : ref17_Under_b4 s0 s1 s6 w5 = some o) : LpOf Try.prog rd (fbody Try.prog 11) [0, 1, 0, 0, 1, 0, 1, 1] (ref17_Under_b4_I s0 s1 s6 w5) (ref17_Under_b4_O s0 s1 s6 w5 o).1 (ref17_Under_b4_O s0 s1 s6 w5 o).2 := by
  unfold ref17_Under_b4 at h
  obtain ⟨x6, h10, h⟩ := idxE_some h
  obtain ⟨r7, h11, h⟩ := bndE_some h
  obtain ⟨o9, h15, h⟩ := bndE_some h
  obtain rfl := Option.some.inj h
  exact (runB_arr mixed [(15, .el (THit.D x6)), (19, .ret (.d (D.b r7)))] [⟨[1, 0, 0, 1, 0, 0, 1, 0, 1, 1], [.live [0, 1, 5, 6, 19], .keep [5]], .normal, (ref17_Under_b5_O s0 s1 s6 r7 w5 o9).2⟩] [.live [0, 1, 5, 6], .keep [5]] (ai (elem_map THit.D h10) (ai (ref05_Under_ok x6.bind s1 r7 h11) (ai (ref17_Under_b5_ok rd s0 s1 s6 r7 w5 o9 h15) (ti)))) (by kernel_rfl)).lp
def ref17_Under_l1_I (s0 : List THit) (s1 : List TSlot) (s6 : Int) (w5 : List THit) : St := ⟨sp 28 0 [(0, .d ((D.l THit.D) s0)), (1, .d ((D.l TSlot.D) s1)), (5, .row 5), (6, .d ((D.i .i64) s6))], [(5, .row 57 3 (w5.map THit.D))], []⟩
def ref17_Under_l1_O (s0 : List THit) (s1 : List TSlot) (o : (List THit)) : Ex × St := (.exit 0, ⟨sp 28 0 [(5, .row 5)], [(5, .row 57 3 (o.map THit.D))], []⟩)
theorem ref17_Under_l1_rnd (rd : Option Nat) (s0 : List THit) (s1 : List TSlot) (s6 : Int) (w5 : List THit) (o : (Int × List THit) ⊕ ((List THit))) (h : ref17_Under_l1_s s0 s1 s6 w5 = some o) : Arr Try.prog rd (fbody Try.prog 11) (0 :: [0, 1, 0, 1, 1]) (ref17_Under_l1_I s0 s1 s6 w5) (rR (fun s : Int × List THit => ref17_Under_l1_I s0 s1 s.1 s.2) (ref17_Under_l1_O s0 s1) o).1 (rR (fun s : Int × List THit => ref17_Under_l1_I s0 s1 s.1 s.2) (ref17_Under_l1_O s0 s1) o).2 := by
  unfold ref17_Under_l1_s at h
  rcases iteE_some h with ⟨h9, h⟩ | ⟨h9, h⟩
  ·
   obtain ⟨o10, h16, h⟩ := bndE_some h
   obtain rfl := Option.some.inj h
   exact runB_arr mixed [(9, .int (s0.length : Int)), (10, .bit true)] [⟨[0, 1, 0, 0, 1, 0, 1, 1], [.live [0, 1, 5, 6], .keep [5]], .normal, (ref17_Under_b4_O s0 s1 s6 w5 o10).2⟩] [.live [0, 1, 5, 6], .keep [5]] (ai (len_map THit.D s0) (ai h9 (ai (ref17_Under_b4_ok rd s0 s1 s6 w5 o10 h16) (ti)))) (by kernel_rfl)
  ·
   obtain rfl := Option.some.inj h
   exact runB_arr mixed [(9, .int (s0.length : Int)), (10, .bit false)] [] [.live [5], .keep [5]] (ai (len_map THit.D s0) (ai h9 (ti))) (by kernel_rfl)
theorem ref17_Under_l1_ok (rd : Option Nat) (s0 : List THit) (s1 : List TSlot) (s6 : Int) (w5 : List THit) (t : (List THit)) (h : ref17_Under_l1 s0 s1 s6 w5 = some t) : LpOf Try.prog rd (fbody Try.prog 11) [0, 1, 0, 1, 1] (ref17_Under_l1_I s0 s1 s6 w5) ((ref17_Under_l1_O s0 s1) t).1 ((ref17_Under_l1_O s0 s1) t).2 :=
  loopE_lpR (fun s : Int × List THit => ref17_Under_l1_I s0 s1 s.1 s.2) (ref17_Under_l1_O s0 s1) (by kernel_rfl) (fun t => isN_ne (by rfl)) (fun s o h => ref17_Under_l1_rnd rd s0 s1 s.1 s.2 o h) (s := (s6, w5)) (t := t) h
theorem ref17_Under_ok (a0 : List THit) (a1 : List TSlot) (r : List THit) (h : ref17_Under a0 a1 = some r) : ACall Try.prog 11 [.d ((D.l THit.D) a0), .d ((D.l TSlot.D) a1)] [] (.d ((D.l THit.D) r)) [] := by
  unfold ref17_Under at h
  obtain ⟨o11, h17, h⟩ := bndE_some h
  obtain rfl := Option.some.inj h
  exact runF_call mixed [] [⟨[0, 1, 0, 1, 1], [.live [0, 1, 5, 6], .keep [], .nil 5 5 57 3, .sort], .exit 0, (ref17_Under_l1_O a0 a1 o11).2⟩] [] (ai (ref17_Under_l1_ok none a0 a1 0 ([] : List THit) o11 h17) (ti)) (by kernel_rfl)
theorem value_Less_ok (a0 : TValue) (a1 : TValue) (r : Bool) (h : value_Less a0 a1 = some r) : ACall Try.prog 62 [.d (TValue.D a0), .d (TValue.D a1)] [] (.d (D.b r)) [] := by
  unfold value_Less at h
  rcases iteE_some h with ⟨h1, h⟩ | ⟨h1, h⟩
  ·
   obtain rfl := Option.some.inj h
   exact runF_call mixed [(5, .bit true)] [] [] (ai h1 (ti)) (by kernel_rfl)
  ·
   rcases iteE_some h with ⟨h2, h⟩ | ⟨h2, h⟩
   ·
    obtain rfl := Option.some.inj h
    exact runF_call mixed [(5, .bit false), (16, .bit true)] [] [] (ai h1 (ai h2 (ti))) (by kernel_rfl)
   ·
    rcases iteE_some h with ⟨h3, h⟩ | ⟨h3, h⟩
    ·
     obtain rfl := Option.some.inj h
     exact runF_call mixed [(5, .bit false), (16, .bit false), (25, .bit true)] [] [] (ai h1 (ai h2 (ai h3 (ti)))) (by kernel_rfl)
    ·
     rcases iteE_some h with ⟨h4, h⟩ | ⟨h4, h⟩
     ·
      obtain rfl := Option.some.inj h
      exact runF_call mixed [(5, .bit false), (16, .bit false), (25, .bit false), (37, .bit true)] [] [] (ai h1 (ai h2 (ai h3 (ai h4 (ti))))) (by kernel_rfl)
     ·
      obtain rfl := Option.some.inj h
      exact runF_call mixed [(5, .bit false), (16, .bit false), (25, .bit false), (37, .bit false)] [] [] (ai h1 (ai h2 (ai h3 (ai h4 (ti))))) (by kernel_rfl)
def binding_Less_l1_I (s1 : List TSlot) (s17 : List TSlot) (s18 : Int) (s19 : Int) : St := ⟨sp 59 0 [(1, .d ((D.l TSlot.D) s1)), (17, .d ((D.l TSlot.D) s17)), (18, .d ((D.i .i64) s18)), (19, .d ((D.i .i64) s19))], [], []⟩
def binding_Less_l1_O (s1 : List TSlot) (s17 : List TSlot) (s18 : Int) (o : Unit ⊕ Bool) : Ex × St := match o with
  | .inl o => (.exit 0, ⟨sp 59 0 [], [], []⟩)
  | .inr o => (.ret, ⟨sp 59 0 [(4, .d (D.b o))], [], []⟩)
theorem binding_Less_l1_rnd (rd : Option Nat) (s1 : List TSlot) (s17 : List TSlot) (s18 : Int) (s19 : Int) (o : (Int) ⊕ (Unit ⊕ Bool)) (h : binding_Less_l1_s s1 s17 s18 s19 = some o) : Arr Try.prog rd (fbody Try.prog 45) (0 :: [0, 1, 0, 1, 1]) (binding_Less_l1_I s1 s17 s18 s19) (rR (fun s : Int => binding_Less_l1_I s1 s17 s18 s) (binding_Less_l1_O s1 s17 s18) o).1 (rR (fun s : Int => binding_Less_l1_I s1 s17 s18 s) (binding_Less_l1_O s1 s17 s18) o).2 := by
  unfold binding_Less_l1_s at h
  rcases iteE_some h with ⟨h2, h⟩ | ⟨h2, h⟩
  ·
   obtain ⟨x1, h3, h⟩ := idxE_some h
   obtain ⟨x2, h4, h⟩ := idxE_some h
   rcases iteE_some h with ⟨h5, h⟩ | ⟨h5, h⟩
   ·
    obtain ⟨x3, h6, h⟩ := idxE_some h
    obtain rfl := Option.some.inj h
    exact runB_arr mixed [(20, .bit true), (22, .el (TSlot.D x1)), (29, .el (TSlot.D x2)), (24, .bit true), (37, .el (TSlot.D x3))] [] [.live [4], .keep []] (ai h2 (ai (elem_map TSlot.D h3) (ai (elem_map TSlot.D h4) (ai h5 (ai (elem_map TSlot.D h6) (ti)))))) (by kernel_rfl)
   ·
    obtain ⟨x4, h7, h⟩ := idxE_some h
    rcases iteE_some h with ⟨h8, h⟩ | ⟨h8, h⟩
    ·
     obtain ⟨x5, h9, h⟩ := idxE_some h
     obtain ⟨r6, h10, h⟩ := bndE_some h
     obtain rfl := Option.some.inj h
     exact runB_arr mixed [(20, .bit true), (22, .el (TSlot.D x1)), (29, .el (TSlot.D x2)), (24, .bit false), (46, .el (TSlot.D x4)), (41, .bit true), (54, .el (TSlot.D x5)), (57, .ret (.d (D.b r6)))] [] [.live [4], .keep []] (ai h2 (ai (elem_map TSlot.D h3) (ai (elem_map TSlot.D h4) (ai h5 (ai (elem_map TSlot.D h7) (ai h8 (ai (elem_map TSlot.D h9) (ai (value_Less_ok x1.value x5.value r6 h10) (ti))))))))) (by kernel_rfl)
    ·
     obtain rfl := Option.some.inj h
     exact runB_arr mixed [(20, .bit true), (22, .el (TSlot.D x1)), (29, .el (TSlot.D x2)), (24, .bit false), (46, .el (TSlot.D x4)), (41, .bit false)] [] [.live [1, 17, 18, 19], .keep []] (ai h2 (ai (elem_map TSlot.D h3) (ai (elem_map TSlot.D h4) (ai h5 (ai (elem_map TSlot.D h7) (ai h8 (ti))))))) (by kernel_rfl)
  ·
   obtain rfl := Option.some.inj h
   exact runB_arr mixed [(20, .bit false)] [] [.live [], .keep []] (ai h2 (ti)) (by kernel_rfl)
theorem binding_Less_l1_ok (rd : Option Nat) (s1 : List TSlot) (s17 : List TSlot) (s18 : Int) (s19 : Int) (t : Unit ⊕ Bool) (h : binding_Less_l1 s1 s17 s18 s19 = some t) : LpOf Try.prog rd (fbody Try.prog 45) [0, 1, 0, 1, 1] (binding_Less_l1_I s1 s17 s18 s19) ((binding_Less_l1_O s1 s17 s18) t).1 ((binding_Less_l1_O s1 s17 s18) t).2 :=
  loopE_lpR (fun s : Int => binding_Less_l1_I s1 s17 s18 s) (binding_Less_l1_O s1 s17 s18) (by kernel_rfl) (fun t => isN_ne (by rcases t with (_ | _) <;> rfl)) (fun s o h => binding_Less_l1_rnd rd s1 s17 s18 s o h) (s := s19) (t := t) h
theorem binding_Less_ok (a0 : List TSlot) (a1 : List TSlot) (r : Bool) (h : binding_Less a0 a1 = some r) : ACall Try.prog 45 [.d ((D.l TSlot.D) a0), .d ((D.l TSlot.D) a1)] [] (.d (D.b r)) [] := by
  unfold binding_Less at h
  rcases iteE_some h with ⟨h1, h⟩ | ⟨h1, h⟩
  ·
   obtain rfl := Option.some.inj h
   exact runF_call mixed [(8, .int (a0.length : Int)), (10, .int (a1.length : Int)), (11, .bit true), (13, .int (a0.length : Int)), (15, .int (a1.length : Int))] [] [] (ai (len_map TSlot.D a0) (ai (len_map TSlot.D a1) (ai h1 (ai (len_map TSlot.D a0) (ai (len_map TSlot.D a1) (ti)))))) (by kernel_rfl)
  ·
   obtain ⟨o7, h11, h⟩ := bndE_some h
   replace h := sumE_some h
   rcases h with ⟨o8, rfl, h⟩ | ⟨o9, rfl, h⟩
   ·
    obtain rfl := Option.some.inj h
    exact runF_call mixed [(8, .int (a0.length : Int)), (10, .int (a1.length : Int)), (11, .bit false), (18, .int (a0.length : Int))] [⟨[0, 1, 0, 1, 1], [.live [1, 17, 18, 19], .keep []], .exit 0, (binding_Less_l1_O a1 a0 (a0.length : Int) (Sum.inl o8)).2⟩] [] (ai (len_map TSlot.D a0) (ai (len_map TSlot.D a1) (ai h1 (ai (len_map TSlot.D a0) (ai (binding_Less_l1_ok none a1 a0 (a0.length : Int) 0 (Sum.inl o8) h11) (ti)))))) (by kernel_rfl)
   ·
    obtain rfl := Option.some.inj h
    exact runF_call mixed [(8, .int (a0.length : Int)), (10, .int (a1.length : Int)), (11, .bit false), (18, .int (a0.length : Int))] [⟨[0, 1, 0, 1, 1], [.live [1, 17, 18, 19], .keep []], .ret, (binding_Less_l1_O a1 a0 (a0.length : Int) (Sum.inr o9)).2⟩] [] (ai (len_map TSlot.D a0) (ai (len_map TSlot.D a1) (ai h1 (ai (len_map TSlot.D a0) (ai (binding_Less_l1_ok none a1 a0 (a0.length : Int) 0 (Sum.inr o9) h11) (ti)))))) (by kernel_rfl)
theorem match_Binds_1_ok (a0 : List TSlot) (a1 : List TSlot) (r : Int) (h : match_Binds_1 a0 a1 = some r) : ACall Try.prog 44 [.d ((D.l TSlot.D) a0), .d ((D.l TSlot.D) a1)] [] (.d ((D.i .i64) r)) [] := by
  unfold match_Binds_1 at h
  obtain ⟨r1, h1, h⟩ := bndE_some h
  cases r1 with
  | true =>
   replace h := iteT h
   obtain rfl := Option.some.inj h
   exact runF_call mixed [(8, .ret (.d (D.b true)))] [] [] (ai (binding_Less_ok a0 a1 true h1) (ti)) (by kernel_rfl)
  | false =>
   replace h := iteF h
   obtain ⟨r2, h3, h⟩ := bndE_some h
   cases r2 with
   | true =>
    replace h := iteT h
    obtain rfl := Option.some.inj h
    exact runF_call mixed [(8, .ret (.d (D.b false))), (12, .ret (.d (D.b true)))] [] [] (ai (binding_Less_ok a0 a1 false h1) (ai (binding_Less_ok a1 a0 true h3) (ti))) (by kernel_rfl)
   | false =>
    replace h := iteF h
    obtain rfl := Option.some.inj h
    exact runF_call mixed [(8, .ret (.d (D.b false))), (12, .ret (.d (D.b false)))] [] [] (ai (binding_Less_ok a0 a1 false h1) (ai (binding_Less_ok a1 a0 false h3) (ti))) (by kernel_rfl)
def slices_BinarySearchFunc_Slot_Slot_Slot_b3_I (s0 : List (List TSlot)) (s1 : List TSlot) (s8 : Int) (s9 : Int) (s10 : Int) (s11 : Int) (s31 : Bool) : St := ⟨sp 49 0 [(0, .d ((D.l (D.l TSlot.D)) s0)), (1, .d ((D.l TSlot.D) s1)), (2, .clo (.func 44) [] []), (8, .d ((D.i .i64) s8)), (9, .d ((D.i .i64) s9)), (10, .d ((D.i .i64) s10)), (11, .d ((D.i .i64) s11)), (31, .d (D.b s31))], [], []⟩
def slices_BinarySearchFunc_Slot_Slot_Slot_b3_O (s0 : List (List TSlot)) (s1 : List TSlot) (s8 : Int) (s9 : Int) (s10 : Int) (s11 : Int) (s31 : Bool) (o : (Int × Int)) : Ex × St := (.normal, ⟨sp 49 0 [(0, .d ((D.l (D.l TSlot.D)) s0)), (1, .d ((D.l TSlot.D) s1)), (2, .clo (.func 44) [] []), (8, .d ((D.i .i64) s8)), (9, .d ((D.i .i64) o.1)), (10, .d ((D.i .i64) o.2))], [], []⟩)
theorem slices_BinarySearchFunc_Slot_Slot_Slot_b3_ok (rd : Option Nat) (s0 : List (List TSlot)) (s1 : List TSlot) (s8 : Int) (s9 : Int) (s10 : Int) (s11 : Int) (s31 : Bool) (o : (Int × Int)) (h : slices_BinarySearchFunc_Slot_Slot_Slot_b3 s0 s1 s8 s9 s10 s11 s31 = some o) : LpOf Try.prog rd (fbody Try.prog 43) [1, 1, 0, 1, 0, 0, 0, 1, 1, 1] (slices_BinarySearchFunc_Slot_Slot_Slot_b3_I s0 s1 s8 s9 s10 s11 s31) (slices_BinarySearchFunc_Slot_Slot_Slot_b3_O s0 s1 s8 s9 s10 s11 s31 o).1 (slices_BinarySearchFunc_Slot_Slot_Slot_b3_O s0 s1 s8 s9 s10 s11 s31 o).2 := by
  unfold slices_BinarySearchFunc_Slot_Slot_Slot_b3 at h
  cases s31 with
  | true =>
   replace h := iteT h
   obtain rfl := Option.some.inj h
   exact (runB_arr mixed [] [] [.live [0, 1, 2, 8, 9, 10], .keep []] (ti) (by kernel_rfl)).lp
  | false =>
   replace h := iteF h
   obtain rfl := Option.some.inj h
   exact (runB_arr mixed [] [] [.live [0, 1, 2, 8, 9, 10], .keep []] (ti) (by kernel_rfl)).lp
def slices_BinarySearchFunc_Slot_Slot_Slot_b2_I (s0 : List (List TSlot)) (s1 : List TSlot) (s8 : Int) (s9 : Int) (s10 : Int) : St := ⟨sp 49 0 [(0, .d ((D.l (D.l TSlot.D)) s0)), (1, .d ((D.l TSlot.D) s1)), (2, .clo (.func 44) [] []), (8, .d ((D.i .i64) s8)), (9, .d ((D.i .i64) s9)), (10, .d ((D.i .i64) s10))], [], []⟩
def slices_BinarySearchFunc_Slot_Slot_Slot_b2_O (s0 : List (List TSlot)) (s1 : List TSlot) (s8 : Int) (s9 : Int) (s10 : Int) (o : (Int × Int)) : Ex × St := (.normal, ⟨sp 49 0 [(0, .d ((D.l (D.l TSlot.D)) s0)), (1, .d ((D.l TSlot.D) s1)), (2, .clo (.func 44) [] []), (8, .d ((D.i .i64) s8)), (9, .d ((D.i .i64) o.1)), (10, .d ((D.i .i64) o.2))], [], []⟩)
theorem slices_BinarySearchFunc_Slot_Slot_Slot_b2_ok (rd : Option Nat) (s0 : List (List TSlot)) (s1 : List TSlot) (s8 : Int) (s9 : Int) (s10 : Int) (o : (Int × Int)) (h : slices_BinarySearchFunc_Slot_Slot_Slot_b2 s0 s1 s8 s9 s10 = some o) : LpOf Try.prog rd (fbody Try.prog 43) [1, 0, 0, 0, 1, 1, 1] (slices_BinarySearchFunc_Slot_Slot_Slot_b2_I s0 s1 s8 s9 s10) (slices_BinarySearchFunc_Slot_Slot_Slot_b2_O s0 s1 s8 s9 s10 o).1 (slices_BinarySearchFunc_Slot_Slot_Slot_b2_O s0 s1 s8 s9 s10 o).2 := by
  unfold slices_BinarySearchFunc_Slot_Slot_Slot_b2 at h
  obtain ⟨x1, h2, h⟩ := idxE_some h
  obtain ⟨r2, h3, h⟩ := bndE_some h
  obtain ⟨o3, h5, h⟩ := bndE_some h
  obtain rfl := Option.some.inj h
  exact (runB_arr mixed [(27, .el ((D.l TSlot.D) x1)), (30, .ret (.d ((D.i .i64) r2)))] [⟨[1, 1, 0, 1, 0, 0, 0, 1, 1, 1], [.live [0, 1, 2, 8, 9, 10, 11, 31], .keep []], .normal, (slices_BinarySearchFunc_Slot_Slot_Slot_b3_O s0 s1 s8 s9 s10 (IntKind.wrap .i64 (intVal .shr .u64 (IntKind.wrap .u64 (intVal .add .i64 s9 s10)) 1)) (decide (r2 < 0)) o3).2⟩] [.live [0, 1, 2, 8, 9, 10], .keep []] (ai (of_decide_eq_true rfl : (0 : Int) ≤ 1) (ai (elem_map (D.l TSlot.D) h2) (ai (match_Binds_1_ok x1 s1 r2 h3) (ai (slices_BinarySearchFunc_Slot_Slot_Slot_b3_ok rd s0 s1 s8 s9 s10 (IntKind.wrap .i64 (intVal .shr .u64 (IntKind.wrap .u64 (intVal .add .i64 s9 s10)) 1)) (decide (r2 < 0)) o3 h5) (ti))))) (by kernel_rfl)).lp
def slices_BinarySearchFunc_Slot_Slot_Slot_l1_I (s0 : List (List TSlot)) (s1 : List TSlot) (s8 : Int) (s9 : Int) (s10 : Int) : St := ⟨sp 49 0 [(0, .d ((D.l (D.l TSlot.D)) s0)), (1, .d ((D.l TSlot.D) s1)), (2, .clo (.func 44) [] []), (8, .d ((D.i .i64) s8)), (9, .d ((D.i .i64) s9)), (10, .d ((D.i .i64) s10))], [], []⟩
def slices_BinarySearchFunc_Slot_Slot_Slot_l1_O (s0 : List (List TSlot)) (s1 : List TSlot) (s8 : Int) (o : Int) : Ex × St := (.exit 0, ⟨sp 49 0 [(0, .d ((D.l (D.l TSlot.D)) s0)), (1, .d ((D.l TSlot.D) s1)), (2, .clo (.func 44) [] []), (8, .d ((D.i .i64) s8)), (9, .d ((D.i .i64) o))], [], []⟩)
theorem slices_BinarySearchFunc_Slot_Slot_Slot_l1_rnd (rd : Option Nat) (s0 : List (List TSlot)) (s1 : List TSlot) (s8 : Int) (s9 : Int) (s10 : Int) (o : (Int × Int) ⊕ (Int)) (h : slices_BinarySearchFunc_Slot_Slot_Slot_l1_s s0 s1 s8 s9 s10 = some o) : Arr Try.prog rd (fbody Try.prog 43) (0 :: [0, 0, 1, 1, 1]) (slices_BinarySearchFunc_Slot_Slot_Slot_l1_I s0 s1 s8 s9 s10) (rR (fun s : Int × Int => slices_BinarySearchFunc_Slot_Slot_Slot_l1_I s0 s1 s8 s.1 s.2) (slices_BinarySearchFunc_Slot_Slot_Slot_l1_O s0 s1 s8) o).1 (rR (fun s : Int × Int => slices_BinarySearchFunc_Slot_Slot_Slot_l1_I s0 s1 s8 s.1 s.2) (slices_BinarySearchFunc_Slot_Slot_Slot_l1_O s0 s1 s8) o).2 := by
  unfold slices_BinarySearchFunc_Slot_Slot_Slot_l1_s at h
  rcases iteE_some h with ⟨h1, h⟩ | ⟨h1, h⟩
  ·
   obtain ⟨o4, h6, h⟩ := bndE_some h
   obtain rfl := Option.some.inj h
   exact runB_arr mixed [(17, .bit true)] [⟨[1, 0, 0, 0, 1, 1, 1], [.live [0, 1, 2, 8, 9, 10], .keep []], .normal, (slices_BinarySearchFunc_Slot_Slot_Slot_b2_O s0 s1 s8 s9 s10 o4).2⟩] [.live [0, 1, 2, 8, 9, 10], .keep []] (ai h1 (ai (slices_BinarySearchFunc_Slot_Slot_Slot_b2_ok rd s0 s1 s8 s9 s10 o4 h6) (ti))) (by kernel_rfl)
  ·
   obtain rfl := Option.some.inj h
   exact runB_arr mixed [(17, .bit false)] [] [.live [0, 1, 2, 8, 9], .keep []] (ai h1 (ti)) (by kernel_rfl)
theorem slices_BinarySearchFunc_Slot_Slot_Slot_l1_ok (rd : Option Nat) (s0 : List (List TSlot)) (s1 : List TSlot) (s8 : Int) (s9 : Int) (s10 : Int) (t : Int) (h : slices_BinarySearchFunc_Slot_Slot_Slot_l1 s0 s1 s8 s9 s10 = some t) : LpOf Try.prog rd (fbody Try.prog 43) [0, 0, 1, 1, 1] (slices_BinarySearchFunc_Slot_Slot_Slot_l1_I s0 s1 s8 s9 s10) ((slices_BinarySearchFunc_Slot_Slot_Slot_l1_O s0 s1 s8) t).1 ((slices_BinarySearchFunc_Slot_Slot_Slot_l1_O s0 s1 s8) t).2 :=
  loopE_lpR (fun s : Int × Int => slices_BinarySearchFunc_Slot_Slot_Slot_l1_I s0 s1 s8 s.1 s.2) (slices_BinarySearchFunc_Slot_Slot_Slot_l1_O s0 s1 s8) (by kernel_rfl) (fun t => isN_ne (by rfl)) (fun s o h => slices_BinarySearchFunc_Slot_Slot_Slot_l1_rnd rd s0 s1 s8 s.1 s.2 o h) (s := (s9, s10)) (t := t) h
theorem slices_BinarySearchFunc_Slot_Slot_Slot_ok (a0 : List (List TSlot)) (a1 : List TSlot) (r : Int × Bool) (h : slices_BinarySearchFunc_Slot_Slot_Slot a0 a1 = some r) : ACall Try.prog 43 [.d ((D.l (D.l TSlot.D)) a0), .d ((D.l TSlot.D) a1), .clo (.func 44) [] []] [] (.tup [.d ((D.i .i64) r.1), .d (D.b r.2)]) [] := by
  unfold slices_BinarySearchFunc_Slot_Slot_Slot at h
  obtain ⟨o5, h7, h⟩ := bndE_some h
  rcases iteE_some h with ⟨h8, h⟩ | ⟨h8, h⟩
  ·
   obtain ⟨x6, h9, h⟩ := idxE_some h
   obtain ⟨r7, h10, h⟩ := bndE_some h
   obtain rfl := Option.some.inj h
   exact runF_call mixed [(13, .int (a0.length : Int)), (39, .bit true), (43, .el ((D.l TSlot.D) x6)), (46, .ret (.d ((D.i .i64) r7)))] [⟨[0, 0, 1, 1, 1], [.live [0, 1, 2, 8, 9, 10], .keep []], .exit 0, (slices_BinarySearchFunc_Slot_Slot_Slot_l1_O a0 a1 (a0.length : Int) o5).2⟩] [] (ai (len_map (D.l TSlot.D) a0) (ai (slices_BinarySearchFunc_Slot_Slot_Slot_l1_ok none a0 a1 (a0.length : Int) 0 (a0.length : Int) o5 h7) (ai h8 (ai (elem_map (D.l TSlot.D) h9) (ai (match_Binds_1_ok x6 a1 r7 h10) (ti)))))) (by kernel_rfl)
  ·
   obtain rfl := Option.some.inj h
   exact runF_call mixed [(13, .int (a0.length : Int)), (39, .bit false)] [⟨[0, 0, 1, 1, 1], [.live [0, 1, 2, 8, 9, 10], .keep []], .exit 0, (slices_BinarySearchFunc_Slot_Slot_Slot_l1_O a0 a1 (a0.length : Int) o5).2⟩] [] (ai (len_map (D.l TSlot.D) a0) (ai (slices_BinarySearchFunc_Slot_Slot_Slot_l1_ok none a0 a1 (a0.length : Int) 0 (a0.length : Int) o5 h7) (ai h8 (ti)))) (by kernel_rfl)
theorem slices_Insert_Slot_Slot_v3_ok (i : Int) (ys r : List (List TSlot)) (h : slices_Insert_Slot_Slot_v3 i ys = some r) : ACall Try.prog 46 [.nil, .d (D.i .i64 i), .row 0] [(0, .row 31 1 (ys.map (D.l TSlot.D)))] (.row 1) [(1, .rw 31 1 (r.map (D.l TSlot.D)))] :=
  insN_ok (ρ := ⟨fun n => if n = 22 then 46 else if n = 29 then 63 else 64, fun n => if n = 0 then 0 else if n = 3 then 3 else if n = 4 then 4 else if n = 24 then 54 else 31, id⟩) (by_ := 24) (D.l TSlot.D) mixed rfl ⟨ "slices.Insert[[][]proctor/api.Slot,[]proctor/api.Slot]", by decide, (Try.func46).trans (by kernel_rfl)⟩ Try.underlying3 Try.underlying4 Try.underlying54 (by kernel_rfl) (by decide) i ys r h
theorem slices_Insert_Slot_Slot_v4_ok (i : Int) (xs ys r : List (List TSlot)) (h : slices_Insert_Slot_Slot_v4 i xs ys = some r) : ACall Try.prog 46 [.row 0, .d (D.i .i64 i), .row 1] [(0, .rw 31 1 (xs.map (D.l TSlot.D))), (1, .row 31 1 (ys.map (D.l TSlot.D)))] (.row 2) [(2, .rw 31 1 (r.map (D.l TSlot.D)))] :=
  insE_ok (ρ := ⟨fun n => if n = 22 then 46 else if n = 29 then 63 else 64, fun n => if n = 0 then 0 else if n = 3 then 3 else if n = 4 then 4 else if n = 24 then 54 else 31, id⟩) (by_ := 24) (D.l TSlot.D) mixed rfl ⟨ "slices.Insert[[][]proctor/api.Slot,[]proctor/api.Slot]", by decide, (Try.func46).trans (by kernel_rfl)⟩ Try.underlying3 Try.underlying4 Try.underlying54 (by kernel_rfl) (by decide) (by decide)
    (fun args w => run_callFunc_extern Try.func63 (by kernel_rfl) (by kernel_rfl) (by kernel_rfl) (e := Go.Extern.SlicesOverlaps.overlaps #[54, 54] #[4]) (by kernel_rfl) args w) i xs ys r h
def match_Binds_b5_I (s6 : Int) (s8 : List THit) (s9 : Int) (s10 : Int) (s22 : Bool) (w3 : List (List TSlot)) (w5 : THit) : St := ⟨sp 31 0 [(3, .row 3), (5, .box 5 0), (6, .d ((D.i .i64) s6)), (8, .d ((D.l THit.D) s8)), (9, .d ((D.i .i64) s9)), (10, .d ((D.i .i64) s10)), (22, .d (D.b s22))], [(3, .rw 31 1 (w3.map (D.l TSlot.D))), (5, .cells ((cellsA (THit.D w5))))], []⟩
def match_Binds_b5_O (s6 : Int) (s8 : List THit) (s9 : Int) (s10 : Int) (s22 : Bool) (w3 : List (List TSlot)) (w5 : THit) (o : (List (List TSlot))) : Ex × St := (.normal, ⟨sp 31 0 [(3, .row 3), (8, .d ((D.l THit.D) s8)), (9, .d ((D.i .i64) s9)), (10, .d ((D.i .i64) s10))], [(3, .rw 31 1 (o.map (D.l TSlot.D)))], []⟩)
theorem match_Binds_b5_ok (rd : Option Nat) (s6 : Int) (s8 : List THit) (s9 : Int) (s10 : Int) (s22 : Bool) (w3 : List (List TSlot)) (w5 : THit) (o : (List (List TSlot))) (h : match_Binds_b5 s6 s8 s9 s10 s22 w3 w5 = some o) : LpOf Try.prog rd (fbody Try.prog 22) [1, 1, 1, 0, 0, 1, 1, 0, 0, 1, 0, 1, 1] (match_Binds_b5_I s6 s8 s9 s10 s22 w3 w5) (match_Binds_b5_O s6 s8 s9 s10 s22 w3 w5 o).1 (match_Binds_b5_O s6 s8 s9 s10 s22 w3 w5 o).2 := by
  unfold match_Binds_b5 at h
  cases s22 with
  | true =>
   replace h := iteT h
   obtain ⟨r8, h12, h⟩ := bndE_some h
   obtain rfl := Option.some.inj h
   exact (runB_arr mixed [(28, .cx true [(0, 3), (1, 27)] [(2, 28)] (.row 2) [(2, .rw 31 1 (r8.map (D.l TSlot.D)))])] [] [.live [3, 8, 9, 10], .keep [28], .ren 28 3, .sort] (ai (nc_ok (D.l TSlot.D) [w5.bind]) (ai (slices_Insert_Slot_Slot_v4_ok s6 w3 [w5.bind] r8 h12) (ti))) (by kernel_rfl)).lp
  | false =>
   replace h := iteF h
   obtain rfl := Option.some.inj h
   exact (runB_arr mixed [] [] [.live [3, 8, 9, 10], .keep [3]] (ti) (by kernel_rfl)).lp
def match_Binds_b4_I (s8 : List THit) (s9 : Int) (s10 : Int) (w3 : List (List TSlot)) : St := ⟨sp 31 0 [(3, .row 3), (8, .d ((D.l THit.D) s8)), (9, .d ((D.i .i64) s9)), (10, .d ((D.i .i64) s10))], [(3, .rw 31 1 (w3.map (D.l TSlot.D)))], []⟩
def match_Binds_b4_O (s8 : List THit) (s9 : Int) (s10 : Int) (w3 : List (List TSlot)) (o : (List (List TSlot))) : Ex × St := (.normal, ⟨sp 31 0 [(3, .row 3), (8, .d ((D.l THit.D) s8)), (9, .d ((D.i .i64) s9)), (10, .d ((D.i .i64) s10))], [(3, .rw 31 1 (o.map (D.l TSlot.D)))], []⟩)
theorem match_Binds_b4_ok (rd : Option Nat) (s8 : List THit) (s9 : Int) (s10 : Int) (w3 : List (List TSlot)) (o : (List (List TSlot))) (h : match_Binds_b4 s8 s9 s10 w3 = some o) : LpOf Try.prog rd (fbody Try.prog 22) [0, 1, 1, 0, 0, 1, 0, 1, 1] (match_Binds_b4_I s8 s9 s10 w3) (match_Binds_b4_O s8 s9 s10 w3 o).1 (match_Binds_b4_O s8 s9 s10 w3 o).2 := by
  unfold match_Binds_b4 at h
  obtain ⟨x6, h9, h⟩ := idxE_some h
  obtain ⟨r7, h10, h⟩ := bndE_some h
  obtain ⟨o9, h13, h⟩ := bndE_some h
  obtain rfl := Option.some.inj h
  exact (runB_arr mixed [(12, .el (THit.D x6)), (18, .lend [3] (.tup [.d ((D.i .i64) r7.1), .d (D.b r7.2)]))] [⟨[1, 1, 1, 0, 0, 1, 1, 0, 0, 1, 0, 1, 1], [.live [3, 5, 6, 8, 9, 10, 22], .keep [3, 5]], .normal, (match_Binds_b5_O r7.1 s8 s9 s10 (!r7.2) w3 x6 o9).2⟩] [.live [3, 8, 9, 10], .keep [3]] (ai (elem_map THit.D h9) (ai (slices_BinarySearchFunc_Slot_Slot_Slot_ok w3 x6.bind r7 h10) (ai (match_Binds_b5_ok rd r7.1 s8 s9 s10 (!r7.2) w3 x6 o9 h13) (ti)))) (by kernel_rfl)).lp
def match_Binds_l1_I (s8 : List THit) (s9 : Int) (s10 : Int) (w3 : List (List TSlot)) : St := ⟨sp 31 0 [(3, .row 3), (8, .d ((D.l THit.D) s8)), (9, .d ((D.i .i64) s9)), (10, .d ((D.i .i64) s10))], [(3, .rw 31 1 (w3.map (D.l TSlot.D)))], []⟩
def match_Binds_l1_O (s8 : List THit) (s9 : Int) (o : (List (List TSlot))) : Ex × St := (.exit 0, ⟨sp 31 0 [(3, .row 3)], [(3, .rw 31 1 (o.map (D.l TSlot.D)))], []⟩)
theorem match_Binds_l1_rnd (rd : Option Nat) (s8 : List THit) (s9 : Int) (s10 : Int) (w3 : List (List TSlot)) (o : (Int × List (List TSlot)) ⊕ ((List (List TSlot)))) (h : match_Binds_l1_s s8 s9 s10 w3 = some o) : Arr Try.prog rd (fbody Try.prog 22) (0 :: [0, 1, 0, 1, 1]) (match_Binds_l1_I s8 s9 s10 w3) (rR (fun s : Int × List (List TSlot) => match_Binds_l1_I s8 s9 s.1 s.2) (match_Binds_l1_O s8 s9) o).1 (rR (fun s : Int × List (List TSlot) => match_Binds_l1_I s8 s9 s.1 s.2) (match_Binds_l1_O s8 s9) o).2 := by
  unfold match_Binds_l1_s at h
  rcases iteE_some h with ⟨h8, h⟩ | ⟨h8, h⟩
  ·
   obtain ⟨o10, h14, h⟩ := bndE_some h
   obtain rfl := Option.some.inj h
   exact runB_arr mixed [(11, .bit true)] [⟨[0, 1, 1, 0, 0, 1, 0, 1, 1], [.live [3, 8, 9, 10], .keep [3]], .normal, (match_Binds_b4_O s8 s9 s10 w3 o10).2⟩] [.live [3, 8, 9, 10], .keep [3]] (ai h8 (ai (match_Binds_b4_ok rd s8 s9 s10 w3 o10 h14) (ti))) (by kernel_rfl)
  ·
   obtain rfl := Option.some.inj h
   exact runB_arr mixed [(11, .bit false)] [] [.live [3], .keep [3]] (ai h8 (ti)) (by kernel_rfl)
theorem match_Binds_l1_ok (rd : Option Nat) (s8 : List THit) (s9 : Int) (s10 : Int) (w3 : List (List TSlot)) (t : (List (List TSlot))) (h : match_Binds_l1 s8 s9 s10 w3 = some t) : LpOf Try.prog rd (fbody Try.prog 22) [0, 1, 0, 1, 1] (match_Binds_l1_I s8 s9 s10 w3) ((match_Binds_l1_O s8 s9) t).1 ((match_Binds_l1_O s8 s9) t).2 :=
  loopE_lpR (fun s : Int × List (List TSlot) => match_Binds_l1_I s8 s9 s.1 s.2) (match_Binds_l1_O s8 s9) (by kernel_rfl) (fun t => isN_ne (by rfl)) (fun s o h => match_Binds_l1_rnd rd s8 s9 s.1 s.2 o h) (s := (s10, w3)) (t := t) h
theorem match_Binds_ok (a0 : List THit) (r : List (List TSlot)) (h : match_Binds a0 = some r) : ACall Try.prog 22 [.d ((D.l THit.D) a0)] [] (.d ((D.l (D.l TSlot.D)) r)) [] := by
  unfold match_Binds at h
  obtain ⟨o11, h15, h⟩ := bndE_some h
  obtain rfl := Option.some.inj h
  exact runF_call mixed [(9, .int (a0.length : Int))] [⟨[0, 1, 0, 1, 1], [.live [3, 8, 9, 10], .keep [], .nilw 3 3 31 1, .sort], .exit 0, (match_Binds_l1_O a0 (a0.length : Int) o11).2⟩] [.frz 3] (ai (len_map THit.D a0) (ai (match_Binds_l1_ok none a0 (a0.length : Int) 0 ([] : List (List TSlot)) o11 h15) (ti))) (by kernel_rfl)
def ref05_Has_l1_I (s0 : List (List TSlot)) (s1 : List TSlot) (s5 : Int) : St := ⟨sp 18 0 [(0, .d ((D.l (D.l TSlot.D)) s0)), (1, .d ((D.l TSlot.D) s1)), (5, .d ((D.i .i64) s5))], [], []⟩
def ref05_Has_l1_O (s0 : List (List TSlot)) (s1 : List TSlot) (o : Unit ⊕ Unit) : Ex × St := match o with
  | .inl o => (.exit 0, ⟨sp 18 0 [], [], []⟩)
  | .inr o => (.ret, ⟨sp 18 0 [(4, .d (D.b true))], [], []⟩)
theorem ref05_Has_l1_rnd (rd : Option Nat) (s0 : List (List TSlot)) (s1 : List TSlot) (s5 : Int) (o : (Int) ⊕ (Unit ⊕ Unit)) (h : ref05_Has_l1_s s0 s1 s5 = some o) : Arr Try.prog rd (fbody Try.prog 65) (0 :: [0, 1, 0, 1]) (ref05_Has_l1_I s0 s1 s5) (rR (fun s : Int => ref05_Has_l1_I s0 s1 s) (ref05_Has_l1_O s0 s1) o).1 (rR (fun s : Int => ref05_Has_l1_I s0 s1 s) (ref05_Has_l1_O s0 s1) o).2 := by
  unfold ref05_Has_l1_s at h
  rcases iteE_some h with ⟨h1, h⟩ | ⟨h1, h⟩
  ·
   obtain ⟨x1, h2, h⟩ := idxE_some h
   obtain ⟨r2, h3, h⟩ := bndE_some h
   cases r2 with
   | true =>
    replace h := iteT h
    obtain rfl := Option.some.inj h
    exact runB_arr mixed [(8, .int (s0.length : Int)), (9, .bit true), (14, .el ((D.l TSlot.D) x1)), (17, .ret (.d (D.b true)))] [] [.live [4], .keep []] (ai (len_map (D.l TSlot.D) s0) (ai h1 (ai (elem_map (D.l TSlot.D) h2) (ai (ref05_Same_ok x1 s1 true h3) (ti))))) (by kernel_rfl)
   | false =>
    replace h := iteF h
    obtain rfl := Option.some.inj h
    exact runB_arr mixed [(8, .int (s0.length : Int)), (9, .bit true), (14, .el ((D.l TSlot.D) x1)), (17, .ret (.d (D.b false)))] [] [.live [0, 1, 5], .keep []] (ai (len_map (D.l TSlot.D) s0) (ai h1 (ai (elem_map (D.l TSlot.D) h2) (ai (ref05_Same_ok x1 s1 false h3) (ti))))) (by kernel_rfl)
  ·
   obtain rfl := Option.some.inj h
   exact runB_arr mixed [(8, .int (s0.length : Int)), (9, .bit false)] [] [.live [], .keep []] (ai (len_map (D.l TSlot.D) s0) (ai h1 (ti))) (by kernel_rfl)
theorem ref05_Has_l1_ok (rd : Option Nat) (s0 : List (List TSlot)) (s1 : List TSlot) (s5 : Int) (t : Unit ⊕ Unit) (h : ref05_Has_l1 s0 s1 s5 = some t) : LpOf Try.prog rd (fbody Try.prog 65) [0, 1, 0, 1] (ref05_Has_l1_I s0 s1 s5) ((ref05_Has_l1_O s0 s1) t).1 ((ref05_Has_l1_O s0 s1) t).2 :=
  loopE_lpR (fun s : Int => ref05_Has_l1_I s0 s1 s) (ref05_Has_l1_O s0 s1) (by kernel_rfl) (fun t => isN_ne (by rcases t with (_ | _) <;> rfl)) (fun s o h => ref05_Has_l1_rnd rd s0 s1 s o h) (s := s5) (t := t) h
theorem ref05_Has_ok (a0 : List (List TSlot)) (a1 : List TSlot) (r : Bool) (h : ref05_Has a0 a1 = some r) : ACall Try.prog 65 [.d ((D.l (D.l TSlot.D)) a0), .d ((D.l TSlot.D) a1)] [] (.d (D.b r)) [] := by
  unfold ref05_Has at h
  obtain ⟨o3, h5, h⟩ := bndE_some h
  replace h := sumE_some h
  rcases h with ⟨o4, rfl, h⟩ | ⟨o5, rfl, h⟩
  ·
   obtain rfl := Option.some.inj h
   exact runF_call mixed [] [⟨[0, 1, 0, 1], [.live [0, 1, 5], .keep []], .exit 0, (ref05_Has_l1_O a0 a1 (Sum.inl o4)).2⟩] [] (ai (ref05_Has_l1_ok none a0 a1 0 (Sum.inl o4) h5) (ti)) (by kernel_rfl)
  ·
   obtain rfl := Option.some.inj h
   exact runF_call mixed [] [⟨[0, 1, 0, 1], [.live [0, 1, 5], .keep []], .ret, (ref05_Has_l1_O a0 a1 (Sum.inr o5)).2⟩] [] (ai (ref05_Has_l1_ok none a0 a1 0 (Sum.inr o5) h5) (ti)) (by kernel_rfl)
def ref05_Less_l1_I (s0 : List TSlot) (s1 : List TSlot) (s5 : Int) : St := ⟨sp 66 0 [(0, .d ((D.l TSlot.D) s0)), (1, .d ((D.l TSlot.D) s1)), (5, .d ((D.i .i64) s5))], [], []⟩
def ref05_Less_l1_O (s0 : List TSlot) (s1 : List TSlot) (o : Unit ⊕ Bool) : Ex × St := match o with
  | .inl o => (.exit 0, ⟨sp 66 0 [], [], []⟩)
  | .inr o => (.ret, ⟨sp 66 0 [(4, .d (D.b o))], [], []⟩)
theorem ref05_Less_l1_rnd (rd : Option Nat) (s0 : List TSlot) (s1 : List TSlot) (s5 : Int) (o : (Int) ⊕ (Unit ⊕ Bool)) (h : ref05_Less_l1_s s0 s1 s5 = some o) : Arr Try.prog rd (fbody Try.prog 66) (0 :: [0, 1, 0, 1, 1]) (ref05_Less_l1_I s0 s1 s5) (rR (fun s : Int => ref05_Less_l1_I s0 s1 s) (ref05_Less_l1_O s0 s1) o).1 (rR (fun s : Int => ref05_Less_l1_I s0 s1 s) (ref05_Less_l1_O s0 s1) o).2 := by
  unfold ref05_Less_l1_s at h
  rcases iteE_some h with ⟨h2, h⟩ | ⟨h2, h⟩
  ·
   obtain ⟨x1, h3, h⟩ := idxE_some h
   obtain ⟨x2, h4, h⟩ := idxE_some h
   rcases iteE_some h with ⟨h5, h⟩ | ⟨h5, h⟩
   ·
    obtain ⟨x3, h6, h⟩ := idxE_some h
    obtain ⟨x4, h7, h⟩ := idxE_some h
    obtain rfl := Option.some.inj h
    exact runB_arr mixed [(18, .int (s0.length : Int)), (19, .bit true), (24, .el (TSlot.D x1)), (29, .el (TSlot.D x2)), (32, .bit true), (35, .el (TSlot.D x3)), (40, .el (TSlot.D x4))] [] [.live [4], .keep []] (ai (len_map TSlot.D s0) (ai h2 (ai (elem_map TSlot.D h3) (ai (elem_map TSlot.D h4) (ai h5 (ai (elem_map TSlot.D h6) (ai (elem_map TSlot.D h7) (ti)))))))) (by kernel_rfl)
   ·
    obtain ⟨x5, h8, h⟩ := idxE_some h
    obtain ⟨x6, h9, h⟩ := idxE_some h
    rcases iteE_some h with ⟨h10, h⟩ | ⟨h10, h⟩
    ·
     obtain ⟨x7, h11, h⟩ := idxE_some h
     obtain ⟨x8, h12, h⟩ := idxE_some h
     obtain ⟨r9, h13, h⟩ := bndE_some h
     obtain rfl := Option.some.inj h
     exact runB_arr mixed [(18, .int (s0.length : Int)), (19, .bit true), (24, .el (TSlot.D x1)), (29, .el (TSlot.D x2)), (32, .bit false), (46, .el (TSlot.D x5)), (51, .el (TSlot.D x6)), (54, .bit true), (57, .el (TSlot.D x7)), (62, .el (TSlot.D x8)), (65, .ret (.d (D.b r9)))] [] [.live [4], .keep []] (ai (len_map TSlot.D s0) (ai h2 (ai (elem_map TSlot.D h3) (ai (elem_map TSlot.D h4) (ai h5 (ai (elem_map TSlot.D h8) (ai (elem_map TSlot.D h9) (ai h10 (ai (elem_map TSlot.D h11) (ai (elem_map TSlot.D h12) (ai (ref03_Less_ok x7.value x8.value r9 h13) (ti)))))))))))) (by kernel_rfl)
    ·
     obtain rfl := Option.some.inj h
     exact runB_arr mixed [(18, .int (s0.length : Int)), (19, .bit true), (24, .el (TSlot.D x1)), (29, .el (TSlot.D x2)), (32, .bit false), (46, .el (TSlot.D x5)), (51, .el (TSlot.D x6)), (54, .bit false)] [] [.live [0, 1, 5], .keep []] (ai (len_map TSlot.D s0) (ai h2 (ai (elem_map TSlot.D h3) (ai (elem_map TSlot.D h4) (ai h5 (ai (elem_map TSlot.D h8) (ai (elem_map TSlot.D h9) (ai h10 (ti))))))))) (by kernel_rfl)
  ·
   obtain rfl := Option.some.inj h
   exact runB_arr mixed [(18, .int (s0.length : Int)), (19, .bit false)] [] [.live [], .keep []] (ai (len_map TSlot.D s0) (ai h2 (ti))) (by kernel_rfl)
theorem ref05_Less_l1_ok (rd : Option Nat) (s0 : List TSlot) (s1 : List TSlot) (s5 : Int) (t : Unit ⊕ Bool) (h : ref05_Less_l1 s0 s1 s5 = some t) : LpOf Try.prog rd (fbody Try.prog 66) [0, 1, 0, 1, 1] (ref05_Less_l1_I s0 s1 s5) ((ref05_Less_l1_O s0 s1) t).1 ((ref05_Less_l1_O s0 s1) t).2 :=
  loopE_lpR (fun s : Int => ref05_Less_l1_I s0 s1 s) (ref05_Less_l1_O s0 s1) (by kernel_rfl) (fun t => isN_ne (by rcases t with (_ | _) <;> rfl)) (fun s o h => ref05_Less_l1_rnd rd s0 s1 s o h) (s := s5) (t := t) h
theorem ref05_Less_ok (a0 : List TSlot) (a1 : List TSlot) (r : Bool) (h : ref05_Less a0 a1 = some r) : ACall Try.prog 66 [.d ((D.l TSlot.D) a0), .d ((D.l TSlot.D) a1)] [] (.d (D.b r)) [] := by
  unfold ref05_Less at h
  rcases iteE_some h with ⟨h1, h⟩ | ⟨h1, h⟩
  ·
   obtain rfl := Option.some.inj h
   exact runF_call mixed [(7, .int (a0.length : Int)), (9, .int (a1.length : Int)), (10, .bit true), (12, .int (a0.length : Int)), (14, .int (a1.length : Int))] [] [] (ai (len_map TSlot.D a0) (ai (len_map TSlot.D a1) (ai h1 (ai (len_map TSlot.D a0) (ai (len_map TSlot.D a1) (ti)))))) (by kernel_rfl)
  ·
   obtain ⟨o10, h14, h⟩ := bndE_some h
   replace h := sumE_some h
   rcases h with ⟨o11, rfl, h⟩ | ⟨o12, rfl, h⟩
   ·
    obtain rfl := Option.some.inj h
    exact runF_call mixed [(7, .int (a0.length : Int)), (9, .int (a1.length : Int)), (10, .bit false)] [⟨[0, 1, 0, 1, 1], [.live [0, 1, 5], .keep []], .exit 0, (ref05_Less_l1_O a0 a1 (Sum.inl o11)).2⟩] [] (ai (len_map TSlot.D a0) (ai (len_map TSlot.D a1) (ai h1 (ai (ref05_Less_l1_ok none a0 a1 0 (Sum.inl o11) h14) (ti))))) (by kernel_rfl)
   ·
    obtain rfl := Option.some.inj h
    exact runF_call mixed [(7, .int (a0.length : Int)), (9, .int (a1.length : Int)), (10, .bit false)] [⟨[0, 1, 0, 1, 1], [.live [0, 1, 5], .keep []], .ret, (ref05_Less_l1_O a0 a1 (Sum.inr o12)).2⟩] [] (ai (len_map TSlot.D a0) (ai (len_map TSlot.D a1) (ai h1 (ai (ref05_Less_l1_ok none a0 a1 0 (Sum.inr o12) h14) (ti))))) (by kernel_rfl)
def ref05_Put_l1_I (s0 : List (List TSlot)) (s1 : List TSlot) (s5 : Int) : St := ⟨sp 40 0 [(0, .d ((D.l (D.l TSlot.D)) s0)), (1, .d ((D.l TSlot.D) s1)), (5, .d ((D.i .i64) s5))], [], []⟩
def ref05_Put_l1_O (s0 : List (List TSlot)) (s1 : List TSlot) (o : Int) : Ex × St := (.exit 0, ⟨sp 40 0 [(0, .d ((D.l (D.l TSlot.D)) s0)), (1, .d ((D.l TSlot.D) s1)), (5, .d ((D.i .i64) o))], [], []⟩)
theorem ref05_Put_l1_rnd (rd : Option Nat) (s0 : List (List TSlot)) (s1 : List TSlot) (s5 : Int) (o : (Int) ⊕ (Int)) (h : ref05_Put_l1_s s0 s1 s5 = some o) : Arr Try.prog rd (fbody Try.prog 47) (0 :: [0, 0, 1, 1, 1]) (ref05_Put_l1_I s0 s1 s5) (rR (fun s : Int => ref05_Put_l1_I s0 s1 s) (ref05_Put_l1_O s0 s1) o).1 (rR (fun s : Int => ref05_Put_l1_I s0 s1 s) (ref05_Put_l1_O s0 s1) o).2 := by
  unfold ref05_Put_l1_s at h
  rcases iteE_some h with ⟨h3, h⟩ | ⟨h3, h⟩
  ·
   obtain ⟨x2, h4, h⟩ := idxE_some h
   obtain ⟨r3, h5, h⟩ := bndE_some h
   cases r3 with
   | true =>
    replace h := iteT h
    obtain rfl := Option.some.inj h
    exact runB_arr mixed [(15, .bit true), (20, .el ((D.l TSlot.D) x2)), (22, .ret (.d (D.b true)))] [] [.live [0, 1, 5], .keep []] (ai h3 (ai (elem_map (D.l TSlot.D) h4) (ai (ref05_Less_ok s1 x2 true h5) (ti)))) (by kernel_rfl)
   | false =>
    replace h := iteF h
    obtain rfl := Option.some.inj h
    exact runB_arr mixed [(15, .bit true), (20, .el ((D.l TSlot.D) x2)), (22, .ret (.d (D.b false)))] [] [.live [0, 1, 5], .keep []] (ai h3 (ai (elem_map (D.l TSlot.D) h4) (ai (ref05_Less_ok s1 x2 false h5) (ti)))) (by kernel_rfl)
  ·
   obtain rfl := Option.some.inj h
   exact runB_arr mixed [(15, .bit false)] [] [.live [0, 1, 5], .keep []] (ai h3 (ti)) (by kernel_rfl)
theorem ref05_Put_l1_ok (rd : Option Nat) (s0 : List (List TSlot)) (s1 : List TSlot) (s5 : Int) (t : Int) (h : ref05_Put_l1 s0 s1 s5 = some t) : LpOf Try.prog rd (fbody Try.prog 47) [0, 0, 1, 1, 1] (ref05_Put_l1_I s0 s1 s5) ((ref05_Put_l1_O s0 s1) t).1 ((ref05_Put_l1_O s0 s1) t).2 :=
  loopE_lpR (fun s : Int => ref05_Put_l1_I s0 s1 s) (ref05_Put_l1_O s0 s1) (by kernel_rfl) (fun t => isN_ne (by rfl)) (fun s o h => ref05_Put_l1_rnd rd s0 s1 s o h) (s := s5) (t := t) h
theorem ref05_Put_ok (a0 : List (List TSlot)) (a1 : List TSlot) (r : List (List TSlot)) (h : ref05_Put a0 a1 = some r) : ACall Try.prog 47 [.d ((D.l (D.l TSlot.D)) a0), .d ((D.l TSlot.D) a1)] [] (.d ((D.l (D.l TSlot.D)) r)) [] := by
  unfold ref05_Put at h
  obtain ⟨r1, h1, h⟩ := bndE_some h
  cases r1 with
  | true =>
   replace h := iteT h
   obtain rfl := Option.some.inj h
   exact runF_call mixed [(9, .ret (.d (D.b true)))] [] [] (ai (ref05_Has_ok a0 a1 true h1) (ti)) (by kernel_rfl)
  | false =>
   replace h := iteF h
   obtain ⟨o4, h7, h⟩ := bndE_some h
   obtain ⟨h8, h⟩ := chkE_some h
   obtain ⟨h9, h⟩ := chkE_some h
   obtain ⟨h10, h⟩ := chkE_some h
   obtain ⟨h11, h⟩ := chkE_some h
   obtain ⟨h12, h⟩ := chkE_some h
   obtain rfl := Option.some.inj h
   exact runF_call mixed [(9, .ret (.d (D.b false))), (12, .int (a0.length : Int)), (29, .sl ((sub a0 0 o4).map (D.l TSlot.D))), (30, .sl ((([] : List (List TSlot)) ++ (sub a0 0 o4)).map (D.l TSlot.D))), (34, .sl (((([] : List (List TSlot)) ++ (sub a0 0 o4)) ++ [a1]).map (D.l TSlot.D))), (38, .sl ((sub a0 o4 (a0.length : Int)).map (D.l TSlot.D))), (39, .sl ((((([] : List (List TSlot)) ++ (sub a0 0 o4)) ++ [a1]) ++ (sub a0 o4 (a0.length : Int))).map (D.l TSlot.D)))] [⟨[0, 0, 1, 1, 1], [.live [0, 1, 5], .keep []], .exit 0, (ref05_Put_l1_O a0 a1 o4).2⟩] [] (ai (ref05_Has_ok a0 a1 false h1) (ai (len_map (D.l TSlot.D) a0) (ai (ref05_Put_l1_ok none a0 a1 (a0.length : Int) o4 h7) (ai (nc_ok (D.l TSlot.D) ([] : List (List TSlot))) (ai (cut_some (D.l TSlot.D) h8) (ai (nc_ok (D.l TSlot.D) (sub a0 0 o4)) (ai (fit_map (D.l TSlot.D) h9) (ai (app_map (D.l TSlot.D) ([] : List (List TSlot)) (sub a0 0 o4)) (ai (nc_ok (D.l TSlot.D) [a1]) (ai (nc_ok (D.l TSlot.D) [a1]) (ai (fit_map (D.l TSlot.D) h10) (ai (app_map (D.l TSlot.D) (([] : List (List TSlot)) ++ (sub a0 0 o4)) [a1]) (ai (cut_none (D.l TSlot.D) h11) (ai (nc_ok (D.l TSlot.D) (sub a0 o4 (a0.length : Int))) (ai (fit_map (D.l TSlot.D) h12) (ai (app_map (D.l TSlot.D) ((([] : List (List TSlot)) ++ (sub a0 0 o4)) ++ [a1]) (sub a0 o4 (a0.length : Int))) (ti))))))))))))))))) (by kernel_rfl)
def ref17_Binds_l1_I (s0 : List THit) (s3 : List (List TSlot)) (s4 : Int) : St := ⟨sp 19 0 [(0, .d ((D.l THit.D) s0)), (3, .d ((D.l (D.l TSlot.D)) s3)), (4, .d ((D.i .i64) s4))], [], []⟩
def ref17_Binds_l1_O (s0 : List THit) (o : (List (List TSlot))) : Ex × St := (.exit 0, ⟨sp 19 0 [(3, .d ((D.l (D.l TSlot.D)) o))], [], []⟩)
theorem ref17_Binds_l1_rnd (rd : Option Nat) (s0 : List THit) (s3 : List (List TSlot)) (s4 : Int) (o : (List (List TSlot) × Int) ⊕ ((List (List TSlot)))) (h : ref17_Binds_l1_s s0 s3 s4 = some o) : Arr Try.prog rd (fbody Try.prog 23) (0 :: [0, 1, 0, 1, 1]) (ref17_Binds_l1_I s0 s3 s4) (rR (fun s : List (List TSlot) × Int => ref17_Binds_l1_I s0 s.1 s.2) (ref17_Binds_l1_O s0) o).1 (rR (fun s : List (List TSlot) × Int => ref17_Binds_l1_I s0 s.1 s.2) (ref17_Binds_l1_O s0) o).2 := by
  unfold ref17_Binds_l1_s at h
  rcases iteE_some h with ⟨h4, h⟩ | ⟨h4, h⟩
  ·
   obtain ⟨x3, h5, h⟩ := idxE_some h
   obtain ⟨r4, h6, h⟩ := bndE_some h
   obtain rfl := Option.some.inj h
   exact runB_arr mixed [(7, .int (s0.length : Int)), (8, .bit true), (14, .el (THit.D x3)), (17, .ret (.d ((D.l (D.l TSlot.D)) r4)))] [] [.live [0, 3, 4], .keep []] (ai (len_map THit.D s0) (ai h4 (ai (elem_map THit.D h5) (ai (ref05_Put_ok s3 x3.bind r4 h6) (ti))))) (by kernel_rfl)
  ·
   obtain rfl := Option.some.inj h
   exact runB_arr mixed [(7, .int (s0.length : Int)), (8, .bit false)] [] [.live [3], .keep []] (ai (len_map THit.D s0) (ai h4 (ti))) (by kernel_rfl)
theorem ref17_Binds_l1_ok (rd : Option Nat) (s0 : List THit) (s3 : List (List TSlot)) (s4 : Int) (t : (List (List TSlot))) (h : ref17_Binds_l1 s0 s3 s4 = some t) : LpOf Try.prog rd (fbody Try.prog 23) [0, 1, 0, 1, 1] (ref17_Binds_l1_I s0 s3 s4) ((ref17_Binds_l1_O s0) t).1 ((ref17_Binds_l1_O s0) t).2 :=
  loopE_lpR (fun s : List (List TSlot) × Int => ref17_Binds_l1_I s0 s.1 s.2) (ref17_Binds_l1_O s0) (by kernel_rfl) (fun t => isN_ne (by rfl)) (fun s o h => ref17_Binds_l1_rnd rd s0 s.1 s.2 o h) (s := (s3, s4)) (t := t) h
theorem ref17_Binds_ok (a0 : List THit) (r : List (List TSlot)) (h : ref17_Binds a0 = some r) : ACall Try.prog 23 [.d ((D.l THit.D) a0)] [] (.d ((D.l (D.l TSlot.D)) r)) [] := by
  unfold ref17_Binds at h
  obtain ⟨o5, h7, h⟩ := bndE_some h
  obtain rfl := Option.some.inj h
  exact runF_call mixed [] [⟨[0, 1, 0, 1, 1], [.look 3, .live [0, 3, 4], .keep []], .exit 0, (ref17_Binds_l1_O a0 o5).2⟩] [] (ai (ref17_Binds_l1_ok none a0 ([] : List (List TSlot)) 0 o5 h7) (ti)) (by kernel_rfl)
theorem match_one_v2_ok (a0 : TQea) (a1 : Int) (a2 : TEvent) (r : THit × Bool) (h : match_one_v2 a0 a1 a2 = some r) : ACall Try.prog 49 [.d (TQea.D a0), .d ((D.i .i64) a1), .d (TEvent.D a2)] [] (.tup [.d (THit.D r.1), .d (D.b r.2)]) [] := by
  unfold match_one_v2 at h
  obtain ⟨x1, h1, h⟩ := idxE_some h
  obtain ⟨x2, h2, h⟩ := idxE_some h
  rcases iteE_some h with ⟨h3, h⟩ | ⟨h3, h⟩
  ·
   obtain rfl := Option.some.inj h
   exact runF_call mixed [(14, .el (TSymbol.D x1)), (20, .el (TDecl.D x2)), (25, .bit true)] [] [] (ai (elem_map TSymbol.D h1) (ai (elem_map TDecl.D h2) (ai h3 (ti)))) (by kernel_rfl)
  ·
   obtain ⟨r3, h4, h⟩ := bndE_some h
   rcases iteE_some h with ⟨h5, h⟩ | ⟨h5, h⟩
   ·
    obtain rfl := Option.some.inj h
    exact runF_call mixed [(14, .el (TSymbol.D x1)), (20, .el (TDecl.D x2)), (25, .bit false), (29, .cx false [(0, 9), (1, 10)] [(2, 29), (3, 436)] (.d (D.b r3.1)) [(0, .cells ([.row 2])), (1, .cells ([.row 3])), (2, .rw 64 5 (r3.2.1.map TSlot.D)), (3, .rw 64 5 (r3.2.2.map TSlot.D))]), (30, .bit true)] [] [] (ai (elem_map TSymbol.D h1) (ai (elem_map TDecl.D h2) (ai h3 (ai (match_fit_v2_ok x1 a2 r3 h4) (ai h5 (ti)))))) (by kernel_rfl)
   ·
    obtain rfl := Option.some.inj h
    exact runF_call mixed [(14, .el (TSymbol.D x1)), (20, .el (TDecl.D x2)), (25, .bit false), (29, .cx false [(0, 9), (1, 10)] [(2, 29), (3, 436)] (.d (D.b r3.1)) [(0, .cells ([.row 2])), (1, .cells ([.row 3])), (2, .rw 64 5 (r3.2.1.map TSlot.D)), (3, .rw 64 5 (r3.2.2.map TSlot.D))]), (30, .bit false), (34, .fzn 29), (36, .fzn 436)] [] [] (ai (elem_map TSymbol.D h1) (ai (elem_map TDecl.D h2) (ai h3 (ai (match_fit_v2_ok x1 a2 r3 h4) (ai h5 (ti)))))) (by kernel_rfl)
theorem match_One_v2_ok (a0 : TQea) (a1 : Int) (a2 : TEvent) (r : THit × Bool) (h : match_One_v2 a0 a1 a2 = some r) : ACall Try.prog 25 [.d (TQea.D a0), .d ((D.i .i64) a1), .d (TEvent.D a2)] [] (.tup [.d (THit.D r.1), .d (D.b r.2)]) [] := by
  unfold match_One_v2 at h
  rcases iteE_some h with ⟨h1, h⟩ | ⟨h1, h⟩
  ·
   obtain rfl := Option.some.inj h
   exact runF_call mixed [(10, .bit true)] [] [] (ai h1 (ti)) (by kernel_rfl)
  ·
   rcases iteE_some h with ⟨h2, h⟩ | ⟨h2, h⟩
   ·
    obtain rfl := Option.some.inj h
    exact runF_call mixed [(10, .bit false), (14, .int (a0.symbols.length : Int)), (17, .bit true)] [] [] (ai h1 (ai (len_map TSymbol.D a0.symbols) (ai h2 (ti)))) (by kernel_rfl)
   ·
    obtain ⟨r1, h3, h⟩ := bndE_some h
    rcases iteE_some h with ⟨h4, h⟩ | ⟨h4, h⟩
    ·
     obtain rfl := Option.some.inj h
     exact runF_call mixed [(10, .bit false), (14, .int (a0.symbols.length : Int)), (17, .bit false), (21, .ret (.d (D.b r1))), (23, .bit true)] [] [] (ai h1 (ai (len_map TSymbol.D a0.symbols) (ai h2 (ai (event_Right_ok a0.decls a2 r1 h3) (ai h4 (ti)))))) (by kernel_rfl)
    ·
     obtain ⟨r2, h5, h⟩ := bndE_some h
     obtain rfl := Option.some.inj h
     exact runF_call mixed [(10, .bit false), (14, .int (a0.symbols.length : Int)), (17, .bit false), (21, .ret (.d (D.b r1))), (23, .bit false), (28, .ret (.tup [.d (THit.D r2.1), .d (D.b r2.2)]))] [] [] (ai h1 (ai (len_map TSymbol.D a0.symbols) (ai h2 (ai (event_Right_ok a0.decls a2 r1 h3) (ai h4 (ai (match_one_v2_ok a0 a1 a2 r2 h5) (ti))))))) (by kernel_rfl)
def law17_MatchAll_l1_I (s3 : Int) (s9 : List THit) (s11 : List (List TSlot)) (s12 : List (List TSlot)) (w4 : TQea) (w5 : TEvent) (s13 : Int) : St := ⟨sp 123 0 [(3, .d ((D.i .i64) s3)), (4, .box 4 0), (5, .box 5 0), (9, .d ((D.l THit.D) s9)), (11, .d ((D.l (D.l TSlot.D)) s11)), (12, .d ((D.l (D.l TSlot.D)) s12)), (13, .d ((D.i .i64) s13))], [(4, .cells ((cellsA (TQea.D w4)))), (5, .cells ((cellsA (TEvent.D w5))))], []⟩
def law17_MatchAll_l1_O (s3 : Int) (s9 : List THit) (s11 : List (List TSlot)) (s12 : List (List TSlot)) (w4 : TQea) (w5 : TEvent) (o : Unit ⊕ Unit) : Ex × St := match o with
  | .inl o => (.exit 0, ⟨sp 123 0 [(3, .d ((D.i .i64) s3)), (4, .box 4 0), (5, .box 5 0), (9, .d ((D.l THit.D) s9))], [(4, .cells ((cellsA (TQea.D w4)))), (5, .cells ((cellsA (TEvent.D w5))))], []⟩)
  | .inr o => (.ret, ⟨sp 123 0 [(8, .d (D.b false))], [], []⟩)
theorem law17_MatchAll_l1_rnd (rd : Option Nat) (s3 : Int) (s9 : List THit) (s11 : List (List TSlot)) (s12 : List (List TSlot)) (w4 : TQea) (w5 : TEvent) (s13 : Int) (o : (Int) ⊕ (Unit ⊕ Unit)) (h : law17_MatchAll_l1_s s3 s9 s11 s12 w4 w5 s13 = some o) : Arr Try.prog rd (fbody Try.prog 5) (0 :: [0, 1, 0, 1, 1, 1, 1, 1, 1, 1, 1]) (law17_MatchAll_l1_I s3 s9 s11 s12 w4 w5 s13) (rR (fun s : Int => law17_MatchAll_l1_I s3 s9 s11 s12 w4 w5 s) (law17_MatchAll_l1_O s3 s9 s11 s12 w4 w5) o).1 (rR (fun s : Int => law17_MatchAll_l1_I s3 s9 s11 s12 w4 w5 s) (law17_MatchAll_l1_O s3 s9 s11 s12 w4 w5) o).2 := by
  unfold law17_MatchAll_l1_s at h
  rcases iteE_some h with ⟨h20, h⟩ | ⟨h20, h⟩
  ·
   obtain ⟨x14, h21, h⟩ := idxE_some h
   obtain ⟨x15, h22, h⟩ := idxE_some h
   obtain ⟨r16, h23, h⟩ := bndE_some h
   rcases iteE_some h with ⟨h24, h⟩ | ⟨h24, h⟩
   ·
    obtain rfl := Option.some.inj h
    exact runB_arr mixed [(63, .int (s11.length : Int)), (64, .bit true), (69, .el ((D.l TSlot.D) x14)), (73, .el ((D.l TSlot.D) x15)), (75, .ret (.d (D.b r16))), (76, .bit true)] [] [.live [8], .keep []] (ai (len_map (D.l TSlot.D) s11) (ai h20 (ai (elem_map (D.l TSlot.D) h21) (ai (elem_map (D.l TSlot.D) h22) (ai (ref05_Same_ok x14 x15 r16 h23) (ai h24 (ti))))))) (by kernel_rfl)
   ·
    obtain rfl := Option.some.inj h
    exact runB_arr mixed [(63, .int (s11.length : Int)), (64, .bit true), (69, .el ((D.l TSlot.D) x14)), (73, .el ((D.l TSlot.D) x15)), (75, .ret (.d (D.b r16))), (76, .bit false)] [] [.live [3, 4, 5, 9, 11, 12, 13], .keep [4, 5]] (ai (len_map (D.l TSlot.D) s11) (ai h20 (ai (elem_map (D.l TSlot.D) h21) (ai (elem_map (D.l TSlot.D) h22) (ai (ref05_Same_ok x14 x15 r16 h23) (ai h24 (ti))))))) (by kernel_rfl)
  ·
   obtain rfl := Option.some.inj h
   exact runB_arr mixed [(63, .int (s11.length : Int)), (64, .bit false)] [] [.live [3, 4, 5, 9], .keep [4, 5]] (ai (len_map (D.l TSlot.D) s11) (ai h20 (ti))) (by kernel_rfl)
theorem law17_MatchAll_l1_ok (rd : Option Nat) (s3 : Int) (s9 : List THit) (s11 : List (List TSlot)) (s12 : List (List TSlot)) (w4 : TQea) (w5 : TEvent) (s13 : Int) (t : Unit ⊕ Unit) (h : law17_MatchAll_l1 s3 s9 s11 s12 w4 w5 s13 = some t) : LpOf Try.prog rd (fbody Try.prog 5) [0, 1, 0, 1, 1, 1, 1, 1, 1, 1, 1] (law17_MatchAll_l1_I s3 s9 s11 s12 w4 w5 s13) ((law17_MatchAll_l1_O s3 s9 s11 s12 w4 w5) t).1 ((law17_MatchAll_l1_O s3 s9 s11 s12 w4 w5) t).2 :=
  loopE_lpR (fun s : Int => law17_MatchAll_l1_I s3 s9 s11 s12 w4 w5 s) (law17_MatchAll_l1_O s3 s9 s11 s12 w4 w5) (by kernel_rfl) (fun t => isN_ne (by rcases t with (_ | _) <;> rfl)) (fun s o h => law17_MatchAll_l1_rnd rd s3 s9 s11 s12 w4 w5 s o h) (s := s13) (t := t) h
def law17_MatchAll_l2_I (s3 : Int) (s9 : List THit) (s15 : Bool) (w14 : THit) (s16 : Int) : St := ⟨sp 123 0 [(3, .d ((D.i .i64) s3)), (9, .d ((D.l THit.D) s9)), (14, .box 14 0), (15, .d (D.b s15)), (16, .d ((D.i .i64) s16))], [(14, .cells ((cellsA (THit.D w14))))], []⟩
def law17_MatchAll_l2_O (s3 : Int) (s9 : List THit) (s15 : Bool) (w14 : THit) (o : Unit ⊕ Bool) : Ex × St := match o with
  | .inl o => (.exit 2, ⟨sp 123 0 [(14, .box 14 0), (15, .d (D.b s15))], [(14, .cells ((cellsA (THit.D w14))))], []⟩)
  | .inr o => (.ret, ⟨sp 123 0 [(8, .d (D.b o))], [], []⟩)
theorem law17_MatchAll_l2_rnd (rd : Option Nat) (s3 : Int) (s9 : List THit) (s15 : Bool) (w14 : THit) (s16 : Int) (o : (Int) ⊕ (Unit ⊕ Bool)) (h : law17_MatchAll_l2_s s3 s9 s15 w14 s16 = some o) : Arr Try.prog rd (fbody Try.prog 5) (0 :: [0, 1, 0, 1, 1, 1, 1, 1, 1, 1, 1, 1, 1]) (law17_MatchAll_l2_I s3 s9 s15 w14 s16) (rR (fun s : Int => law17_MatchAll_l2_I s3 s9 s15 w14 s) (law17_MatchAll_l2_O s3 s9 s15 w14) o).1 (rR (fun s : Int => law17_MatchAll_l2_I s3 s9 s15 w14 s) (law17_MatchAll_l2_O s3 s9 s15 w14) o).2 := by
  unfold law17_MatchAll_l2_s at h
  rcases iteE_some h with ⟨h27, h⟩ | ⟨h27, h⟩
  ·
   obtain ⟨x21, h28, h⟩ := idxE_some h
   rcases iteE_some h with ⟨h29, h⟩ | ⟨h29, h⟩
   ·
    rcases iteE_some h with ⟨h30, h⟩ | ⟨h30, h⟩
    ·
     obtain ⟨h31, h⟩ := chkE_some h
     obtain ⟨r22, h32, h⟩ := bndE_some h
     cases r22 with
     | true =>
      replace h := iteT h
      obtain ⟨r23, h34, h⟩ := bndE_some h
      obtain rfl := Option.some.inj h
      exact runB_arr mixed [(86, .int (s9.length : Int)), (87, .bit true), (92, .el (THit.D x21)), (96, .bit true), (98, .bit true), (105, .sl ((sub s9 s16 (intVal .add .i64 s16 1)).map THit.D)), (106, .ret (.d (D.b true))), (109, .ret (.d (D.b r23)))] [] [.live [8], .keep []] (ai (len_map THit.D s9) (ai h27 (ai (elem_map THit.D h28) (ai h29 (ai h30 (ai (nc_ok THit.D [w14]) (ai (cut_some THit.D h31) (ai (ref17_Same_ok [w14] (sub s9 s16 (intVal .add .i64 s16 1)) true h32) (ai (law17_awake_ok r23 h34) (ti)))))))))) (by kernel_rfl)
     | false =>
      replace h := iteF h
      obtain rfl := Option.some.inj h
      exact runB_arr mixed [(86, .int (s9.length : Int)), (87, .bit true), (92, .el (THit.D x21)), (96, .bit true), (98, .bit true), (105, .sl ((sub s9 s16 (intVal .add .i64 s16 1)).map THit.D)), (106, .ret (.d (D.b false)))] [] [.live [8], .keep []] (ai (len_map THit.D s9) (ai h27 (ai (elem_map THit.D h28) (ai h29 (ai h30 (ai (nc_ok THit.D [w14]) (ai (cut_some THit.D h31) (ai (ref17_Same_ok [w14] (sub s9 s16 (intVal .add .i64 s16 1)) false h32) (ti))))))))) (by kernel_rfl)
    ·
     obtain rfl := Option.some.inj h
     exact runB_arr mixed [(86, .int (s9.length : Int)), (87, .bit true), (92, .el (THit.D x21)), (96, .bit true), (98, .bit false)] [] [.live [8], .keep []] (ai (len_map THit.D s9) (ai h27 (ai (elem_map THit.D h28) (ai h29 (ai h30 (ti)))))) (by kernel_rfl)
   ·
    obtain rfl := Option.some.inj h
    exact runB_arr mixed [(86, .int (s9.length : Int)), (87, .bit true), (92, .el (THit.D x21)), (96, .bit false)] [] [.live [3, 9, 14, 15, 16], .keep [14]] (ai (len_map THit.D s9) (ai h27 (ai (elem_map THit.D h28) (ai h29 (ti))))) (by kernel_rfl)
  ·
   obtain rfl := Option.some.inj h
   exact runB_arr mixed [(86, .int (s9.length : Int)), (87, .bit false)] [] [.live [14, 15], .keep [14]] (ai (len_map THit.D s9) (ai h27 (ti))) (by kernel_rfl)
theorem law17_MatchAll_l2_ok (rd : Option Nat) (s3 : Int) (s9 : List THit) (s15 : Bool) (w14 : THit) (s16 : Int) (t : Unit ⊕ Bool) (h : law17_MatchAll_l2 s3 s9 s15 w14 s16 = some t) : LpOf Try.prog rd (fbody Try.prog 5) [0, 1, 0, 1, 1, 1, 1, 1, 1, 1, 1, 1, 1] (law17_MatchAll_l2_I s3 s9 s15 w14 s16) ((law17_MatchAll_l2_O s3 s9 s15 w14) t).1 ((law17_MatchAll_l2_O s3 s9 s15 w14) t).2 :=
  loopE_lpR (fun s : Int => law17_MatchAll_l2_I s3 s9 s15 w14 s) (law17_MatchAll_l2_O s3 s9 s15 w14) (by kernel_rfl) (fun t => isN_ne (by rcases t with (_ | _) <;> rfl)) (fun s o h => law17_MatchAll_l2_rnd rd s3 s9 s15 w14 s o h) (s := s16) (t := t) h
theorem law17_MatchAll_ok (a0 : TQea) (a1 : TEvent) (a2 : List TSlot) (a3 : Int) (r : Bool) (h : law17_MatchAll a0 a1 a2 a3 = some r) : ACall Try.prog 5 [.d (TQea.D a0), .d (TEvent.D a1), .d ((D.l TSlot.D) a2), .d ((D.i .i64) a3)] [] (.d (D.b r)) [] := by
  unfold law17_MatchAll at h
  obtain ⟨r1, h1, h⟩ := bndE_some h
  rcases iteE_some h with ⟨h2, h⟩ | ⟨h2, h⟩
  ·
   obtain ⟨r2, h3, h⟩ := bndE_some h
   obtain rfl := Option.some.inj h
   exact runF_call mixed [(19, .ret (.d (D.b r1))), (21, .bit true), (31, .ret (.d (D.b r2)))] [] [] (ai (law17_small_ok a0 a1 r1 h1) (ai h2 (ai (law17_awake_ok r2 h3) (ti)))) (by kernel_rfl)
  ·
   rcases iteE_some h with ⟨h4, h⟩ | ⟨h4, h⟩
   ·
    obtain ⟨r3, h5, h⟩ := bndE_some h
    obtain rfl := Option.some.inj h
    exact runF_call mixed [(19, .ret (.d (D.b r1))), (21, .bit false), (23, .int (a2.length : Int)), (26, .bit true), (31, .ret (.d (D.b r3)))] [] [] (ai (law17_small_ok a0 a1 r1 h1) (ai h2 (ai (len_map TSlot.D a2) (ai h4 (ai (law17_awake_ok r3 h5) (ti)))))) (by kernel_rfl)
   ·
    obtain ⟨r4, h6, h⟩ := bndE_some h
    rcases iteE_some h with ⟨h7, h⟩ | ⟨h7, h⟩
    ·
     obtain ⟨r5, h8, h⟩ := bndE_some h
     obtain rfl := Option.some.inj h
     exact runF_call mixed [(19, .ret (.d (D.b r1))), (21, .bit false), (23, .int (a2.length : Int)), (26, .bit false), (28, .ret (.d (D.b r4))), (30, .bit true), (31, .ret (.d (D.b r5)))] [] [] (ai (law17_small_ok a0 a1 r1 h1) (ai h2 (ai (len_map TSlot.D a2) (ai h4 (ai (ref05_Right_ok a2 r4 h6) (ai h7 (ai (law17_awake_ok r5 h8) (ti)))))))) (by kernel_rfl)
    ·
     obtain ⟨r6, h9, h⟩ := bndE_some h
     obtain ⟨r7, h10, h⟩ := bndE_some h
     obtain ⟨r8, h11, h⟩ := bndE_some h
     rcases iteE_some h with ⟨h12, h⟩ | ⟨h12, h⟩
     ·
      obtain rfl := Option.some.inj h
      exact runF_call mixed [(19, .ret (.d (D.b r1))), (21, .bit false), (23, .int (a2.length : Int)), (26, .bit false), (28, .ret (.d (D.b r4))), (30, .bit false), (34, .ret (.d ((D.l THit.D) r6))), (37, .ret (.d ((D.l THit.D) r7))), (40, .ret (.d (D.b r8))), (42, .bit true)] [] [] (ai (law17_small_ok a0 a1 r1 h1) (ai h2 (ai (len_map TSlot.D a2) (ai h4 (ai (ref05_Right_ok a2 r4 h6) (ai h7 (ai (law17_hits_ok a0 a1 r6 h9) (ai (match_All_ok a0 a1 r7 h10) (ai (ref17_Same_ok r7 r6 r8 h11) (ai h12 (ti))))))))))) (by kernel_rfl)
     ·
      obtain ⟨r9, h13, h⟩ := bndE_some h
      obtain ⟨r10, h14, h⟩ := bndE_some h
      obtain ⟨r11, h15, h⟩ := bndE_some h
      rcases iteE_some h with ⟨h16, h⟩ | ⟨h16, h⟩
      ·
       obtain rfl := Option.some.inj h
       exact runF_call mixed [(19, .ret (.d (D.b r1))), (21, .bit false), (23, .int (a2.length : Int)), (26, .bit false), (28, .ret (.d (D.b r4))), (30, .bit false), (34, .ret (.d ((D.l THit.D) r6))), (37, .ret (.d ((D.l THit.D) r7))), (40, .ret (.d (D.b r8))), (42, .bit false), (45, .ret (.d ((D.l THit.D) r9))), (48, .ret (.d ((D.l THit.D) r10))), (49, .ret (.d (D.b r11))), (51, .bit true)] [] [] (ai (law17_small_ok a0 a1 r1 h1) (ai h2 (ai (len_map TSlot.D a2) (ai h4 (ai (ref05_Right_ok a2 r4 h6) (ai h7 (ai (law17_hits_ok a0 a1 r6 h9) (ai (match_All_ok a0 a1 r7 h10) (ai (ref17_Same_ok r7 r6 r8 h11) (ai h12 (ai (match_Under_ok r6 a2 r9 h13) (ai (ref17_Under_ok r6 a2 r10 h14) (ai (ref17_Same_ok r9 r10 r11 h15) (ai h16 (ti))))))))))))))) (by kernel_rfl)
      ·
       obtain ⟨r12, h17, h⟩ := bndE_some h
       obtain ⟨r13, h18, h⟩ := bndE_some h
       rcases iteE_some h with ⟨h19, h⟩ | ⟨h19, h⟩
       ·
        obtain rfl := Option.some.inj h
        exact runF_call mixed [(19, .ret (.d (D.b r1))), (21, .bit false), (23, .int (a2.length : Int)), (26, .bit false), (28, .ret (.d (D.b r4))), (30, .bit false), (34, .ret (.d ((D.l THit.D) r6))), (37, .ret (.d ((D.l THit.D) r7))), (40, .ret (.d (D.b r8))), (42, .bit false), (45, .ret (.d ((D.l THit.D) r9))), (48, .ret (.d ((D.l THit.D) r10))), (49, .ret (.d (D.b r11))), (51, .bit false), (53, .ret (.d ((D.l (D.l TSlot.D)) r12))), (55, .ret (.d ((D.l (D.l TSlot.D)) r13))), (57, .int (r12.length : Int)), (59, .int (r13.length : Int)), (60, .bit true)] [] [] (ai (law17_small_ok a0 a1 r1 h1) (ai h2 (ai (len_map TSlot.D a2) (ai h4 (ai (ref05_Right_ok a2 r4 h6) (ai h7 (ai (law17_hits_ok a0 a1 r6 h9) (ai (match_All_ok a0 a1 r7 h10) (ai (ref17_Same_ok r7 r6 r8 h11) (ai h12 (ai (match_Under_ok r6 a2 r9 h13) (ai (ref17_Under_ok r6 a2 r10 h14) (ai (ref17_Same_ok r9 r10 r11 h15) (ai h16 (ai (match_Binds_ok r6 r12 h17) (ai (ref17_Binds_ok r6 r13 h18) (ai (len_map (D.l TSlot.D) r12) (ai (len_map (D.l TSlot.D) r13) (ai h19 (ti)))))))))))))))))))) (by kernel_rfl)
       ·
        obtain ⟨o17, h25, h⟩ := bndE_some h
        replace h := sumE_some h
        rcases h with ⟨o18, rfl, h⟩ | ⟨o19, rfl, h⟩
        ·
         obtain ⟨r20, h26, h⟩ := bndE_some h
         obtain ⟨o24, h35, h⟩ := bndE_some h
         replace h := sumE_some h
         rcases h with ⟨o25, rfl, h⟩ | ⟨o26, rfl, h⟩
         ·
          rcases iteE_some h with ⟨h36, h⟩ | ⟨h36, h⟩
          ·
           obtain ⟨r27, h37, h⟩ := bndE_some h
           cases r27 with
           | true =>
            replace h := iteT h
            obtain ⟨r28, h39, h⟩ := bndE_some h
            obtain rfl := Option.some.inj h
            exact runF_call mixed [(19, .ret (.d (D.b r1))), (21, .bit false), (23, .int (a2.length : Int)), (26, .bit false), (28, .ret (.d (D.b r4))), (30, .bit false), (34, .ret (.d ((D.l THit.D) r6))), (37, .ret (.d ((D.l THit.D) r7))), (40, .ret (.d (D.b r8))), (42, .bit false), (45, .ret (.d ((D.l THit.D) r9))), (48, .ret (.d ((D.l THit.D) r10))), (49, .ret (.d (D.b r11))), (51, .bit false), (53, .ret (.d ((D.l (D.l TSlot.D)) r12))), (55, .ret (.d ((D.l (D.l TSlot.D)) r13))), (57, .int (r12.length : Int)), (59, .int (r13.length : Int)), (60, .bit false), (81, .ret (.tup [.d (THit.D r20.1), .d (D.b r20.2)])), (113, .bit true), (118, .ret (.d (D.b true))), (121, .ret (.d (D.b r28)))] [⟨[0, 1, 0, 1, 1, 1, 1, 1, 1, 1, 1], [.live [3, 4, 5, 9, 11, 12, 13], .keep [4, 5]], .exit 0, (law17_MatchAll_l1_O a3 r6 r12 r13 a0 a1 (Sum.inl o18)).2⟩, ⟨[0, 1, 0, 1, 1, 1, 1, 1, 1, 1, 1, 1, 1], [.live [3, 9, 14, 15, 16], .keep [14]], .exit 2, (law17_MatchAll_l2_O a3 r6 r20.2 r20.1 (Sum.inl o25)).2⟩] [] (ai (law17_small_ok a0 a1 r1 h1) (ai h2 (ai (len_map TSlot.D a2) (ai h4 (ai (ref05_Right_ok a2 r4 h6) (ai h7 (ai (law17_hits_ok a0 a1 r6 h9) (ai (match_All_ok a0 a1 r7 h10) (ai (ref17_Same_ok r7 r6 r8 h11) (ai h12 (ai (match_Under_ok r6 a2 r9 h13) (ai (ref17_Under_ok r6 a2 r10 h14) (ai (ref17_Same_ok r9 r10 r11 h15) (ai h16 (ai (match_Binds_ok r6 r12 h17) (ai (ref17_Binds_ok r6 r13 h18) (ai (len_map (D.l TSlot.D) r12) (ai (len_map (D.l TSlot.D) r13) (ai h19 (ai (law17_MatchAll_l1_ok none a3 r6 r12 r13 a0 a1 0 (Sum.inl o18) h25) (ai (match_One_v2_ok a0 a3 a1 r20 h26) (ai (law17_MatchAll_l2_ok none a3 r6 r20.2 r20.1 0 (Sum.inl o25) h35) (ai h36 (ai (nc_ok THit.D [r20.1]) (ai (nc_ok THit.D ([THit.mk 0 ([] : List TSlot) ([] : List TSlot)])) (ai (ref17_Same_ok [r20.1] ([THit.mk 0 ([] : List TSlot) ([] : List TSlot)]) true h37) (ai (law17_awake_ok r28 h39) (ti)))))))))))))))))))))))))))) (by kernel_rfl)
           | false =>
            replace h := iteF h
            obtain rfl := Option.some.inj h
            exact runF_call mixed [(19, .ret (.d (D.b r1))), (21, .bit false), (23, .int (a2.length : Int)), (26, .bit false), (28, .ret (.d (D.b r4))), (30, .bit false), (34, .ret (.d ((D.l THit.D) r6))), (37, .ret (.d ((D.l THit.D) r7))), (40, .ret (.d (D.b r8))), (42, .bit false), (45, .ret (.d ((D.l THit.D) r9))), (48, .ret (.d ((D.l THit.D) r10))), (49, .ret (.d (D.b r11))), (51, .bit false), (53, .ret (.d ((D.l (D.l TSlot.D)) r12))), (55, .ret (.d ((D.l (D.l TSlot.D)) r13))), (57, .int (r12.length : Int)), (59, .int (r13.length : Int)), (60, .bit false), (81, .ret (.tup [.d (THit.D r20.1), .d (D.b r20.2)])), (113, .bit true), (118, .ret (.d (D.b false)))] [⟨[0, 1, 0, 1, 1, 1, 1, 1, 1, 1, 1], [.live [3, 4, 5, 9, 11, 12, 13], .keep [4, 5]], .exit 0, (law17_MatchAll_l1_O a3 r6 r12 r13 a0 a1 (Sum.inl o18)).2⟩, ⟨[0, 1, 0, 1, 1, 1, 1, 1, 1, 1, 1, 1, 1], [.live [3, 9, 14, 15, 16], .keep [14]], .exit 2, (law17_MatchAll_l2_O a3 r6 r20.2 r20.1 (Sum.inl o25)).2⟩] [] (ai (law17_small_ok a0 a1 r1 h1) (ai h2 (ai (len_map TSlot.D a2) (ai h4 (ai (ref05_Right_ok a2 r4 h6) (ai h7 (ai (law17_hits_ok a0 a1 r6 h9) (ai (match_All_ok a0 a1 r7 h10) (ai (ref17_Same_ok r7 r6 r8 h11) (ai h12 (ai (match_Under_ok r6 a2 r9 h13) (ai (ref17_Under_ok r6 a2 r10 h14) (ai (ref17_Same_ok r9 r10 r11 h15) (ai h16 (ai (match_Binds_ok r6 r12 h17) (ai (ref17_Binds_ok r6 r13 h18) (ai (len_map (D.l TSlot.D) r12) (ai (len_map (D.l TSlot.D) r13) (ai h19 (ai (law17_MatchAll_l1_ok none a3 r6 r12 r13 a0 a1 0 (Sum.inl o18) h25) (ai (match_One_v2_ok a0 a3 a1 r20 h26) (ai (law17_MatchAll_l2_ok none a3 r6 r20.2 r20.1 0 (Sum.inl o25) h35) (ai h36 (ai (nc_ok THit.D [r20.1]) (ai (nc_ok THit.D ([THit.mk 0 ([] : List TSlot) ([] : List TSlot)])) (ai (ref17_Same_ok [r20.1] ([THit.mk 0 ([] : List TSlot) ([] : List TSlot)]) false h37) (ti))))))))))))))))))))))))))) (by kernel_rfl)
          ·
           obtain rfl := Option.some.inj h
           exact runF_call mixed [(19, .ret (.d (D.b r1))), (21, .bit false), (23, .int (a2.length : Int)), (26, .bit false), (28, .ret (.d (D.b r4))), (30, .bit false), (34, .ret (.d ((D.l THit.D) r6))), (37, .ret (.d ((D.l THit.D) r7))), (40, .ret (.d (D.b r8))), (42, .bit false), (45, .ret (.d ((D.l THit.D) r9))), (48, .ret (.d ((D.l THit.D) r10))), (49, .ret (.d (D.b r11))), (51, .bit false), (53, .ret (.d ((D.l (D.l TSlot.D)) r12))), (55, .ret (.d ((D.l (D.l TSlot.D)) r13))), (57, .int (r12.length : Int)), (59, .int (r13.length : Int)), (60, .bit false), (81, .ret (.tup [.d (THit.D r20.1), .d (D.b r20.2)])), (113, .bit false)] [⟨[0, 1, 0, 1, 1, 1, 1, 1, 1, 1, 1], [.live [3, 4, 5, 9, 11, 12, 13], .keep [4, 5]], .exit 0, (law17_MatchAll_l1_O a3 r6 r12 r13 a0 a1 (Sum.inl o18)).2⟩, ⟨[0, 1, 0, 1, 1, 1, 1, 1, 1, 1, 1, 1, 1], [.live [3, 9, 14, 15, 16], .keep [14]], .exit 2, (law17_MatchAll_l2_O a3 r6 r20.2 r20.1 (Sum.inl o25)).2⟩] [] (ai (law17_small_ok a0 a1 r1 h1) (ai h2 (ai (len_map TSlot.D a2) (ai h4 (ai (ref05_Right_ok a2 r4 h6) (ai h7 (ai (law17_hits_ok a0 a1 r6 h9) (ai (match_All_ok a0 a1 r7 h10) (ai (ref17_Same_ok r7 r6 r8 h11) (ai h12 (ai (match_Under_ok r6 a2 r9 h13) (ai (ref17_Under_ok r6 a2 r10 h14) (ai (ref17_Same_ok r9 r10 r11 h15) (ai h16 (ai (match_Binds_ok r6 r12 h17) (ai (ref17_Binds_ok r6 r13 h18) (ai (len_map (D.l TSlot.D) r12) (ai (len_map (D.l TSlot.D) r13) (ai h19 (ai (law17_MatchAll_l1_ok none a3 r6 r12 r13 a0 a1 0 (Sum.inl o18) h25) (ai (match_One_v2_ok a0 a3 a1 r20 h26) (ai (law17_MatchAll_l2_ok none a3 r6 r20.2 r20.1 0 (Sum.inl o25) h35) (ai h36 (ti)))))))))))))))))))))))) (by kernel_rfl)
         ·
          obtain rfl := Option.some.inj h
          exact runF_call mixed [(19, .ret (.d (D.b r1))), (21, .bit false), (23, .int (a2.length : Int)), (26, .bit false), (28, .ret (.d (D.b r4))), (30, .bit false), (34, .ret (.d ((D.l THit.D) r6))), (37, .ret (.d ((D.l THit.D) r7))), (40, .ret (.d (D.b r8))), (42, .bit false), (45, .ret (.d ((D.l THit.D) r9))), (48, .ret (.d ((D.l THit.D) r10))), (49, .ret (.d (D.b r11))), (51, .bit false), (53, .ret (.d ((D.l (D.l TSlot.D)) r12))), (55, .ret (.d ((D.l (D.l TSlot.D)) r13))), (57, .int (r12.length : Int)), (59, .int (r13.length : Int)), (60, .bit false), (81, .ret (.tup [.d (THit.D r20.1), .d (D.b r20.2)]))] [⟨[0, 1, 0, 1, 1, 1, 1, 1, 1, 1, 1], [.live [3, 4, 5, 9, 11, 12, 13], .keep [4, 5]], .exit 0, (law17_MatchAll_l1_O a3 r6 r12 r13 a0 a1 (Sum.inl o18)).2⟩, ⟨[0, 1, 0, 1, 1, 1, 1, 1, 1, 1, 1, 1, 1], [.live [3, 9, 14, 15, 16], .keep [14]], .ret, (law17_MatchAll_l2_O a3 r6 r20.2 r20.1 (Sum.inr o26)).2⟩] [] (ai (law17_small_ok a0 a1 r1 h1) (ai h2 (ai (len_map TSlot.D a2) (ai h4 (ai (ref05_Right_ok a2 r4 h6) (ai h7 (ai (law17_hits_ok a0 a1 r6 h9) (ai (match_All_ok a0 a1 r7 h10) (ai (ref17_Same_ok r7 r6 r8 h11) (ai h12 (ai (match_Under_ok r6 a2 r9 h13) (ai (ref17_Under_ok r6 a2 r10 h14) (ai (ref17_Same_ok r9 r10 r11 h15) (ai h16 (ai (match_Binds_ok r6 r12 h17) (ai (ref17_Binds_ok r6 r13 h18) (ai (len_map (D.l TSlot.D) r12) (ai (len_map (D.l TSlot.D) r13) (ai h19 (ai (law17_MatchAll_l1_ok none a3 r6 r12 r13 a0 a1 0 (Sum.inl o18) h25) (ai (match_One_v2_ok a0 a3 a1 r20 h26) (ai (law17_MatchAll_l2_ok none a3 r6 r20.2 r20.1 0 (Sum.inr o26) h35) (ti))))))))))))))))))))))) (by kernel_rfl)
        ·
         obtain rfl := Option.some.inj h
         exact runF_call mixed [(19, .ret (.d (D.b r1))), (21, .bit false), (23, .int (a2.length : Int)), (26, .bit false), (28, .ret (.d (D.b r4))), (30, .bit false), (34, .ret (.d ((D.l THit.D) r6))), (37, .ret (.d ((D.l THit.D) r7))), (40, .ret (.d (D.b r8))), (42, .bit false), (45, .ret (.d ((D.l THit.D) r9))), (48, .ret (.d ((D.l THit.D) r10))), (49, .ret (.d (D.b r11))), (51, .bit false), (53, .ret (.d ((D.l (D.l TSlot.D)) r12))), (55, .ret (.d ((D.l (D.l TSlot.D)) r13))), (57, .int (r12.length : Int)), (59, .int (r13.length : Int)), (60, .bit false)] [⟨[0, 1, 0, 1, 1, 1, 1, 1, 1, 1, 1], [.live [3, 4, 5, 9, 11, 12, 13], .keep [4, 5]], .ret, (law17_MatchAll_l1_O a3 r6 r12 r13 a0 a1 (Sum.inr o19)).2⟩] [] (ai (law17_small_ok a0 a1 r1 h1) (ai h2 (ai (len_map TSlot.D a2) (ai h4 (ai (ref05_Right_ok a2 r4 h6) (ai h7 (ai (law17_hits_ok a0 a1 r6 h9) (ai (match_All_ok a0 a1 r7 h10) (ai (ref17_Same_ok r7 r6 r8 h11) (ai h12 (ai (match_Under_ok r6 a2 r9 h13) (ai (ref17_Under_ok r6 a2 r10 h14) (ai (ref17_Same_ok r9 r10 r11 h15) (ai h16 (ai (match_Binds_ok r6 r12 h17) (ai (ref17_Binds_ok r6 r13 h18) (ai (len_map (D.l TSlot.D) r12) (ai (len_map (D.l TSlot.D) r13) (ai h19 (ai (law17_MatchAll_l1_ok none a3 r6 r12 r13 a0 a1 0 (Sum.inr o19) h25) (ti))))))))))))))))))))) (by kernel_rfl)
end Go.Ac
