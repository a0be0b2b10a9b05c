/- Own work, printed: the functions compute these. -/
import Derived.Test.YtgmjbigfneeekaaWa20cx2
set_option linter.unusedVariables false
set_option linter.unusedSimpArgs false
set_option linter.unusedVariables false
set_option linter.unusedSimpArgs false
namespace Go.Ac
open Go.Proofs
theorem ref08_Right_ok (a0 : List TDecl) (a1 : TEvent) (r : Bool) (h : ref08_Right a0 a1 = some r) : ACall Try.prog 42 [.d ((D.l TDecl.D) a0), .d (TEvent.D a1)] [] (.d (D.b r)) [] := by
  unfold ref08_Right at h
  obtain ⟨r1, h1, h⟩ := bS h
  rcases iS h with ⟨h2, h⟩ | ⟨h2, h⟩
  ·
   obtain rfl := si h
   exact runF_call mixed [(10, .ret (.d ((D.i .i64) r1))), (13, .bit true)] [] [] (ai (ref07_Find_ok a0 a1.name r1 h1) (ai h2 (ti))) (by kernel_rfl)
  ·
   obtain ⟨x2, h3, h⟩ := xS h
   rcases iS h with ⟨h4, h⟩ | ⟨h4, h⟩
   ·
    obtain rfl := si h
    exact runF_call mixed [(10, .ret (.d ((D.i .i64) r1))), (13, .bit false), (16, .el (TDecl.D x2)), (19, .int (x2.types.length : Int)), (22, .int (a1.args.length : Int)), (24, .bit true)] [] [] (ai (ref07_Find_ok a0 a1.name r1 h1) (ai h2 (ai (elem_map TDecl.D h3) (ai (len_map (D.i .i64) x2.types) (ai (len_map TValue.D a1.args) (ai h4 (ti))))))) (by kernel_rfl)
   ·
    obtain ⟨o8, h13, h⟩ := bS h
    replace h := sumE_some h
    rcases h with ⟨o9, rfl, h⟩ | ⟨o10, rfl, h⟩
    ·
     obtain rfl := si h
     exact runF_call mixed [(10, .ret (.d ((D.i .i64) r1))), (13, .bit false), (16, .el (TDecl.D x2)), (19, .int (x2.types.length : Int)), (22, .int (a1.args.length : Int)), (24, .bit false)] [⟨[0, 1, 0, 1, 1, 1], [.live [0, 3, 5, 6], .keep [3]], .exit 0, (ref08_Right_l1_O a0 r1 a1 (Sum.inl o9)).2⟩] [] (ai (ref07_Find_ok a0 a1.name r1 h1) (ai h2 (ai (elem_map TDecl.D h3) (ai (len_map (D.i .i64) x2.types) (ai (len_map TValue.D a1.args) (ai h4 (ai (ref08_Right_l1_ok none a0 r1 a1 0 (Sum.inl o9) h13) (ti)))))))) (by kernel_rfl)
    ·
     obtain rfl := si h
     exact runF_call mixed [(10, .ret (.d ((D.i .i64) r1))), (13, .bit false), (16, .el (TDecl.D x2)), (19, .int (x2.types.length : Int)), (22, .int (a1.args.length : Int)), (24, .bit false)] [⟨[0, 1, 0, 1, 1, 1], [.live [0, 3, 5, 6], .keep [3]], .ret, (ref08_Right_l1_O a0 r1 a1 (Sum.inr o10)).2⟩] [] (ai (ref07_Find_ok a0 a1.name r1 h1) (ai h2 (ai (elem_map TDecl.D h3) (ai (len_map (D.i .i64) x2.types) (ai (len_map TValue.D a1.args) (ai h4 (ai (ref08_Right_l1_ok none a0 r1 a1 0 (Sum.inr o10) h13) (ti)))))))) (by kernel_rfl)
def ref05_Get_l1_I (s0 : List TSlot) (s1 : Int) (w4 : TValue) (s6 : Int) : St := ⟨sp 26 0 [(0, .d ((D.l TSlot.D) s0)), (1, .d ((D.i .i64) s1)), (4, .box 4 0), (6, .d ((D.i .i64) s6))], [(4, .cells ((cellsA (TValue.D w4))))], []⟩
def ref05_Get_l1_O (s0 : List TSlot) (s1 : Int) (w4 : TValue) (o : Unit ⊕ TValue) : Ex × St := match o with
  | .inl o => (.exit 0, ⟨sp 26 0 [(4, .box 4 0)], [(4, .cells ((cellsA (TValue.D w4))))], []⟩)
  | .inr o => (.ret, ⟨sp 26 0 [(4, .box 4 0), (5, .d (D.b true))], [(4, .cells ((cellsA (TValue.D o))))], []⟩)
theorem ref05_Get_l1_rnd (rd : Option Nat) (s0 : List TSlot) (s1 : Int) (w4 : TValue) (s6 : Int) (o : (Int) ⊕ (Unit ⊕ TValue)) (h : ref05_Get_l1_s s0 s1 w4 s6 = some o) : Arr Try.prog rd (fbody Try.prog 44) (0 :: [0, 1, 0, 1]) (ref05_Get_l1_I s0 s1 w4 s6) (rR (fun s : Int => ref05_Get_l1_I s0 s1 w4 s) (ref05_Get_l1_O s0 s1 w4) o).1 (rR (fun s : Int => ref05_Get_l1_I s0 s1 w4 s) (ref05_Get_l1_O s0 s1 w4) o).2 := by
  unfold ref05_Get_l1_s at h
  rcases iS h with ⟨h1, h⟩ | ⟨h1, h⟩
  ·
   obtain ⟨x1, h2, h⟩ := xS h
   rcases iS h with ⟨h3, h⟩ | ⟨h3, h⟩
   ·
    obtain ⟨x2, h4, h⟩ := xS h
    obtain rfl := si h
    exact runB_arr mixed [(9, .int (s0.length : Int)), (10, .bit true), (15, .el (TSlot.D x1)), (19, .bit true), (22, .el (TSlot.D x2))] [] [.live [4, 5], .keep [4]] (ai (len_map TSlot.D s0) (ai h1 (ai (elem_map TSlot.D h2) (ai h3 (ai (elem_map TSlot.D h4) (ti)))))) (by kernel_rfl)
   ·
    obtain rfl := si h
    exact runB_arr mixed [(9, .int (s0.length : Int)), (10, .bit true), (15, .el (TSlot.D x1)), (19, .bit false)] [] [.live [0, 1, 4, 6], .keep [4]] (ai (len_map TSlot.D s0) (ai h1 (ai (elem_map TSlot.D h2) (ai h3 (ti))))) (by kernel_rfl)
  ·
   obtain rfl := si h
   exact runB_arr mixed [(9, .int (s0.length : Int)), (10, .bit false)] [] [.live [4], .keep [4]] (ai (len_map TSlot.D s0) (ai h1 (ti))) (by kernel_rfl)
theorem ref05_Get_l1_ok (rd : Option Nat) (s0 : List TSlot) (s1 : Int) (w4 : TValue) (s6 : Int) (t : Unit ⊕ TValue) (h : ref05_Get_l1 s0 s1 w4 s6 = some t) : LpOf Try.prog rd (fbody Try.prog 44) [0, 1, 0, 1] (ref05_Get_l1_I s0 s1 w4 s6) ((ref05_Get_l1_O s0 s1 w4) t).1 ((ref05_Get_l1_O s0 s1 w4) t).2 :=
  loopE_lpR (fun s : Int => ref05_Get_l1_I s0 s1 w4 s) (ref05_Get_l1_O s0 s1 w4) (by kernel_rfl) (fun t => isN_ne (by rcases t with (_ | _) <;> rfl)) (fun s o h => ref05_Get_l1_rnd rd s0 s1 w4 s o h) (s := s6) (t := t) h
theorem ref05_Get_ok (a0 : List TSlot) (a1 : Int) (r : TValue × Bool) (h : ref05_Get a0 a1 = some r) : ACall Try.prog 44 [.d ((D.l TSlot.D) a0), .d ((D.i .i64) a1)] [] (.tup [.d (TValue.D r.1), .d (D.b r.2)]) [] := by
  unfold ref05_Get at h
  obtain ⟨o3, h5, h⟩ := bS h
  replace h := sumE_some h
  rcases h with ⟨o4, rfl, h⟩ | ⟨o5, rfl, h⟩
  ·
   obtain rfl := si h
   exact runF_call mixed [] [⟨[0, 1, 0, 1], [.live [0, 1, 4, 6], .keep [4]], .exit 0, (ref05_Get_l1_O a0 a1 (TValue.mk 0 0 ([] : List UInt8) false) (Sum.inl o4)).2⟩] [] (ai (ref05_Get_l1_ok none a0 a1 (TValue.mk 0 0 ([] : List UInt8) false) 0 (Sum.inl o4) h5) (ti)) (by kernel_rfl)
  ·
   obtain rfl := si h
   exact runF_call mixed [] [⟨[0, 1, 0, 1], [.live [0, 1, 4, 6], .keep [4]], .ret, (ref05_Get_l1_O a0 a1 (TValue.mk 0 0 ([] : List UInt8) false) (Sum.inr o5)).2⟩] [] (ai (ref05_Get_l1_ok none a0 a1 (TValue.mk 0 0 ([] : List UInt8) false) 0 (Sum.inr o5) h5) (ti)) (by kernel_rfl)
def ref05_Fits_l1_I (s0 : List TSlot) (s1 : List TSlot) (s5 : Int) : St := ⟨sp 34 0 [(0, .d ((D.l TSlot.D) s0)), (1, .d ((D.l TSlot.D) s1)), (5, .d ((D.i .i64) s5))], [], []⟩
def ref05_Fits_l1_O (s0 : List TSlot) (s1 : List TSlot) (o : Unit ⊕ Unit) : Ex × St := match o with
  | .inl o => (.exit 0, ⟨sp 34 0 [], [], []⟩)
  | .inr o => (.ret, ⟨sp 34 0 [(4, .d (D.b false))], [], []⟩)
theorem ref05_Fits_l1_rnd (rd : Option Nat) (s0 : List TSlot) (s1 : List TSlot) (s5 : Int) (o : (Int) ⊕ (Unit ⊕ Unit)) (h : ref05_Fits_l1_s s0 s1 s5 = some o) : Arr Try.prog rd (fbody Try.prog 75) (0 :: [0, 1, 0, 1]) (ref05_Fits_l1_I s0 s1 s5) (rR (fun s : Int => ref05_Fits_l1_I s0 s1 s) (ref05_Fits_l1_O s0 s1) o).1 (rR (fun s : Int => ref05_Fits_l1_I s0 s1 s) (ref05_Fits_l1_O s0 s1) o).2 := by
  unfold ref05_Fits_l1_s at h
  rcases iS h with ⟨h1, h⟩ | ⟨h1, h⟩
  ·
   obtain ⟨x1, h2, h⟩ := xS h
   obtain ⟨r2, h3, h⟩ := bS h
   rcases iS h with ⟨h4, h⟩ | ⟨h4, h⟩
   ·
    obtain ⟨x3, h5, h⟩ := xS h
    rcases iS h with ⟨h6, h⟩ | ⟨h6, h⟩
    ·
     obtain rfl := si h
     exact runB_arr mixed [(10, .int (s0.length : Int)), (11, .bit true), (18, .el (TSlot.D x1)), (21, .ret (.tup [.d (TValue.D r2.1), .d (D.b r2.2)])), (25, .bit true), (29, .el (TSlot.D x3)), (33, .bit true)] [] [.live [4], .keep []] (ai (len_map TSlot.D s0) (ai h1 (ai (elem_map TSlot.D h2) (ai (ref05_Get_ok s1 x1.var r2 h3) (ai h4 (ai (elem_map TSlot.D h5) (ai h6 (ti)))))))) (by kernel_rfl)
    ·
     obtain rfl := si h
     exact runB_arr mixed [(10, .int (s0.length : Int)), (11, .bit true), (18, .el (TSlot.D x1)), (21, .ret (.tup [.d (TValue.D r2.1), .d (D.b r2.2)])), (25, .bit true), (29, .el (TSlot.D x3)), (33, .bit false)] [] [.live [0, 1, 5], .keep []] (ai (len_map TSlot.D s0) (ai h1 (ai (elem_map TSlot.D h2) (ai (ref05_Get_ok s1 x1.var r2 h3) (ai h4 (ai (elem_map TSlot.D h5) (ai h6 (ti)))))))) (by kernel_rfl)
   ·
    obtain rfl := si h
    exact runB_arr mixed [(10, .int (s0.length : Int)), (11, .bit true), (18, .el (TSlot.D x1)), (21, .ret (.tup [.d (TValue.D r2.1), .d (D.b r2.2)])), (25, .bit false)] [] [.live [0, 1, 5], .keep []] (ai (len_map TSlot.D s0) (ai h1 (ai (elem_map TSlot.D h2) (ai (ref05_Get_ok s1 x1.var r2 h3) (ai h4 (ti)))))) (by kernel_rfl)
  ·
   obtain rfl := si h
   exact runB_arr mixed [(10, .int (s0.length : Int)), (11, .bit false)] [] [.live [], .keep []] (ai (len_map TSlot.D s0) (ai h1 (ti))) (by kernel_rfl)
theorem ref05_Fits_l1_ok (rd : Option Nat) (s0 : List TSlot) (s1 : List TSlot) (s5 : Int) (t : Unit ⊕ Unit) (h : ref05_Fits_l1 s0 s1 s5 = some t) : LpOf Try.prog rd (fbody Try.prog 75) [0, 1, 0, 1] (ref05_Fits_l1_I s0 s1 s5) ((ref05_Fits_l1_O s0 s1) t).1 ((ref05_Fits_l1_O s0 s1) t).2 :=
  loopE_lpR (fun s : Int => ref05_Fits_l1_I s0 s1 s) (ref05_Fits_l1_O s0 s1) (by kernel_rfl) (fun t => isN_ne (by rcases t with (_ | _) <;> rfl)) (fun s o h => ref05_Fits_l1_rnd rd s0 s1 s o h) (s := s5) (t := t) h
theorem ref05_Fits_ok (a0 : List TSlot) (a1 : List TSlot) (r : Bool) (h : ref05_Fits a0 a1 = some r) : ACall Try.prog 75 [.d ((D.l TSlot.D) a0), .d ((D.l TSlot.D) a1)] [] (.d (D.b r)) [] := by
  unfold ref05_Fits at h
  obtain ⟨o4, h7, h⟩ := bS h
  replace h := sumE_some h
  rcases h with ⟨o5, rfl, h⟩ | ⟨o6, rfl, h⟩
  ·
   obtain rfl := si h
   exact runF_call mixed [] [⟨[0, 1, 0, 1], [.live [0, 1, 5], .keep []], .exit 0, (ref05_Fits_l1_O a0 a1 (Sum.inl o5)).2⟩] [] (ai (ref05_Fits_l1_ok none a0 a1 0 (Sum.inl o5) h7) (ti)) (by kernel_rfl)
  ·
   obtain rfl := si h
   exact runF_call mixed [] [⟨[0, 1, 0, 1], [.live [0, 1, 5], .keep []], .ret, (ref05_Fits_l1_O a0 a1 (Sum.inr o6)).2⟩] [] (ai (ref05_Fits_l1_ok none a0 a1 0 (Sum.inr o6) h7) (ti)) (by kernel_rfl)
def ref05_Union_b7_I (s0 : List TSlot) (s1 : List TSlot) (s6 : Int) (s34 : Bool) (w5 : List TSlot) (w9 : TValue) : St := ⟨sp 42 0 [(0, .d ((D.l TSlot.D) s0)), (1, .d ((D.l TSlot.D) s1)), (5, .row 5), (6, .d ((D.i .i64) s6)), (9, .box 9 0), (34, .d (D.b s34))], [(5, .row 119 5 (w5.map TSlot.D)), (9, .cells ((cellsA (TValue.D w9))))], []⟩
def ref05_Union_b7_O (s0 : List TSlot) (s1 : List TSlot) (s6 : Int) (s34 : Bool) (w5 : List TSlot) (w9 : TValue) (o : (List TSlot)) : Ex × St := (.normal, ⟨sp 42 0 [(0, .d ((D.l TSlot.D) s0)), (1, .d ((D.l TSlot.D) s1)), (5, .row 5), (6, .d ((D.i .i64) s6))], [(5, .row 119 5 (o.map TSlot.D))], []⟩)
theorem ref05_Union_b7_ok (rd : Option Nat) (s0 : List TSlot) (s1 : List TSlot) (s6 : Int) (s34 : Bool) (w5 : List TSlot) (w9 : TValue) (o : (List TSlot)) (h : ref05_Union_b7 s0 s1 s6 s34 w5 w9 = some o) : LpOf Try.prog rd (fbody Try.prog 76) [1, 1, 1, 1, 1, 0, 0, 1, 0, 0, 1, 0, 1, 1] (ref05_Union_b7_I s0 s1 s6 s34 w5 w9) (ref05_Union_b7_O s0 s1 s6 s34 w5 w9 o).1 (ref05_Union_b7_O s0 s1 s6 s34 w5 w9 o).2 := by
  unfold ref05_Union_b7 at h
  cases s34 with
  | true =>
   replace h := iteT h
   obtain ⟨h17, h⟩ := cS h
   obtain rfl := si h
   exact (runB_arr mixed [(40, .sl ((w5 ++ [TSlot.mk s6 w9]).map TSlot.D))] [] [.live [0, 1, 5, 6], .keep [40], .ren 40 5, .sort] (ai (nc_ok TSlot.D [TSlot.mk s6 w9]) (ai (nc_ok TSlot.D [TSlot.mk s6 w9]) (ai (fit_map TSlot.D h17) (ai (app_map TSlot.D w5 [TSlot.mk s6 w9]) (ti))))) (by kernel_rfl)).lp
  | false =>
   replace h := iteF h
   obtain rfl := si h
   exact (runB_arr mixed [] [] [.live [0, 1, 5, 6], .keep [5]] (ti) (by kernel_rfl)).lp
def ref05_Union_b6_I (s0 : List TSlot) (s1 : List TSlot) (s6 : Int) (s10 : Bool) (s27 : Bool) (w5 : List TSlot) (w7 : TValue) (w9 : TValue) : St := ⟨sp 42 0 [(0, .d ((D.l TSlot.D) s0)), (1, .d ((D.l TSlot.D) s1)), (5, .row 5), (6, .d ((D.i .i64) s6)), (7, .box 7 0), (9, .box 9 0), (10, .d (D.b s10)), (27, .d (D.b s27))], [(5, .row 119 5 (w5.map TSlot.D)), (7, .cells ((cellsA (TValue.D w7)))), (9, .cells ((cellsA (TValue.D w9))))], []⟩
def ref05_Union_b6_O (s0 : List TSlot) (s1 : List TSlot) (s6 : Int) (s10 : Bool) (s27 : Bool) (w5 : List TSlot) (w7 : TValue) (w9 : TValue) (o : (List TSlot)) : Ex × St := (.normal, ⟨sp 42 0 [(0, .d ((D.l TSlot.D) s0)), (1, .d ((D.l TSlot.D) s1)), (5, .row 5), (6, .d ((D.i .i64) s6))], [(5, .row 119 5 (o.map TSlot.D))], []⟩)
theorem ref05_Union_b6_ok (rd : Option Nat) (s0 : List TSlot) (s1 : List TSlot) (s6 : Int) (s10 : Bool) (s27 : Bool) (w5 : List TSlot) (w7 : TValue) (w9 : TValue) (o : (List TSlot)) (h : ref05_Union_b6 s0 s1 s6 s10 s27 w5 w7 w9 = some o) : LpOf Try.prog rd (fbody Try.prog 76) [1, 1, 1, 0, 0, 1, 0, 0, 1, 0, 1, 1] (ref05_Union_b6_I s0 s1 s6 s10 s27 w5 w7 w9) (ref05_Union_b6_O s0 s1 s6 s10 s27 w5 w7 w9 o).1 (ref05_Union_b6_O s0 s1 s6 s10 s27 w5 w7 w9 o).2 := by
  unfold ref05_Union_b6 at h
  cases s27 with
  | true =>
   replace h := iteT h
   obtain ⟨h15, h⟩ := cS h
   obtain rfl := si h
   exact (runB_arr mixed [(33, .sl ((w5 ++ [TSlot.mk s6 w7]).map TSlot.D))] [] [.live [0, 1, 5, 6], .keep [33], .ren 33 5, .sort] (ai (nc_ok TSlot.D [TSlot.mk s6 w7]) (ai (nc_ok TSlot.D [TSlot.mk s6 w7]) (ai (fit_map TSlot.D h15) (ai (app_map TSlot.D w5 [TSlot.mk s6 w7]) (ti))))) (by kernel_rfl)).lp
  | false =>
   replace h := iteF h
   obtain ⟨o8, h18, h⟩ := bS h
   obtain rfl := si h
   exact (runB_arr mixed [] [⟨[1, 1, 1, 1, 1, 0, 0, 1, 0, 0, 1, 0, 1, 1], [.live [0, 1, 5, 6, 9, 34], .keep [5, 9]], .normal, (ref05_Union_b7_O s0 s1 s6 s10 w5 w9 o8).2⟩] [.live [0, 1, 5, 6], .keep [5]] (ai (ref05_Union_b7_ok rd s0 s1 s6 s10 w5 w9 o8 h18) (ti)) (by kernel_rfl)).lp
def ref05_Union_b5_I (s0 : List TSlot) (s1 : List TSlot) (s6 : Int) (w5 : List TSlot) : St := ⟨sp 42 0 [(0, .d ((D.l TSlot.D) s0)), (1, .d ((D.l TSlot.D) s1)), (5, .row 5), (6, .d ((D.i .i64) s6))], [(5, .row 119 5 (w5.map TSlot.D))], []⟩
def ref05_Union_b5_O (s0 : List TSlot) (s1 : List TSlot) (s6 : Int) (w5 : List TSlot) (o : (List TSlot)) : Ex × St := (.normal, ⟨sp 42 0 [(0, .d ((D.l TSlot.D) s0)), (1, .d ((D.l TSlot.D) s1)), (5, .row 5), (6, .d ((D.i .i64) s6))], [(5, .row 119 5 (o.map TSlot.D))], []⟩)
theorem ref05_Union_b5_ok (rd : Option Nat) (s0 : List TSlot) (s1 : List TSlot) (s6 : Int) (w5 : List TSlot) (o : (List TSlot)) (h : ref05_Union_b5 s0 s1 s6 w5 = some o) : LpOf Try.prog rd (fbody Try.prog 76) [0, 1, 0, 0, 1, 0, 1, 1] (ref05_Union_b5_I s0 s1 s6 w5) (ref05_Union_b5_O s0 s1 s6 w5 o).1 (ref05_Union_b5_O s0 s1 s6 w5 o).2 := by
  unfold ref05_Union_b5 at h
  obtain ⟨r6, h12, h⟩ := bS h
  obtain ⟨r7, h13, h⟩ := bS h
  obtain ⟨o9, h19, h⟩ := bS h
  obtain rfl := si h
  exact (runB_arr mixed [(18, .ret (.tup [.d (TValue.D r6.1), .d (D.b r6.2)])), (24, .ret (.tup [.d (TValue.D r7.1), .d (D.b r7.2)]))] [⟨[1, 1, 1, 0, 0, 1, 0, 0, 1, 0, 1, 1], [.live [0, 1, 5, 6, 7, 9, 10, 27], .keep [5, 7, 9]], .normal, (ref05_Union_b6_O s0 s1 s6 r7.2 r6.2 w5 r6.1 r7.1 o9).2⟩] [.live [0, 1, 5, 6], .keep [5]] (ai (ref05_Get_ok s0 s6 r6 h12) (ai (ref05_Get_ok s1 s6 r7 h13) (ai (ref05_Union_b6_ok rd s0 s1 s6 r7.2 r6.2 w5 r6.1 r7.1 o9 h19) (ti)))) (by kernel_rfl)).lp
def ref05_Union_l1_I (s0 : List TSlot) (s1 : List TSlot) (s6 : Int) (w5 : List TSlot) : St := ⟨sp 42 0 [(0, .d ((D.l TSlot.D) s0)), (1, .d ((D.l TSlot.D) s1)), (5, .row 5), (6, .d ((D.i .i64) s6))], [(5, .row 119 5 (w5.map TSlot.D))], []⟩
def ref05_Union_l1_O (s0 : List TSlot) (s1 : List TSlot) (o : (List TSlot)) : Ex × St := (.exit 0, ⟨sp 42 0 [(5, .row 5)], [(5, .row 119 5 (o.map TSlot.D))], []⟩)
theorem ref05_Union_l1_rnd (rd : Option Nat) (s0 : List TSlot) (s1 : List TSlot) (s6 : Int) (w5 : List TSlot) (o : (Int × List TSlot) ⊕ ((List TSlot))) (h : ref05_Union_l1_s s0 s1 s6 w5 = some o) : Arr Try.prog rd (fbody Try.prog 76) (0 :: [0, 1, 0, 1, 1]) (ref05_Union_l1_I s0 s1 s6 w5) (rR (fun s : Int × List TSlot => ref05_Union_l1_I s0 s1 s.1 s.2) (ref05_Union_l1_O s0 s1) o).1 (rR (fun s : Int × List TSlot => ref05_Union_l1_I s0 s1 s.1 s.2) (ref05_Union_l1_O s0 s1) o).2 := by
  unfold ref05_Union_l1_s at h
  rcases iS h with ⟨h11, h⟩ | ⟨h11, h⟩
  ·
   obtain ⟨o10, h20, h⟩ := bS h
   obtain rfl := si h
   exact runB_arr mixed [(12, .bit true)] [⟨[0, 1, 0, 0, 1, 0, 1, 1], [.live [0, 1, 5, 6], .keep [5]], .normal, (ref05_Union_b5_O s0 s1 s6 w5 o10).2⟩] [.live [0, 1, 5, 6], .keep [5]] (ai h11 (ai (ref05_Union_b5_ok rd s0 s1 s6 w5 o10 h20) (ti))) (by kernel_rfl)
  ·
   obtain rfl := si h
   exact runB_arr mixed [(12, .bit false)] [] [.live [5], .keep [5]] (ai h11 (ti)) (by kernel_rfl)
theorem ref05_Union_l1_ok (rd : Option Nat) (s0 : List TSlot) (s1 : List TSlot) (s6 : Int) (w5 : List TSlot) (t : (List TSlot)) (h : ref05_Union_l1 s0 s1 s6 w5 = some t) : LpOf Try.prog rd (fbody Try.prog 76) [0, 1, 0, 1, 1] (ref05_Union_l1_I s0 s1 s6 w5) ((ref05_Union_l1_O s0 s1) t).1 ((ref05_Union_l1_O s0 s1) t).2 :=
  loopE_lpR (fun s : Int × List TSlot => ref05_Union_l1_I s0 s1 s.1 s.2) (ref05_Union_l1_O s0 s1) (by kernel_rfl) (fun t => isN_ne (by rfl)) (fun s o h => ref05_Union_l1_rnd rd s0 s1 s.1 s.2 o h) (s := (s6, w5)) (t := t) h
theorem ref05_Union_ok (a0 : List TSlot) (a1 : List TSlot) (r : List TSlot) (h : ref05_Union a0 a1 = some r) : ACall Try.prog 76 [.d ((D.l TSlot.D) a0), .d ((D.l TSlot.D) a1)] [] (.d ((D.l TSlot.D) r)) [] := by
  unfold ref05_Union at h
  obtain ⟨o11, h21, h⟩ := bS h
  obtain rfl := si h
  exact runF_call mixed [] [⟨[0, 1, 0, 1, 1], [.live [0, 1, 5, 6], .keep [], .nil 5 5 119 5, .sort], .exit 0, (ref05_Union_l1_O a0 a1 o11).2⟩] [] (ai (ref05_Union_l1_ok none a0 a1 0 ([] : List TSlot) o11 h21) (ti)) (by kernel_rfl)
def ref17_put_l1_I (s0 : List TSlot) (w3 : TSlot) (s5 : Int) : St := ⟨sp 38 0 [(0, .d ((D.l TSlot.D) s0)), (3, .box 3 0), (5, .d ((D.i .i64) s5))], [(3, .cells ((cellsA (TSlot.D w3))))], []⟩
def ref17_put_l1_O (s0 : List TSlot) (w3 : TSlot) (o : Int) : Ex × St := (.exit 0, ⟨sp 38 0 [(0, .d ((D.l TSlot.D) s0)), (3, .box 3 0), (5, .d ((D.i .i64) o))], [(3, .cells ((cellsA (TSlot.D w3))))], []⟩)
theorem ref17_put_l1_rnd (rd : Option Nat) (s0 : List TSlot) (w3 : TSlot) (s5 : Int) (o : (Int) ⊕ (Int)) (h : ref17_put_l1_s s0 w3 s5 = some o) : Arr Try.prog rd (fbody Try.prog 77) (0 :: [0, 0, 1, 1]) (ref17_put_l1_I s0 w3 s5) (rR (fun s : Int => ref17_put_l1_I s0 w3 s) (ref17_put_l1_O s0 w3) o).1 (rR (fun s : Int => ref17_put_l1_I s0 w3 s) (ref17_put_l1_O s0 w3) o).2 := by
  unfold ref17_put_l1_s at h
  rcases iS h with ⟨h1, h⟩ | ⟨h1, h⟩
  ·
   obtain ⟨x1, h2, h⟩ := xS h
   rcases iS h with ⟨h3, h⟩ | ⟨h3, h⟩
   ·
    obtain rfl := si h
    exact runB_arr mixed [(11, .bit true), (15, .el (TSlot.D x1)), (21, .bit true)] [] [.live [0, 3, 5], .keep [3]] (ai h1 (ai (elem_map TSlot.D h2) (ai h3 (ti)))) (by kernel_rfl)
   ·
    obtain rfl := si h
    exact runB_arr mixed [(11, .bit true), (15, .el (TSlot.D x1)), (21, .bit false)] [] [.live [0, 3, 5], .keep [3]] (ai h1 (ai (elem_map TSlot.D h2) (ai h3 (ti)))) (by kernel_rfl)
  ·
   obtain rfl := si h
   exact runB_arr mixed [(11, .bit false)] [] [.live [0, 3, 5], .keep [3]] (ai h1 (ti)) (by kernel_rfl)
theorem ref17_put_l1_ok (rd : Option Nat) (s0 : List TSlot) (w3 : TSlot) (s5 : Int) (t : Int) (h : ref17_put_l1 s0 w3 s5 = some t) : LpOf Try.prog rd (fbody Try.prog 77) [0, 0, 1, 1] (ref17_put_l1_I s0 w3 s5) ((ref17_put_l1_O s0 w3) t).1 ((ref17_put_l1_O s0 w3) t).2 :=
  loopE_lpR (fun s : Int => ref17_put_l1_I s0 w3 s) (ref17_put_l1_O s0 w3) (by kernel_rfl) (fun t => isN_ne (by rfl)) (fun s o h => ref17_put_l1_rnd rd s0 w3 s o h) (s := s5) (t := t) h
theorem ref17_put_ok (a0 : List TSlot) (a1 : TSlot) (r : List TSlot) (h : ref17_put a0 a1 = some r) : ACall Try.prog 77 [.d ((D.l TSlot.D) a0), .d (TSlot.D a1)] [] (.d ((D.l TSlot.D) r)) [] := by
  unfold ref17_put at h
  obtain ⟨o2, h4, h⟩ := bS h
  obtain ⟨h5, h⟩ := cS h
  obtain ⟨h6, h⟩ := cS h
  obtain ⟨h7, h⟩ := cS h
  obtain ⟨h8, h⟩ := cS h
  obtain ⟨h9, h⟩ := cS h
  obtain rfl := si h
  exact runF_call mixed [(8, .int (a0.length : Int)), (27, .sl ((sub a0 0 o2).map TSlot.D)), (28, .sl ((([] : List TSlot) ++ (sub a0 0 o2)).map TSlot.D)), (32, .sl (((([] : List TSlot) ++ (sub a0 0 o2)) ++ [a1]).map TSlot.D)), (36, .sl ((sub a0 o2 (a0.length : Int)).map TSlot.D)), (37, .sl ((((([] : List TSlot) ++ (sub a0 0 o2)) ++ [a1]) ++ (sub a0 o2 (a0.length : Int))).map TSlot.D))] [⟨[0, 0, 1, 1], [.live [0, 3, 5], .keep [3]], .exit 0, (ref17_put_l1_O a0 a1 o2).2⟩] [] (ai (len_map TSlot.D a0) (ai (ref17_put_l1_ok none a0 a1 (a0.length : Int) o2 h4) (ai (nc_ok TSlot.D ([] : List TSlot)) (ai (cut_some TSlot.D h5) (ai (nc_ok TSlot.D (sub a0 0 o2)) (ai (fit_map TSlot.D h6) (ai (app_map TSlot.D ([] : List TSlot) (sub a0 0 o2)) (ai (nc_ok TSlot.D [a1]) (ai (nc_ok TSlot.D [a1]) (ai (fit_map TSlot.D h7) (ai (app_map TSlot.D (([] : List TSlot) ++ (sub a0 0 o2)) [a1]) (ai (cut_none TSlot.D h8) (ai (nc_ok TSlot.D (sub a0 o2 (a0.length : Int))) (ai (fit_map TSlot.D h9) (ai (app_map TSlot.D ((([] : List TSlot) ++ (sub a0 0 o2)) ++ [a1]) (sub a0 o2 (a0.length : Int))) (ti)))))))))))))))) (by kernel_rfl)
def ref17_Hit_b7_I (s1 : Int) (s10 : List TSlot) (s11 : List TSlot) (s12 : Int) (s80 : Bool) (w5 : TEvent) (w6 : Int) (w8 : TSymbol) (w9 : THit) (w13 : TArg) (w14 : List TSlot) : St := ⟨sp 121 0 [(1, .d ((D.i .i64) s1)), (5, .box 5 0), (6, .box 6 0), (8, .box 8 0), (9, .box 9 0), (10, .d ((D.l TSlot.D) s10)), (11, .d ((D.l TSlot.D) s11)), (12, .d ((D.i .i64) s12)), (13, .box 13 0), (14, .row 14), (80, .d (D.b s80))], [(5, .cells ((cellsA (TEvent.D w5)))), (6, .cells ([.d ((D.i .i64) w6), .nil, .nil])), (8, .cells ((cellsA (TSymbol.D w8)))), (9, .cells ((cellsA (THit.D w9)))), (13, .cells ((cellsA (TArg.D w13)))), (14, .row 119 5 (w14.map TSlot.D))], []⟩
def ref17_Hit_b7_O (s1 : Int) (s10 : List TSlot) (s11 : List TSlot) (s12 : Int) (s80 : Bool) (w5 : TEvent) (w6 : Int) (w8 : TSymbol) (w9 : THit) (w13 : TArg) (w14 : List TSlot) (o : (List TSlot) ⊕ Unit) : Ex × St := match o with
  | .inl o => (.normal, ⟨sp 121 0 [(1, .d ((D.i .i64) s1)), (5, .box 5 0), (6, .box 6 0), (8, .box 8 0), (9, .box 9 0), (10, .d ((D.l TSlot.D) o)), (11, .d ((D.l TSlot.D) s11)), (12, .d ((D.i .i64) s12)), (13, .box 13 0), (14, .row 14)], [(5, .cells ((cellsA (TEvent.D w5)))), (6, .cells ([.d ((D.i .i64) w6), .nil, .nil])), (8, .cells ((cellsA (TSymbol.D w8)))), (9, .cells ((cellsA (THit.D w9)))), (13, .cells ((cellsA (TArg.D w13)))), (14, .row 119 5 (w14.map TSlot.D))], []⟩)
  | .inr o => (.ret, ⟨sp 121 0 [(6, .box 6 0), (7, .d (D.b false))], [(6, .cells ((cellsA (THit.D w9))))], []⟩)
theorem ref17_Hit_b7_ok (rd : Option Nat) (s1 : Int) (s10 : List TSlot) (s11 : List TSlot) (s12 : Int) (s80 : Bool) (w5 : TEvent) (w6 : Int) (w8 : TSymbol) (w9 : THit) (w13 : TArg) (w14 : List TSlot) (o : (List TSlot) ⊕ Unit) (h : ref17_Hit_b7 s1 s10 s11 s12 s80 w5 w6 w8 w9 w13 w14 = some o) : LpOf Try.prog rd (fbody Try.prog 58) [1, 0, 1, 1, 1, 0, 0, 1, 0, 0, 1, 0, 1, 1, 1, 1, 1, 1] (ref17_Hit_b7_I s1 s10 s11 s12 s80 w5 w6 w8 w9 w13 w14) (ref17_Hit_b7_O s1 s10 s11 s12 s80 w5 w6 w8 w9 w13 w14 o).1 (ref17_Hit_b7_O s1 s10 s11 s12 s80 w5 w6 w8 w9 w13 w14 o).2 := by
  unfold ref17_Hit_b7 at h
  cases s80 with
  | true =>
   replace h := iteT h
   obtain ⟨r32, h37, h⟩ := bS h
   rcases iS h with ⟨h38, h⟩ | ⟨h38, h⟩
   ·
    obtain rfl := si h
    exact (runB_arr mixed [(83, .ret (.d (D.b r32))), (84, .bit true)] [] [.live [6, 7], .keep [6]] (ai (ref05_Fits_ok s10 w14 r32 h37) (ai h38 (ti))) (by kernel_rfl)).lp
   ·
    obtain ⟨r33, h39, h⟩ := bS h
    obtain rfl := si h
    exact (runB_arr mixed [(83, .ret (.d (D.b r32))), (84, .bit false), (88, .ret (.d ((D.l TSlot.D) r33)))] [] [.live [1, 5, 6, 8, 9, 10, 11, 12, 13, 14], .keep [5, 6, 8, 9, 13, 14]] (ai (ref05_Fits_ok s10 w14 r32 h37) (ai h38 (ai (ref05_Union_ok s10 w14 r33 h39) (ti)))) (by kernel_rfl)).lp
  | false =>
   replace h := iteF h
   obtain rfl := si h
   exact (runB_arr mixed [] [] [.live [1, 5, 6, 8, 9, 10, 11, 12, 13, 14], .keep [5, 6, 8, 9, 13, 14]] (ti) (by kernel_rfl)).lp
def ref17_Hit_b9_I (s1 : Int) (s10 : List TSlot) (s11 : List TSlot) (s12 : Int) (s111 : Bool) (w5 : TEvent) (w6 : Int) (w8 : TSymbol) (w9 : THit) (w14 : List TSlot) : St := ⟨sp 121 0 [(1, .d ((D.i .i64) s1)), (5, .box 5 0), (6, .box 6 0), (8, .box 8 0), (9, .box 9 0), (10, .d ((D.l TSlot.D) s10)), (11, .d ((D.l TSlot.D) s11)), (12, .d ((D.i .i64) s12)), (14, .row 14), (111, .d (D.b s111))], [(5, .cells ((cellsA (TEvent.D w5)))), (6, .cells ([.d ((D.i .i64) w6), .nil, .nil])), (8, .cells ((cellsA (TSymbol.D w8)))), (9, .cells ((cellsA (THit.D w9)))), (14, .row 119 5 (w14.map TSlot.D))], []⟩
def ref17_Hit_b9_O (s1 : Int) (s10 : List TSlot) (s11 : List TSlot) (s12 : Int) (s111 : Bool) (w5 : TEvent) (w6 : Int) (w8 : TSymbol) (w9 : THit) (w14 : List TSlot) (o : (List TSlot)) : Ex × St := (.normal, ⟨sp 121 0 [(1, .d ((D.i .i64) s1)), (5, .box 5 0), (6, .box 6 0), (8, .box 8 0), (9, .box 9 0), (10, .d ((D.l TSlot.D) s10)), (11, .d ((D.l TSlot.D) o)), (12, .d ((D.i .i64) s12))], [(5, .cells ((cellsA (TEvent.D w5)))), (6, .cells ([.d ((D.i .i64) w6), .nil, .nil])), (8, .cells ((cellsA (TSymbol.D w8)))), (9, .cells ((cellsA (THit.D w9))))], []⟩)
theorem ref17_Hit_b9_ok (rd : Option Nat) (s1 : Int) (s10 : List TSlot) (s11 : List TSlot) (s12 : Int) (s111 : Bool) (w5 : TEvent) (w6 : Int) (w8 : TSymbol) (w9 : THit) (w14 : List TSlot) (o : (List TSlot)) (h : ref17_Hit_b9 s1 s10 s11 s12 s111 w5 w6 w8 w9 w14 = some o) : LpOf Try.prog rd (fbody Try.prog 58) [1, 1, 1, 0, 1, 1, 1, 1, 1, 0, 0, 1, 0, 0, 1, 0, 1, 1, 1, 1, 1, 1] (ref17_Hit_b9_I s1 s10 s11 s12 s111 w5 w6 w8 w9 w14) (ref17_Hit_b9_O s1 s10 s11 s12 s111 w5 w6 w8 w9 w14 o).1 (ref17_Hit_b9_O s1 s10 s11 s12 s111 w5 w6 w8 w9 w14 o).2 := by
  unfold ref17_Hit_b9 at h
  cases s111 with
  | true =>
   replace h := iteT h
   obtain ⟨x39, h47, h⟩ := xS h
   obtain ⟨r40, h48, h⟩ := bS h
   obtain rfl := si h
   exact (runB_arr mixed [(114, .el (TSlot.D x39)), (116, .ret (.d ((D.l TSlot.D) r40)))] [] [.live [1, 5, 6, 8, 9, 10, 11, 12], .keep [5, 6, 8, 9]] (ai (elem_map TSlot.D h47) (ai (ref17_put_ok s11 x39 r40 h48) (ti))) (by kernel_rfl)).lp
  | false =>
   replace h := iteF h
   obtain rfl := si h
   exact (runB_arr mixed [] [] [.live [1, 5, 6, 8, 9, 10, 11, 12], .keep [5, 6, 8, 9]] (ti) (by kernel_rfl)).lp
def ref17_Hit_b8_I (s1 : Int) (s10 : List TSlot) (s11 : List TSlot) (s12 : Int) (s91 : Bool) (w5 : TEvent) (w6 : Int) (w8 : TSymbol) (w9 : THit) (w13 : TArg) (w14 : List TSlot) : St := ⟨sp 121 0 [(1, .d ((D.i .i64) s1)), (5, .box 5 0), (6, .box 6 0), (8, .box 8 0), (9, .box 9 0), (10, .d ((D.l TSlot.D) s10)), (11, .d ((D.l TSlot.D) s11)), (12, .d ((D.i .i64) s12)), (13, .box 13 0), (14, .row 14), (91, .d (D.b s91))], [(5, .cells ((cellsA (TEvent.D w5)))), (6, .cells ([.d ((D.i .i64) w6), .nil, .nil])), (8, .cells ((cellsA (TSymbol.D w8)))), (9, .cells ((cellsA (THit.D w9)))), (13, .cells ((cellsA (TArg.D w13)))), (14, .row 119 5 (w14.map TSlot.D))], []⟩
def ref17_Hit_b8_O (s1 : Int) (s10 : List TSlot) (s11 : List TSlot) (s12 : Int) (s91 : Bool) (w5 : TEvent) (w6 : Int) (w8 : TSymbol) (w9 : THit) (w13 : TArg) (w14 : List TSlot) (o : (List TSlot) ⊕ Unit) : Ex × St := match o with
  | .inl o => (.normal, ⟨sp 121 0 [(1, .d ((D.i .i64) s1)), (5, .box 5 0), (6, .box 6 0), (8, .box 8 0), (9, .box 9 0), (10, .d ((D.l TSlot.D) s10)), (11, .d ((D.l TSlot.D) o)), (12, .d ((D.i .i64) s12))], [(5, .cells ((cellsA (TEvent.D w5)))), (6, .cells ([.d ((D.i .i64) w6), .nil, .nil])), (8, .cells ((cellsA (TSymbol.D w8)))), (9, .cells ((cellsA (THit.D w9))))], []⟩)
  | .inr o => (.ret, ⟨sp 121 0 [(6, .box 6 0), (7, .d (D.b false))], [(6, .cells ((cellsA (THit.D w9))))], []⟩)
theorem ref17_Hit_b8_ok (rd : Option Nat) (s1 : Int) (s10 : List TSlot) (s11 : List TSlot) (s12 : Int) (s91 : Bool) (w5 : TEvent) (w6 : Int) (w8 : TSymbol) (w9 : THit) (w13 : TArg) (w14 : List TSlot) (o : (List TSlot) ⊕ Unit) (h : ref17_Hit_b8 s1 s10 s11 s12 s91 w5 w6 w8 w9 w13 w14 = some o) : LpOf Try.prog rd (fbody Try.prog 58) [1, 1, 1, 1, 1, 0, 0, 1, 0, 0, 1, 0, 1, 1, 1, 1, 1, 1] (ref17_Hit_b8_I s1 s10 s11 s12 s91 w5 w6 w8 w9 w13 w14) (ref17_Hit_b8_O s1 s10 s11 s12 s91 w5 w6 w8 w9 w13 w14 o).1 (ref17_Hit_b8_O s1 s10 s11 s12 s91 w5 w6 w8 w9 w13 w14 o).2 := by
  unfold ref17_Hit_b8 at h
  cases s91 with
  | true =>
   replace h := iteT h
   obtain ⟨r37, h42, h⟩ := bS h
   rcases iS h with ⟨h43, h⟩ | ⟨h43, h⟩
   ·
    obtain ⟨x38, h44, h⟩ := xS h
    rcases iS h with ⟨h45, h⟩ | ⟨h45, h⟩
    ·
     obtain rfl := si h
     exact (runB_arr mixed [(96, .ret (.tup [.d (TValue.D r37.1), .d (D.b r37.2)])), (100, .bit true), (105, .el (TValue.D x38)), (108, .bit true)] [] [.live [6, 7], .keep [6]] (ai (ref05_Get_ok s11 w13.n r37 h42) (ai h43 (ai (elem_map TValue.D h44) (ai h45 (ti))))) (by kernel_rfl)).lp
    ·
     obtain ⟨o41, h49, h⟩ := bS h
     obtain rfl := si h
     exact (runB_arr mixed [(96, .ret (.tup [.d (TValue.D r37.1), .d (D.b r37.2)])), (100, .bit true), (105, .el (TValue.D x38)), (108, .bit false)] [⟨[1, 1, 1, 0, 1, 1, 1, 1, 1, 0, 0, 1, 0, 0, 1, 0, 1, 1, 1, 1, 1, 1], [.live [1, 5, 6, 8, 9, 10, 11, 12, 14, 111], .keep [5, 6, 8, 9, 14]], .normal, (ref17_Hit_b9_O s1 s10 s11 s12 (!r37.2) w5 w6 w8 w9 w14 o41).2⟩] [.live [1, 5, 6, 8, 9, 10, 11, 12], .keep [5, 6, 8, 9]] (ai (ref05_Get_ok s11 w13.n r37 h42) (ai h43 (ai (elem_map TValue.D h44) (ai h45 (ai (ref17_Hit_b9_ok rd s1 s10 s11 s12 (!r37.2) w5 w6 w8 w9 w14 o41 h49) (ti)))))) (by kernel_rfl)).lp
   ·
    obtain ⟨o42, h50, h⟩ := bS h
    obtain rfl := si h
    exact (runB_arr mixed [(96, .ret (.tup [.d (TValue.D r37.1), .d (D.b r37.2)])), (100, .bit false)] [⟨[1, 1, 1, 0, 1, 1, 1, 1, 1, 0, 0, 1, 0, 0, 1, 0, 1, 1, 1, 1, 1, 1], [.live [1, 5, 6, 8, 9, 10, 11, 12, 14, 111], .keep [5, 6, 8, 9, 14]], .normal, (ref17_Hit_b9_O s1 s10 s11 s12 (!r37.2) w5 w6 w8 w9 w14 o42).2⟩] [.live [1, 5, 6, 8, 9, 10, 11, 12], .keep [5, 6, 8, 9]] (ai (ref05_Get_ok s11 w13.n r37 h42) (ai h43 (ai (ref17_Hit_b9_ok rd s1 s10 s11 s12 (!r37.2) w5 w6 w8 w9 w14 o42 h50) (ti)))) (by kernel_rfl)).lp
  | false =>
   replace h := iteF h
   obtain rfl := si h
   exact (runB_arr mixed [] [] [.live [1, 5, 6, 8, 9, 10, 11, 12], .keep [5, 6, 8, 9]] (ti) (by kernel_rfl)).lp
def ref17_Hit_b6_I (s1 : Int) (s10 : List TSlot) (s11 : List TSlot) (s12 : Int) (w5 : TEvent) (w6 : Int) (w8 : TSymbol) (w9 : THit) : St := ⟨sp 121 0 [(1, .d ((D.i .i64) s1)), (5, .box 5 0), (6, .box 6 0), (8, .box 8 0), (9, .box 9 0), (10, .d ((D.l TSlot.D) s10)), (11, .d ((D.l TSlot.D) s11)), (12, .d ((D.i .i64) s12))], [(5, .cells ((cellsA (TEvent.D w5)))), (6, .cells ([.d ((D.i .i64) w6), .nil, .nil])), (8, .cells ((cellsA (TSymbol.D w8)))), (9, .cells ((cellsA (THit.D w9))))], []⟩
def ref17_Hit_b6_O (s1 : Int) (s10 : List TSlot) (s11 : List TSlot) (s12 : Int) (w5 : TEvent) (w6 : Int) (w8 : TSymbol) (w9 : THit) (o : (List TSlot × List TSlot) ⊕ Unit) : Ex × St := match o with
  | .inl o => (.normal, ⟨sp 121 0 [(1, .d ((D.i .i64) s1)), (5, .box 5 0), (6, .box 6 0), (8, .box 8 0), (9, .box 9 0), (10, .d ((D.l TSlot.D) o.1)), (11, .d ((D.l TSlot.D) o.2)), (12, .d ((D.i .i64) s12))], [(5, .cells ((cellsA (TEvent.D w5)))), (6, .cells ([.d ((D.i .i64) w6), .nil, .nil])), (8, .cells ((cellsA (TSymbol.D w8)))), (9, .cells ((cellsA (THit.D w9))))], []⟩)
  | .inr o => (.ret, ⟨sp 121 0 [(6, .box 6 0), (7, .d (D.b false))], [(6, .cells ((cellsA (THit.D w9))))], []⟩)
theorem ref17_Hit_b6_ok (rd : Option Nat) (s1 : Int) (s10 : List TSlot) (s11 : List TSlot) (s12 : Int) (w5 : TEvent) (w6 : Int) (w8 : TSymbol) (w9 : THit) (o : (List TSlot × List TSlot) ⊕ Unit) (h : ref17_Hit_b6 s1 s10 s11 s12 w5 w6 w8 w9 = some o) : LpOf Try.prog rd (fbody Try.prog 58) [0, 1, 0, 0, 1, 0, 1, 1, 1, 1, 1, 1] (ref17_Hit_b6_I s1 s10 s11 s12 w5 w6 w8 w9) (ref17_Hit_b6_O s1 s10 s11 s12 w5 w6 w8 w9 o).1 (ref17_Hit_b6_O s1 s10 s11 s12 w5 w6 w8 w9 o).2 := by
  unfold ref17_Hit_b6 at h
  obtain ⟨x29, h31, h⟩ := xS h
  obtain ⟨x30, h32, h⟩ := xS h
  rcases iS h with ⟨h33, h⟩ | ⟨h33, h⟩
  ·
   obtain ⟨x31, h34, h⟩ := xS h
   rcases iS h with ⟨h35, h⟩ | ⟨h35, h⟩
   ·
    obtain rfl := si h
    exact (runB_arr mixed [(53, .el (TArg.D x29)), (60, .el (TValue.D x30)), (67, .bit true), (73, .el (TValue.D x31)), (76, .bit true)] [] [.live [6, 7], .keep [6]] (ai (elem_map TArg.D h31) (ai (elem_map TValue.D h32) (ai (nc_ok TSlot.D [TSlot.mk x29.n x30]) (ai h33 (ai (elem_map TValue.D h34) (ai h35 (ti))))))) (by kernel_rfl)).lp
   ·
    obtain ⟨o34, h40, h⟩ := bS h
    replace h := sumE_some h
    rcases h with ⟨o35, rfl, h⟩ | ⟨o36, rfl, h⟩
    ·
     obtain ⟨o43, h51, h⟩ := bS h
     replace h := sumE_some h
     rcases h with ⟨o44, rfl, h⟩ | ⟨o45, rfl, h⟩
     ·
      obtain rfl := si h
      exact (runB_arr mixed [(53, .el (TArg.D x29)), (60, .el (TValue.D x30)), (67, .bit true), (73, .el (TValue.D x31)), (76, .bit false)] [⟨[1, 0, 1, 1, 1, 0, 0, 1, 0, 0, 1, 0, 1, 1, 1, 1, 1, 1], [.live [1, 5, 6, 8, 9, 10, 11, 12, 13, 14, 80], .keep [5, 6, 8, 9, 13, 63], .ren 63 14, .sort], .normal, (ref17_Hit_b7_O s1 s10 s11 s12 (decide (x29.kind = 2)) w5 w6 w8 w9 x29 [TSlot.mk x29.n x30] (Sum.inl o35)).2⟩, ⟨[1, 1, 1, 1, 1, 0, 0, 1, 0, 0, 1, 0, 1, 1, 1, 1, 1, 1], [.live [1, 5, 6, 8, 9, 10, 11, 12, 13, 14, 91], .keep [5, 6, 8, 9, 13, 14]], .normal, (ref17_Hit_b8_O s1 o35 s11 s12 (decide (x29.kind = 3)) w5 w6 w8 w9 x29 [TSlot.mk x29.n x30] (Sum.inl o44)).2⟩] [.live [1, 5, 6, 8, 9, 10, 11, 12], .keep [5, 6, 8, 9]] (ai (elem_map TArg.D h31) (ai (elem_map TValue.D h32) (ai (nc_ok TSlot.D [TSlot.mk x29.n x30]) (ai h33 (ai (elem_map TValue.D h34) (ai h35 (ai (ref17_Hit_b7_ok rd s1 s10 s11 s12 (decide (x29.kind = 2)) w5 w6 w8 w9 x29 [TSlot.mk x29.n x30] (Sum.inl o35) h40) (ai (ref17_Hit_b8_ok rd s1 o35 s11 s12 (decide (x29.kind = 3)) w5 w6 w8 w9 x29 [TSlot.mk x29.n x30] (Sum.inl o44) h51) (ti))))))))) (by kernel_rfl)).lp
     ·
      obtain rfl := si h
      exact (runB_arr mixed [(53, .el (TArg.D x29)), (60, .el (TValue.D x30)), (67, .bit true), (73, .el (TValue.D x31)), (76, .bit false)] [⟨[1, 0, 1, 1, 1, 0, 0, 1, 0, 0, 1, 0, 1, 1, 1, 1, 1, 1], [.live [1, 5, 6, 8, 9, 10, 11, 12, 13, 14, 80], .keep [5, 6, 8, 9, 13, 63], .ren 63 14, .sort], .normal, (ref17_Hit_b7_O s1 s10 s11 s12 (decide (x29.kind = 2)) w5 w6 w8 w9 x29 [TSlot.mk x29.n x30] (Sum.inl o35)).2⟩, ⟨[1, 1, 1, 1, 1, 0, 0, 1, 0, 0, 1, 0, 1, 1, 1, 1, 1, 1], [.live [1, 5, 6, 8, 9, 10, 11, 12, 13, 14, 91], .keep [5, 6, 8, 9, 13, 14]], .ret, (ref17_Hit_b8_O s1 o35 s11 s12 (decide (x29.kind = 3)) w5 w6 w8 w9 x29 [TSlot.mk x29.n x30] (Sum.inr o45)).2⟩] [.live [6, 7], .keep [6]] (ai (elem_map TArg.D h31) (ai (elem_map TValue.D h32) (ai (nc_ok TSlot.D [TSlot.mk x29.n x30]) (ai h33 (ai (elem_map TValue.D h34) (ai h35 (ai (ref17_Hit_b7_ok rd s1 s10 s11 s12 (decide (x29.kind = 2)) w5 w6 w8 w9 x29 [TSlot.mk x29.n x30] (Sum.inl o35) h40) (ai (ref17_Hit_b8_ok rd s1 o35 s11 s12 (decide (x29.kind = 3)) w5 w6 w8 w9 x29 [TSlot.mk x29.n x30] (Sum.inr o45) h51) (ti))))))))) (by kernel_rfl)).lp
    ·
     obtain rfl := si h
     exact (runB_arr mixed [(53, .el (TArg.D x29)), (60, .el (TValue.D x30)), (67, .bit true), (73, .el (TValue.D x31)), (76, .bit false)] [⟨[1, 0, 1, 1, 1, 0, 0, 1, 0, 0, 1, 0, 1, 1, 1, 1, 1, 1], [.live [1, 5, 6, 8, 9, 10, 11, 12, 13, 14, 80], .keep [5, 6, 8, 9, 13, 63], .ren 63 14, .sort], .ret, (ref17_Hit_b7_O s1 s10 s11 s12 (decide (x29.kind = 2)) w5 w6 w8 w9 x29 [TSlot.mk x29.n x30] (Sum.inr o36)).2⟩] [.live [6, 7], .keep [6]] (ai (elem_map TArg.D h31) (ai (elem_map TValue.D h32) (ai (nc_ok TSlot.D [TSlot.mk x29.n x30]) (ai h33 (ai (elem_map TValue.D h34) (ai h35 (ai (ref17_Hit_b7_ok rd s1 s10 s11 s12 (decide (x29.kind = 2)) w5 w6 w8 w9 x29 [TSlot.mk x29.n x30] (Sum.inr o36) h40) (ti)))))))) (by kernel_rfl)).lp
  ·
   obtain ⟨o46, h52, h⟩ := bS h
   replace h := sumE_some h
   rcases h with ⟨o47, rfl, h⟩ | ⟨o48, rfl, h⟩
   ·
    obtain ⟨o49, h53, h⟩ := bS h
    replace h := sumE_some h
    rcases h with ⟨o50, rfl, h⟩ | ⟨o51, rfl, h⟩
    ·
     obtain rfl := si h
     exact (runB_arr mixed [(53, .el (TArg.D x29)), (60, .el (TValue.D x30)), (67, .bit false)] [⟨[1, 0, 1, 1, 1, 0, 0, 1, 0, 0, 1, 0, 1, 1, 1, 1, 1, 1], [.live [1, 5, 6, 8, 9, 10, 11, 12, 13, 14, 80], .keep [5, 6, 8, 9, 13, 63], .ren 63 14, .sort], .normal, (ref17_Hit_b7_O s1 s10 s11 s12 (decide (x29.kind = 2)) w5 w6 w8 w9 x29 [TSlot.mk x29.n x30] (Sum.inl o47)).2⟩, ⟨[1, 1, 1, 1, 1, 0, 0, 1, 0, 0, 1, 0, 1, 1, 1, 1, 1, 1], [.live [1, 5, 6, 8, 9, 10, 11, 12, 13, 14, 91], .keep [5, 6, 8, 9, 13, 14]], .normal, (ref17_Hit_b8_O s1 o47 s11 s12 (decide (x29.kind = 3)) w5 w6 w8 w9 x29 [TSlot.mk x29.n x30] (Sum.inl o50)).2⟩] [.live [1, 5, 6, 8, 9, 10, 11, 12], .keep [5, 6, 8, 9]] (ai (elem_map TArg.D h31) (ai (elem_map TValue.D h32) (ai (nc_ok TSlot.D [TSlot.mk x29.n x30]) (ai h33 (ai (ref17_Hit_b7_ok rd s1 s10 s11 s12 (decide (x29.kind = 2)) w5 w6 w8 w9 x29 [TSlot.mk x29.n x30] (Sum.inl o47) h52) (ai (ref17_Hit_b8_ok rd s1 o47 s11 s12 (decide (x29.kind = 3)) w5 w6 w8 w9 x29 [TSlot.mk x29.n x30] (Sum.inl o50) h53) (ti))))))) (by kernel_rfl)).lp
    ·
     obtain rfl := si h
     exact (runB_arr mixed [(53, .el (TArg.D x29)), (60, .el (TValue.D x30)), (67, .bit false)] [⟨[1, 0, 1, 1, 1, 0, 0, 1, 0, 0, 1, 0, 1, 1, 1, 1, 1, 1], [.live [1, 5, 6, 8, 9, 10, 11, 12, 13, 14, 80], .keep [5, 6, 8, 9, 13, 63], .ren 63 14, .sort], .normal, (ref17_Hit_b7_O s1 s10 s11 s12 (decide (x29.kind = 2)) w5 w6 w8 w9 x29 [TSlot.mk x29.n x30] (Sum.inl o47)).2⟩, ⟨[1, 1, 1, 1, 1, 0, 0, 1, 0, 0, 1, 0, 1, 1, 1, 1, 1, 1], [.live [1, 5, 6, 8, 9, 10, 11, 12, 13, 14, 91], .keep [5, 6, 8, 9, 13, 14]], .ret, (ref17_Hit_b8_O s1 o47 s11 s12 (decide (x29.kind = 3)) w5 w6 w8 w9 x29 [TSlot.mk x29.n x30] (Sum.inr o51)).2⟩] [.live [6, 7], .keep [6]] (ai (elem_map TArg.D h31) (ai (elem_map TValue.D h32) (ai (nc_ok TSlot.D [TSlot.mk x29.n x30]) (ai h33 (ai (ref17_Hit_b7_ok rd s1 s10 s11 s12 (decide (x29.kind = 2)) w5 w6 w8 w9 x29 [TSlot.mk x29.n x30] (Sum.inl o47) h52) (ai (ref17_Hit_b8_ok rd s1 o47 s11 s12 (decide (x29.kind = 3)) w5 w6 w8 w9 x29 [TSlot.mk x29.n x30] (Sum.inr o51) h53) (ti))))))) (by kernel_rfl)).lp
   ·
    obtain rfl := si h
    exact (runB_arr mixed [(53, .el (TArg.D x29)), (60, .el (TValue.D x30)), (67, .bit false)] [⟨[1, 0, 1, 1, 1, 0, 0, 1, 0, 0, 1, 0, 1, 1, 1, 1, 1, 1], [.live [1, 5, 6, 8, 9, 10, 11, 12, 13, 14, 80], .keep [5, 6, 8, 9, 13, 63], .ren 63 14, .sort], .ret, (ref17_Hit_b7_O s1 s10 s11 s12 (decide (x29.kind = 2)) w5 w6 w8 w9 x29 [TSlot.mk x29.n x30] (Sum.inr o48)).2⟩] [.live [6, 7], .keep [6]] (ai (elem_map TArg.D h31) (ai (elem_map TValue.D h32) (ai (nc_ok TSlot.D [TSlot.mk x29.n x30]) (ai h33 (ai (ref17_Hit_b7_ok rd s1 s10 s11 s12 (decide (x29.kind = 2)) w5 w6 w8 w9 x29 [TSlot.mk x29.n x30] (Sum.inr o48) h52) (ti)))))) (by kernel_rfl)).lp
def ref17_Hit_l1_I (s1 : Int) (w5 : TEvent) (w6 : Int) (w8 : TSymbol) (w9 : THit) (s10 : List TSlot) (s11 : List TSlot) (s12 : Int) : St := ⟨sp 121 0 [(1, .d ((D.i .i64) s1)), (5, .box 5 0), (6, .box 6 0), (8, .box 8 0), (9, .box 9 0), (10, .d ((D.l TSlot.D) s10)), (11, .d ((D.l TSlot.D) s11)), (12, .d ((D.i .i64) s12))], [(5, .cells ((cellsA (TEvent.D w5)))), (6, .cells ([.d ((D.i .i64) w6), .nil, .nil])), (8, .cells ((cellsA (TSymbol.D w8)))), (9, .cells ((cellsA (THit.D w9))))], []⟩
def ref17_Hit_l1_O (s1 : Int) (w5 : TEvent) (w6 : Int) (w8 : TSymbol) (w9 : THit) (o : (List TSlot × List TSlot) ⊕ Unit) : Ex × St := match o with
  | .inl o => (.exit 0, ⟨sp 121 0 [(1, .d ((D.i .i64) s1)), (6, .box 6 0), (10, .d ((D.l TSlot.D) o.1)), (11, .d ((D.l TSlot.D) o.2))], [(6, .cells ([.d ((D.i .i64) w6), .nil, .nil]))], []⟩)
  | .inr o => (.ret, ⟨sp 121 0 [(6, .box 6 0), (7, .d (D.b false))], [(6, .cells ((cellsA (THit.D w9))))], []⟩)
theorem ref17_Hit_l1_rnd (rd : Option Nat) (s1 : Int) (w5 : TEvent) (w6 : Int) (w8 : TSymbol) (w9 : THit) (s10 : List TSlot) (s11 : List TSlot) (s12 : Int) (o : (List TSlot × List TSlot × Int) ⊕ ((List TSlot × List TSlot) ⊕ Unit)) (h : ref17_Hit_l1_s s1 w5 w6 w8 w9 s10 s11 s12 = some o) : Arr Try.prog rd (fbody Try.prog 58) (0 :: [0, 1, 0, 1, 1, 1, 1, 1, 1]) (ref17_Hit_l1_I s1 w5 w6 w8 w9 s10 s11 s12) (rR (fun s : List TSlot × List TSlot × Int => ref17_Hit_l1_I s1 w5 w6 w8 w9 s.1 s.2.1 s.2.2) (ref17_Hit_l1_O s1 w5 w6 w8 w9) o).1 (rR (fun s : List TSlot × List TSlot × Int => ref17_Hit_l1_I s1 w5 w6 w8 w9 s.1 s.2.1 s.2.2) (ref17_Hit_l1_O s1 w5 w6 w8 w9) o).2 := by
  unfold ref17_Hit_l1_s at h
  rcases iS h with ⟨h30, h⟩ | ⟨h30, h⟩
  ·
   obtain ⟨o52, h54, h⟩ := bS h
   replace h := sumE_some h
   rcases h with ⟨o53, rfl, h⟩ | ⟨o54, rfl, h⟩
   ·
    obtain rfl := si h
    exact runB_arr mixed [(46, .int (w8.args.length : Int)), (47, .bit true)] [⟨[0, 1, 0, 0, 1, 0, 1, 1, 1, 1, 1, 1], [.live [1, 5, 6, 8, 9, 10, 11, 12], .keep [5, 6, 8, 9]], .normal, (ref17_Hit_b6_O s1 s10 s11 s12 w5 w6 w8 w9 (Sum.inl o53)).2⟩] [.live [1, 5, 6, 8, 9, 10, 11, 12], .keep [5, 6, 8, 9]] (ai (len_map TArg.D w8.args) (ai h30 (ai (ref17_Hit_b6_ok rd s1 s10 s11 s12 w5 w6 w8 w9 (Sum.inl o53) h54) (ti)))) (by kernel_rfl)
   ·
    obtain rfl := si h
    exact runB_arr mixed [(46, .int (w8.args.length : Int)), (47, .bit true)] [⟨[0, 1, 0, 0, 1, 0, 1, 1, 1, 1, 1, 1], [.live [1, 5, 6, 8, 9, 10, 11, 12], .keep [5, 6, 8, 9]], .ret, (ref17_Hit_b6_O s1 s10 s11 s12 w5 w6 w8 w9 (Sum.inr o54)).2⟩] [.live [6, 7], .keep [6]] (ai (len_map TArg.D w8.args) (ai h30 (ai (ref17_Hit_b6_ok rd s1 s10 s11 s12 w5 w6 w8 w9 (Sum.inr o54) h54) (ti)))) (by kernel_rfl)
  ·
   obtain rfl := si h
   exact runB_arr mixed [(46, .int (w8.args.length : Int)), (47, .bit false)] [] [.live [1, 6, 10, 11], .keep [6]] (ai (len_map TArg.D w8.args) (ai h30 (ti))) (by kernel_rfl)
theorem ref17_Hit_l1_ok (rd : Option Nat) (s1 : Int) (w5 : TEvent) (w6 : Int) (w8 : TSymbol) (w9 : THit) (s10 : List TSlot) (s11 : List TSlot) (s12 : Int) (t : (List TSlot × List TSlot) ⊕ Unit) (h : ref17_Hit_l1 s1 w5 w6 w8 w9 s10 s11 s12 = some t) : LpOf Try.prog rd (fbody Try.prog 58) [0, 1, 0, 1, 1, 1, 1, 1, 1] (ref17_Hit_l1_I s1 w5 w6 w8 w9 s10 s11 s12) ((ref17_Hit_l1_O s1 w5 w6 w8 w9) t).1 ((ref17_Hit_l1_O s1 w5 w6 w8 w9) t).2 :=
  loopE_lpR (fun s : List TSlot × List TSlot × Int => ref17_Hit_l1_I s1 w5 w6 w8 w9 s.1 s.2.1 s.2.2) (ref17_Hit_l1_O s1 w5 w6 w8 w9) (by kernel_rfl) (fun t => isN_ne (by rcases t with (_ | _) <;> rfl)) (fun s o h => ref17_Hit_l1_rnd rd s1 w5 w6 w8 w9 s.1 s.2.1 s.2.2 o h) (s := (s10, s11, s12)) (t := t) h
theorem ref17_Hit_ok (a0 : TQea) (a1 : Int) (a2 : TEvent) (r : THit × Bool) (h : ref17_Hit a0 a1 a2 = some r) : ACall Try.prog 58 [.d (TQea.D a0), .d ((D.i .i64) a1), .d (TEvent.D a2)] [] (.tup [.d (THit.D r.1), .d (D.b r.2)]) [] := by
  unfold ref17_Hit at h
  obtain ⟨x1, h1, h⟩ := xS h
  obtain ⟨x2, h2, h⟩ := xS h
  rcases iS h with ⟨h3, h⟩ | ⟨h3, h⟩
  ·
   obtain rfl := si h
   exact runF_call mixed [(20, .el (TSymbol.D x1)), (27, .el (TDecl.D x2)), (33, .bit true)] [] [] (ai (elem_map TSymbol.D h1) (ai (elem_map TDecl.D h2) (ai h3 (ti)))) (by kernel_rfl)
  ·
   rcases iS h with ⟨h4, h⟩ | ⟨h4, h⟩
   ·
    obtain rfl := si h
    exact runF_call mixed [(20, .el (TSymbol.D x1)), (27, .el (TDecl.D x2)), (33, .bit false), (36, .int (x1.args.length : Int)), (39, .int (a2.args.length : Int)), (41, .bit true)] [] [] (ai (elem_map TSymbol.D h1) (ai (elem_map TDecl.D h2) (ai h3 (ai (len_map TArg.D x1.args) (ai (len_map TValue.D a2.args) (ai h4 (ti))))))) (by kernel_rfl)
   ·
    obtain ⟨o55, h55, h⟩ := bS h
    replace h := sumE_some h
    rcases h with ⟨o56, rfl, h⟩ | ⟨o57, rfl, h⟩
    ·
     obtain rfl := si h
     exact runF_call mixed [(20, .el (TSymbol.D x1)), (27, .el (TDecl.D x2)), (33, .bit false), (36, .int (x1.args.length : Int)), (39, .int (a2.args.length : Int)), (41, .bit false)] [⟨[0, 1, 0, 1, 1, 1, 1, 1, 1], [.look 10, .look 11, .live [1, 5, 6, 8, 9, 10, 11, 12], .keep [5, 6, 8, 9]], .exit 0, (ref17_Hit_l1_O a1 a2 0 x1 (THit.mk 0 ([] : List TSlot) ([] : List TSlot)) (Sum.inl o56)).2⟩] [] (ai (elem_map TSymbol.D h1) (ai (elem_map TDecl.D h2) (ai h3 (ai (len_map TArg.D x1.args) (ai (len_map TValue.D a2.args) (ai h4 (ai (ref17_Hit_l1_ok none a1 a2 0 x1 (THit.mk 0 ([] : List TSlot) ([] : List TSlot)) ([] : List TSlot) ([] : List TSlot) 0 (Sum.inl o56) h55) (ti)))))))) (by kernel_rfl)
    ·
     obtain rfl := si h
     exact runF_call mixed [(20, .el (TSymbol.D x1)), (27, .el (TDecl.D x2)), (33, .bit false), (36, .int (x1.args.length : Int)), (39, .int (a2.args.length : Int)), (41, .bit false)] [⟨[0, 1, 0, 1, 1, 1, 1, 1, 1], [.look 10, .look 11, .live [1, 5, 6, 8, 9, 10, 11, 12], .keep [5, 6, 8, 9]], .ret, (ref17_Hit_l1_O a1 a2 0 x1 (THit.mk 0 ([] : List TSlot) ([] : List TSlot)) (Sum.inr o57)).2⟩] [] (ai (elem_map TSymbol.D h1) (ai (elem_map TDecl.D h2) (ai h3 (ai (len_map TArg.D x1.args) (ai (len_map TValue.D a2.args) (ai h4 (ai (ref17_Hit_l1_ok none a1 a2 0 x1 (THit.mk 0 ([] : List TSlot) ([] : List TSlot)) ([] : List TSlot) ([] : List TSlot) 0 (Sum.inr o57) h55) (ti)))))))) (by kernel_rfl)
def ref17_All_b5_I (s6 : Int) (s23 : Bool) (w2 : TQea) (w3 : TEvent) (w5 : List THit) (w7 : THit) : St := ⟨sp 29 0 [(2, .box 2 0), (3, .box 3 0), (5, .row 5), (6, .d ((D.i .i64) s6)), (7, .box 7 0), (23, .d (D.b s23))], [(2, .cells ((cellsA (TQea.D w2)))), (3, .cells ((cellsA (TEvent.D w3)))), (5, .row 84 3 (w5.map THit.D)), (7, .cells ((cellsA (THit.D w7))))], []⟩
def ref17_All_b5_O (s6 : Int) (s23 : Bool) (w2 : TQea) (w3 : TEvent) (w5 : List THit) (w7 : THit) (o : (List THit)) : Ex × St := (.normal, ⟨sp 29 0 [(2, .box 2 0), (3, .box 3 0), (5, .row 5), (6, .d ((D.i .i64) s6))], [(2, .cells ((cellsA (TQea.D w2)))), (3, .cells ((cellsA (TEvent.D w3)))), (5, .row 84 3 (o.map THit.D))], []⟩)
theorem ref17_All_b5_ok (rd : Option Nat) (s6 : Int) (s23 : Bool) (w2 : TQea) (w3 : TEvent) (w5 : List THit) (w7 : THit) (o : (List THit)) (h : ref17_All_b5 s6 s23 w2 w3 w5 w7 = some o) : LpOf Try.prog rd (fbody Try.prog 43) [1, 1, 0, 0, 1, 0, 0, 1, 0, 1, 1] (ref17_All_b5_I s6 s23 w2 w3 w5 w7) (ref17_All_b5_O s6 s23 w2 w3 w5 w7 o).1 (ref17_All_b5_O s6 s23 w2 w3 w5 w7 o).2 := by
  unfold ref17_All_b5 at h
  cases s23 with
  | true =>
   replace h := iteT h
   obtain ⟨h10, h⟩ := cS h
   obtain rfl := si h
   exact (runB_arr mixed [(27, .sl ((w5 ++ [w7]).map THit.D))] [] [.live [2, 3, 5, 6], .keep [2, 3, 27], .ren 27 5, .sort] (ai (nc_ok THit.D [w7]) (ai (nc_ok THit.D [w7]) (ai (fit_map THit.D h10) (ai (app_map THit.D w5 [w7]) (ti))))) (by kernel_rfl)).lp
  | false =>
   replace h := iteF h
   obtain rfl := si h
   exact (runB_arr mixed [] [] [.live [2, 3, 5, 6], .keep [2, 3, 5]] (ti) (by kernel_rfl)).lp
def ref17_All_b4_I (s6 : Int) (w2 : TQea) (w3 : TEvent) (w5 : List THit) : St := ⟨sp 29 0 [(2, .box 2 0), (3, .box 3 0), (5, .row 5), (6, .d ((D.i .i64) s6))], [(2, .cells ((cellsA (TQea.D w2)))), (3, .cells ((cellsA (TEvent.D w3)))), (5, .row 84 3 (w5.map THit.D))], []⟩
def ref17_All_b4_O (s6 : Int) (w2 : TQea) (w3 : TEvent) (w5 : List THit) (o : (List THit)) : Ex × St := (.normal, ⟨sp 29 0 [(2, .box 2 0), (3, .box 3 0), (5, .row 5), (6, .d ((D.i .i64) s6))], [(2, .cells ((cellsA (TQea.D w2)))), (3, .cells ((cellsA (TEvent.D w3)))), (5, .row 84 3 (o.map THit.D))], []⟩)
theorem ref17_All_b4_ok (rd : Option Nat) (s6 : Int) (w2 : TQea) (w3 : TEvent) (w5 : List THit) (o : (List THit)) (h : ref17_All_b4 s6 w2 w3 w5 = some o) : LpOf Try.prog rd (fbody Try.prog 43) [0, 1, 0, 0, 1, 0, 1, 1] (ref17_All_b4_I s6 w2 w3 w5) (ref17_All_b4_O s6 w2 w3 w5 o).1 (ref17_All_b4_O s6 w2 w3 w5 o).2 := by
  unfold ref17_All_b4 at h
  obtain ⟨r4, h8, h⟩ := bS h
  obtain ⟨o5, h11, h⟩ := bS h
  obtain rfl := si h
  exact (runB_arr mixed [(20, .ret (.tup [.d (THit.D r4.1), .d (D.b r4.2)]))] [⟨[1, 1, 0, 0, 1, 0, 0, 1, 0, 1, 1], [.live [2, 3, 5, 6, 7, 23], .keep [2, 3, 5, 7]], .normal, (ref17_All_b5_O s6 r4.2 w2 w3 w5 r4.1 o5).2⟩] [.live [2, 3, 5, 6], .keep [2, 3, 5]] (ai (ref17_Hit_ok w2 s6 w3 r4 h8) (ai (ref17_All_b5_ok rd s6 r4.2 w2 w3 w5 r4.1 o5 h11) (ti))) (by kernel_rfl)).lp
def ref17_All_l1_I (w2 : TQea) (w3 : TEvent) (s6 : Int) (w5 : List THit) : St := ⟨sp 29 0 [(2, .box 2 0), (3, .box 3 0), (5, .row 5), (6, .d ((D.i .i64) s6))], [(2, .cells ((cellsA (TQea.D w2)))), (3, .cells ((cellsA (TEvent.D w3)))), (5, .row 84 3 (w5.map THit.D))], []⟩
def ref17_All_l1_O (w2 : TQea) (w3 : TEvent) (o : (List THit)) : Ex × St := (.exit 0, ⟨sp 29 0 [(5, .row 5)], [(5, .row 84 3 (o.map THit.D))], []⟩)
theorem ref17_All_l1_rnd (rd : Option Nat) (w2 : TQea) (w3 : TEvent) (s6 : Int) (w5 : List THit) (o : (Int × List THit) ⊕ ((List THit))) (h : ref17_All_l1_s w2 w3 s6 w5 = some o) : Arr Try.prog rd (fbody Try.prog 43) (0 :: [0, 1, 0, 1, 1]) (ref17_All_l1_I w2 w3 s6 w5) (rR (fun s : Int × List THit => ref17_All_l1_I w2 w3 s.1 s.2) (ref17_All_l1_O w2 w3) o).1 (rR (fun s : Int × List THit => ref17_All_l1_I w2 w3 s.1 s.2) (ref17_All_l1_O w2 w3) o).2 := by
  unfold ref17_All_l1_s at h
  rcases iS h with ⟨h7, h⟩ | ⟨h7, h⟩
  ·
   obtain ⟨o6, h12, h⟩ := bS h
   obtain rfl := si h
   exact runB_arr mixed [(12, .int (w2.symbols.length : Int)), (13, .bit true)] [⟨[0, 1, 0, 0, 1, 0, 1, 1], [.live [2, 3, 5, 6], .keep [2, 3, 5]], .normal, (ref17_All_b4_O s6 w2 w3 w5 o6).2⟩] [.live [2, 3, 5, 6], .keep [2, 3, 5]] (ai (len_map TSymbol.D w2.symbols) (ai h7 (ai (ref17_All_b4_ok rd s6 w2 w3 w5 o6 h12) (ti)))) (by kernel_rfl)
  ·
   obtain rfl := si h
   exact runB_arr mixed [(12, .int (w2.symbols.length : Int)), (13, .bit false)] [] [.live [5], .keep [5]] (ai (len_map TSymbol.D w2.symbols) (ai h7 (ti))) (by kernel_rfl)
theorem ref17_All_l1_ok (rd : Option Nat) (w2 : TQea) (w3 : TEvent) (s6 : Int) (w5 : List THit) (t : (List THit)) (h : ref17_All_l1 w2 w3 s6 w5 = some t) : LpOf Try.prog rd (fbody Try.prog 43) [0, 1, 0, 1, 1] (ref17_All_l1_I w2 w3 s6 w5) ((ref17_All_l1_O w2 w3) t).1 ((ref17_All_l1_O w2 w3) t).2 :=
  loopE_lpR (fun s : Int × List THit => ref17_All_l1_I w2 w3 s.1 s.2) (ref17_All_l1_O w2 w3) (by kernel_rfl) (fun t => isN_ne (by rfl)) (fun s o h => ref17_All_l1_rnd rd w2 w3 s.1 s.2 o h) (s := (s6, w5)) (t := t) h
theorem ref17_All_ok (a0 : TQea) (a1 : TEvent) (r : List THit) (h : ref17_All a0 a1 = some r) : ACall Try.prog 43 [.d (TQea.D a0), .d (TEvent.D a1)] [] (.d ((D.l THit.D) r)) [] := by
  unfold ref17_All at h
  obtain ⟨o7, h13, h⟩ := bS h
  obtain rfl := si h
  exact runF_call mixed [] [⟨[0, 1, 0, 1, 1], [.live [2, 3, 5, 6], .keep [2, 3], .nil 5 5 84 3, .sort], .exit 0, (ref17_All_l1_O a0 a1 o7).2⟩] [] (ai (ref17_All_l1_ok none a0 a1 0 ([] : List THit) o7 h13) (ti)) (by kernel_rfl)
def ref20_Put_l1_I (s0 : List TValue) (w3 : TValue) (s5 : Int) : St := ⟨sp 48 0 [(0, .d ((D.l TValue.D) s0)), (3, .box 3 0), (5, .d ((D.i .i64) s5))], [(3, .cells ((cellsA (TValue.D w3))))], []⟩
def ref20_Put_l1_O (s0 : List TValue) (w3 : TValue) (o : Int) : Ex × St := (.exit 0, ⟨sp 48 0 [(0, .d ((D.l TValue.D) s0)), (3, .box 3 0), (5, .d ((D.i .i64) o))], [(3, .cells ((cellsA (TValue.D w3))))], []⟩)
theorem ref20_Put_l1_rnd (rd : Option Nat) (s0 : List TValue) (w3 : TValue) (s5 : Int) (o : (Int) ⊕ (Int)) (h : ref20_Put_l1_s s0 w3 s5 = some o) : Arr Try.prog rd (fbody Try.prog 12) (0 :: [0, 0, 1, 1]) (ref20_Put_l1_I s0 w3 s5) (rR (fun s : Int => ref20_Put_l1_I s0 w3 s) (ref20_Put_l1_O s0 w3) o).1 (rR (fun s : Int => ref20_Put_l1_I s0 w3 s) (ref20_Put_l1_O s0 w3) o).2 := by
  unfold ref20_Put_l1_s at h
  rcases iS h with ⟨h1, h⟩ | ⟨h1, h⟩
  ·
   obtain ⟨x1, h2, h⟩ := xS h
   obtain ⟨r2, h3, h⟩ := bS h
   cases r2 with
   | true =>
    replace h := iteT h
    obtain rfl := si h
    exact runB_arr mixed [(11, .bit true), (16, .el (TValue.D x1)), (18, .ret (.d (D.b true)))] [] [.live [0, 3, 5], .keep [3]] (ai h1 (ai (elem_map TValue.D h2) (ai (ref03_Less_ok w3 x1 true h3) (ti)))) (by kernel_rfl)
   | false =>
    replace h := iteF h
    obtain rfl := si h
    exact runB_arr mixed [(11, .bit true), (16, .el (TValue.D x1)), (18, .ret (.d (D.b false)))] [] [.live [0, 3, 5], .keep [3]] (ai h1 (ai (elem_map TValue.D h2) (ai (ref03_Less_ok w3 x1 false h3) (ti)))) (by kernel_rfl)
  ·
   obtain rfl := si h
   exact runB_arr mixed [(11, .bit false)] [] [.live [0, 3, 5], .keep [3]] (ai h1 (ti)) (by kernel_rfl)
theorem ref20_Put_l1_ok (rd : Option Nat) (s0 : List TValue) (w3 : TValue) (s5 : Int) (t : Int) (h : ref20_Put_l1 s0 w3 s5 = some t) : LpOf Try.prog rd (fbody Try.prog 12) [0, 0, 1, 1] (ref20_Put_l1_I s0 w3 s5) ((ref20_Put_l1_O s0 w3) t).1 ((ref20_Put_l1_O s0 w3) t).2 :=
  loopE_lpR (fun s : Int => ref20_Put_l1_I s0 w3 s) (ref20_Put_l1_O s0 w3) (by kernel_rfl) (fun t => isN_ne (by rfl)) (fun s o h => ref20_Put_l1_rnd rd s0 w3 s o h) (s := s5) (t := t) h
theorem ref20_Put_ok (a0 : List TValue) (a1 : TValue) (r : List TValue) (h : ref20_Put a0 a1 = some r) : ACall Try.prog 12 [.d ((D.l TValue.D) a0), .d (TValue.D a1)] [] (.d ((D.l TValue.D) r)) [] := by
  unfold ref20_Put at h
  obtain ⟨o3, h5, h⟩ := bS h
  rcases iS h with ⟨h6, h⟩ | ⟨h6, h⟩
  ·
   obtain ⟨x4, h7, h⟩ := xS h
   rcases iS h with ⟨h8, h⟩ | ⟨h8, h⟩
   ·
    obtain rfl := si h
    exact runF_call mixed [(8, .int (a0.length : Int)), (24, .bit true), (28, .el (TValue.D x4)), (32, .bit true)] [⟨[0, 0, 1, 1], [.live [0, 3, 5], .keep [3]], .exit 0, (ref20_Put_l1_O a0 a1 o3).2⟩] [] (ai (len_map TValue.D a0) (ai (ref20_Put_l1_ok none a0 a1 (a0.length : Int) o3 h5) (ai h6 (ai (elem_map TValue.D h7) (ai h8 (ti)))))) (by kernel_rfl)
   ·
    obtain ⟨h9, h⟩ := cS h
    obtain ⟨h10, h⟩ := cS h
    obtain ⟨h11, h⟩ := cS h
    obtain ⟨h12, h⟩ := cS h
    obtain ⟨h13, h⟩ := cS h
    obtain rfl := si h
    exact runF_call mixed [(8, .int (a0.length : Int)), (24, .bit true), (28, .el (TValue.D x4)), (32, .bit false), (37, .sl ((sub a0 0 o3).map TValue.D)), (38, .sl ((([] : List TValue) ++ (sub a0 0 o3)).map TValue.D)), (42, .sl (((([] : List TValue) ++ (sub a0 0 o3)) ++ [a1]).map TValue.D)), (46, .sl ((sub a0 o3 (a0.length : Int)).map TValue.D)), (47, .sl ((((([] : List TValue) ++ (sub a0 0 o3)) ++ [a1]) ++ (sub a0 o3 (a0.length : Int))).map TValue.D))] [⟨[0, 0, 1, 1], [.live [0, 3, 5], .keep [3]], .exit 0, (ref20_Put_l1_O a0 a1 o3).2⟩] [] (ai (len_map TValue.D a0) (ai (ref20_Put_l1_ok none a0 a1 (a0.length : Int) o3 h5) (ai h6 (ai (elem_map TValue.D h7) (ai h8 (ai (nc_ok TValue.D ([] : List TValue)) (ai (cut_some TValue.D h9) (ai (nc_ok TValue.D (sub a0 0 o3)) (ai (fit_map TValue.D h10) (ai (app_map TValue.D ([] : List TValue) (sub a0 0 o3)) (ai (nc_ok TValue.D [a1]) (ai (nc_ok TValue.D [a1]) (ai (fit_map TValue.D h11) (ai (app_map TValue.D (([] : List TValue) ++ (sub a0 0 o3)) [a1]) (ai (cut_none TValue.D h12) (ai (nc_ok TValue.D (sub a0 o3 (a0.length : Int))) (ai (fit_map TValue.D h13) (ai (app_map TValue.D ((([] : List TValue) ++ (sub a0 0 o3)) ++ [a1]) (sub a0 o3 (a0.length : Int))) (ti))))))))))))))))))) (by kernel_rfl)
  ·
   obtain ⟨h14, h⟩ := cS h
   obtain ⟨h15, h⟩ := cS h
   obtain ⟨h16, h⟩ := cS h
   obtain ⟨h17, h⟩ := cS h
   obtain ⟨h18, h⟩ := cS h
   obtain rfl := si h
   exact runF_call mixed [(8, .int (a0.length : Int)), (24, .bit false), (37, .sl ((sub a0 0 o3).map TValue.D)), (38, .sl ((([] : List TValue) ++ (sub a0 0 o3)).map TValue.D)), (42, .sl (((([] : List TValue) ++ (sub a0 0 o3)) ++ [a1]).map TValue.D)), (46, .sl ((sub a0 o3 (a0.length : Int)).map TValue.D)), (47, .sl ((((([] : List TValue) ++ (sub a0 0 o3)) ++ [a1]) ++ (sub a0 o3 (a0.length : Int))).map TValue.D))] [⟨[0, 0, 1, 1], [.live [0, 3, 5], .keep [3]], .exit 0, (ref20_Put_l1_O a0 a1 o3).2⟩] [] (ai (len_map TValue.D a0) (ai (ref20_Put_l1_ok none a0 a1 (a0.length : Int) o3 h5) (ai h6 (ai (nc_ok TValue.D ([] : List TValue)) (ai (cut_some TValue.D h14) (ai (nc_ok TValue.D (sub a0 0 o3)) (ai (fit_map TValue.D h15) (ai (app_map TValue.D ([] : List TValue) (sub a0 0 o3)) (ai (nc_ok TValue.D [a1]) (ai (nc_ok TValue.D [a1]) (ai (fit_map TValue.D h16) (ai (app_map TValue.D (([] : List TValue) ++ (sub a0 0 o3)) [a1]) (ai (cut_none TValue.D h17) (ai (nc_ok TValue.D (sub a0 o3 (a0.length : Int))) (ai (fit_map TValue.D h18) (ai (app_map TValue.D ((([] : List TValue) ++ (sub a0 0 o3)) ++ [a1]) (sub a0 o3 (a0.length : Int))) (ti))))))))))))))))) (by kernel_rfl)
def ref20_Add_b1_I (s1 : List (List TValue)) (s17 : Bool) (w3 : TQea) (w5 : TEvent) : St := ⟨sp 61 0 [(1, .d ((D.l (D.l TValue.D)) s1)), (3, .box 3 0), (5, .box 5 0), (7, .nil), (8, .nil), (17, .d (D.b s17))], [(3, .cells ((cellsA (TQea.D w3)))), (5, .cells ((cellsA (TEvent.D w5))))], []⟩
def ref20_Add_b1_O (s1 : List (List TValue)) (s17 : Bool) (w3 : TQea) (w5 : TEvent) (o : (List THit)) : Ex × St := (.normal, ⟨sp 61 0 [(1, .d ((D.l (D.l TValue.D)) s1)), (3, .box 3 0), (7, .nil), (8, .d ((D.l THit.D) o))], [(3, .cells ((cellsA (TQea.D w3))))], []⟩)
theorem ref20_Add_b1_ok (rd : Option Nat) (s1 : List (List TValue)) (s17 : Bool) (w3 : TQea) (w5 : TEvent) (o : (List THit)) (h : ref20_Add_b1 s1 s17 w3 w5 = some o) : LpOf Try.prog rd (fbody Try.prog 22) [1, 0, 1, 1, 1] (ref20_Add_b1_I s1 s17 w3 w5) (ref20_Add_b1_O s1 s17 w3 w5 o).1 (ref20_Add_b1_O s1 s17 w3 w5 o).2 := by
  unfold ref20_Add_b1 at h
  cases s17 with
  | true =>
   replace h := iteT h
   obtain ⟨r2, h3, h⟩ := bS h
   obtain rfl := si h
   exact (runB_arr mixed [(20, .ret (.d ((D.l THit.D) r2)))] [] [.live [1, 3, 7, 8], .keep [3]] (ai (ref17_All_ok w3 w5 r2 h3) (ti)) (by kernel_rfl)).lp
  | false =>
   replace h := iteF h
   obtain rfl := si h
   exact (runB_arr mixed [] [] [.look 8, .live [1, 3, 7, 8], .keep [3]] (ti) (by kernel_rfl)).lp
def ref20_Add_b9_I (s1 : List (List TValue)) (s8 : List THit) (s9 : Int) (s31 : Bool) (w3 : TQea) (w7 : List (List TValue)) : St := ⟨sp 61 0 [(1, .d ((D.l (D.l TValue.D)) s1)), (3, .box 3 0), (7, .row 7), (8, .d ((D.l THit.D) s8)), (9, .d ((D.i .i64) s9)), (10, .nil), (31, .d (D.b s31))], [(3, .cells ((cellsA (TQea.D w3)))), (7, .row 24 1 (w7.map (D.l TValue.D)))], []⟩
def ref20_Add_b9_O (s1 : List (List TValue)) (s8 : List THit) (s9 : Int) (s31 : Bool) (w3 : TQea) (w7 : List (List TValue)) (o : (List TValue)) : Ex × St := (.normal, ⟨sp 61 0 [(1, .d ((D.l (D.l TValue.D)) s1)), (3, .box 3 0), (7, .row 7), (8, .d ((D.l THit.D) s8)), (9, .d ((D.i .i64) s9)), (10, .d ((D.l TValue.D) o))], [(3, .cells ((cellsA (TQea.D w3)))), (7, .row 24 1 (w7.map (D.l TValue.D)))], []⟩)
theorem ref20_Add_b9_ok (rd : Option Nat) (s1 : List (List TValue)) (s8 : List THit) (s9 : Int) (s31 : Bool) (w3 : TQea) (w7 : List (List TValue)) (o : (List TValue)) (h : ref20_Add_b9 s1 s8 s9 s31 w3 w7 = some o) : LpOf Try.prog rd (fbody Try.prog 22) [1, 0, 1, 0, 0, 1, 0, 0, 1, 0, 1, 1, 1, 1] (ref20_Add_b9_I s1 s8 s9 s31 w3 w7) (ref20_Add_b9_O s1 s8 s9 s31 w3 w7 o).1 (ref20_Add_b9_O s1 s8 s9 s31 w3 w7 o).2 := by
  unfold ref20_Add_b9 at h
  cases s31 with
  | true =>
   replace h := iteT h
   obtain ⟨x13, h21, h⟩ := xS h
   obtain rfl := si h
   exact (runB_arr mixed [(34, .el ((D.l TValue.D) x13))] [] [.live [1, 3, 7, 8, 9, 10], .keep [3, 7]] (ai (elem_map (D.l TValue.D) h21) (ti)) (by kernel_rfl)).lp
  | false =>
   replace h := iteF h
   obtain rfl := si h
   exact (runB_arr mixed [] [] [.look 10, .live [1, 3, 7, 8, 9, 10], .keep [3, 7]] (ti) (by kernel_rfl)).lp
def ref20_Add_b12_I (s1 : List (List TValue)) (s8 : List THit) (s9 : Int) (s10 : List TValue) (s11 : Int) (s52 : Bool) (w3 : TQea) (w7 : List (List TValue)) (w12 : TValue) : St := ⟨sp 61 0 [(1, .d ((D.l (D.l TValue.D)) s1)), (3, .box 3 0), (7, .row 7), (8, .d ((D.l THit.D) s8)), (9, .d ((D.i .i64) s9)), (10, .d ((D.l TValue.D) s10)), (11, .d ((D.i .i64) s11)), (12, .box 12 0), (52, .d (D.b s52))], [(3, .cells ((cellsA (TQea.D w3)))), (7, .row 24 1 (w7.map (D.l TValue.D))), (12, .cells ((cellsA (TValue.D w12))))], []⟩
def ref20_Add_b12_O (s1 : List (List TValue)) (s8 : List THit) (s9 : Int) (s10 : List TValue) (s11 : Int) (s52 : Bool) (w3 : TQea) (w7 : List (List TValue)) (w12 : TValue) (o : (List TValue)) : Ex × St := (.normal, ⟨sp 61 0 [(1, .d ((D.l (D.l TValue.D)) s1)), (3, .box 3 0), (7, .row 7), (8, .d ((D.l THit.D) s8)), (9, .d ((D.i .i64) s9)), (10, .d ((D.l TValue.D) o)), (11, .d ((D.i .i64) s11))], [(3, .cells ((cellsA (TQea.D w3)))), (7, .row 24 1 (w7.map (D.l TValue.D)))], []⟩)
theorem ref20_Add_b12_ok (rd : Option Nat) (s1 : List (List TValue)) (s8 : List THit) (s9 : Int) (s10 : List TValue) (s11 : Int) (s52 : Bool) (w3 : TQea) (w7 : List (List TValue)) (w12 : TValue) (o : (List TValue)) (h : ref20_Add_b12 s1 s8 s9 s10 s11 s52 w3 w7 w12 = some o) : LpOf Try.prog rd (fbody Try.prog 22) [1, 1, 0, 0, 1, 0, 0, 1, 0, 1, 1, 0, 0, 1, 0, 0, 1, 0, 1, 1, 1, 1] (ref20_Add_b12_I s1 s8 s9 s10 s11 s52 w3 w7 w12) (ref20_Add_b12_O s1 s8 s9 s10 s11 s52 w3 w7 w12 o).1 (ref20_Add_b12_O s1 s8 s9 s10 s11 s52 w3 w7 w12 o).2 := by
  unfold ref20_Add_b12 at h
  cases s52 with
  | true =>
   replace h := iteT h
   obtain ⟨r17, h27, h⟩ := bS h
   obtain rfl := si h
   exact (runB_arr mixed [(55, .ret (.d ((D.l TValue.D) r17)))] [] [.live [1, 3, 7, 8, 9, 10, 11], .keep [3, 7]] (ai (ref20_Put_ok s10 w12 r17 h27) (ti)) (by kernel_rfl)).lp
  | false =>
   replace h := iteF h
   obtain rfl := si h
   exact (runB_arr mixed [] [] [.live [1, 3, 7, 8, 9, 10, 11], .keep [3, 7]] (ti) (by kernel_rfl)).lp
def ref20_Add_b11_I (s1 : List (List TValue)) (s8 : List THit) (s9 : Int) (s10 : List TValue) (s11 : Int) (w3 : TQea) (w7 : List (List TValue)) : St := ⟨sp 61 0 [(1, .d ((D.l (D.l TValue.D)) s1)), (3, .box 3 0), (7, .row 7), (8, .d ((D.l THit.D) s8)), (9, .d ((D.i .i64) s9)), (10, .d ((D.l TValue.D) s10)), (11, .d ((D.i .i64) s11))], [(3, .cells ((cellsA (TQea.D w3)))), (7, .row 24 1 (w7.map (D.l TValue.D)))], []⟩
def ref20_Add_b11_O (s1 : List (List TValue)) (s8 : List THit) (s9 : Int) (s10 : List TValue) (s11 : Int) (w3 : TQea) (w7 : List (List TValue)) (o : (List TValue)) : Ex × St := (.normal, ⟨sp 61 0 [(1, .d ((D.l (D.l TValue.D)) s1)), (3, .box 3 0), (7, .row 7), (8, .d ((D.l THit.D) s8)), (9, .d ((D.i .i64) s9)), (10, .d ((D.l TValue.D) o)), (11, .d ((D.i .i64) s11))], [(3, .cells ((cellsA (TQea.D w3)))), (7, .row 24 1 (w7.map (D.l TValue.D)))], []⟩)
theorem ref20_Add_b11_ok (rd : Option Nat) (s1 : List (List TValue)) (s8 : List THit) (s9 : Int) (s10 : List TValue) (s11 : Int) (w3 : TQea) (w7 : List (List TValue)) (o : (List TValue)) (h : ref20_Add_b11 s1 s8 s9 s10 s11 w3 w7 = some o) : LpOf Try.prog rd (fbody Try.prog 22) [0, 1, 0, 0, 1, 0, 1, 1, 0, 0, 1, 0, 0, 1, 0, 1, 1, 1, 1] (ref20_Add_b11_I s1 s8 s9 s10 s11 w3 w7) (ref20_Add_b11_O s1 s8 s9 s10 s11 w3 w7 o).1 (ref20_Add_b11_O s1 s8 s9 s10 s11 w3 w7 o).2 := by
  unfold ref20_Add_b11 at h
  obtain ⟨x15, h24, h⟩ := xS h
  obtain ⟨r16, h25, h⟩ := bS h
  obtain ⟨o18, h28, h⟩ := bS h
  obtain rfl := si h
  exact (runB_arr mixed [(45, .el (THit.D x15)), (49, .ret (.tup [.d (TValue.D r16.1), .d (D.b r16.2)]))] [⟨[1, 1, 0, 0, 1, 0, 0, 1, 0, 1, 1, 0, 0, 1, 0, 0, 1, 0, 1, 1, 1, 1], [.live [1, 3, 7, 8, 9, 10, 11, 12, 52], .keep [3, 7, 12]], .normal, (ref20_Add_b12_O s1 s8 s9 s10 s11 r16.2 w3 w7 r16.1 o18).2⟩] [.live [1, 3, 7, 8, 9, 10, 11], .keep [3, 7]] (ai (elem_map THit.D h24) (ai (ref05_Get_ok x15.bind s9 r16 h25) (ai (ref20_Add_b12_ok rd s1 s8 s9 s10 s11 r16.2 w3 w7 r16.1 o18 h28) (ti)))) (by kernel_rfl)).lp
def ref20_Add_l10_I (s1 : List (List TValue)) (s8 : List THit) (s9 : Int) (w3 : TQea) (w7 : List (List TValue)) (s10 : List TValue) (s11 : Int) : St := ⟨sp 61 0 [(1, .d ((D.l (D.l TValue.D)) s1)), (3, .box 3 0), (7, .row 7), (8, .d ((D.l THit.D) s8)), (9, .d ((D.i .i64) s9)), (10, .d ((D.l TValue.D) s10)), (11, .d ((D.i .i64) s11))], [(3, .cells ((cellsA (TQea.D w3)))), (7, .row 24 1 (w7.map (D.l TValue.D)))], []⟩
def ref20_Add_l10_O (s1 : List (List TValue)) (s8 : List THit) (s9 : Int) (w3 : TQea) (w7 : List (List TValue)) (o : (List TValue)) : Ex × St := (.exit 2, ⟨sp 61 0 [(1, .d ((D.l (D.l TValue.D)) s1)), (3, .box 3 0), (7, .row 7), (8, .d ((D.l THit.D) s8)), (9, .d ((D.i .i64) s9)), (10, .d ((D.l TValue.D) o))], [(3, .cells ((cellsA (TQea.D w3)))), (7, .row 24 1 (w7.map (D.l TValue.D)))], []⟩)
theorem ref20_Add_l10_rnd (rd : Option Nat) (s1 : List (List TValue)) (s8 : List THit) (s9 : Int) (w3 : TQea) (w7 : List (List TValue)) (s10 : List TValue) (s11 : Int) (o : (List TValue × Int) ⊕ ((List TValue))) (h : ref20_Add_l10_s s1 s8 s9 w3 w7 s10 s11 = some o) : Arr Try.prog rd (fbody Try.prog 22) (0 :: [0, 1, 0, 1, 1, 0, 0, 1, 0, 0, 1, 0, 1, 1, 1, 1]) (ref20_Add_l10_I s1 s8 s9 w3 w7 s10 s11) (rR (fun s : List TValue × Int => ref20_Add_l10_I s1 s8 s9 w3 w7 s.1 s.2) (ref20_Add_l10_O s1 s8 s9 w3 w7) o).1 (rR (fun s : List TValue × Int => ref20_Add_l10_I s1 s8 s9 w3 w7 s.1 s.2) (ref20_Add_l10_O s1 s8 s9 w3 w7) o).2 := by
  unfold ref20_Add_l10_s at h
  rcases iS h with ⟨h23, h⟩ | ⟨h23, h⟩
  ·
   obtain ⟨o19, h29, h⟩ := bS h
   obtain rfl := si h
   exact runB_arr mixed [(38, .int (s8.length : Int)), (39, .bit true)] [⟨[0, 1, 0, 0, 1, 0, 1, 1, 0, 0, 1, 0, 0, 1, 0, 1, 1, 1, 1], [.live [1, 3, 7, 8, 9, 10, 11], .keep [3, 7]], .normal, (ref20_Add_b11_O s1 s8 s9 s10 s11 w3 w7 o19).2⟩] [.live [1, 3, 7, 8, 9, 10, 11], .keep [3, 7]] (ai (len_map THit.D s8) (ai h23 (ai (ref20_Add_b11_ok rd s1 s8 s9 s10 s11 w3 w7 o19 h29) (ti)))) (by kernel_rfl)
  ·
   obtain rfl := si h
   exact runB_arr mixed [(38, .int (s8.length : Int)), (39, .bit false)] [] [.live [1, 3, 7, 8, 9, 10], .keep [3, 7]] (ai (len_map THit.D s8) (ai h23 (ti))) (by kernel_rfl)
theorem ref20_Add_l10_ok (rd : Option Nat) (s1 : List (List TValue)) (s8 : List THit) (s9 : Int) (w3 : TQea) (w7 : List (List TValue)) (s10 : List TValue) (s11 : Int) (t : (List TValue)) (h : ref20_Add_l10 s1 s8 s9 w3 w7 s10 s11 = some t) : LpOf Try.prog rd (fbody Try.prog 22) [0, 1, 0, 1, 1, 0, 0, 1, 0, 0, 1, 0, 1, 1, 1, 1] (ref20_Add_l10_I s1 s8 s9 w3 w7 s10 s11) ((ref20_Add_l10_O s1 s8 s9 w3 w7) t).1 ((ref20_Add_l10_O s1 s8 s9 w3 w7) t).2 :=
  loopE_lpR (fun s : List TValue × Int => ref20_Add_l10_I s1 s8 s9 w3 w7 s.1 s.2) (ref20_Add_l10_O s1 s8 s9 w3 w7) (by kernel_rfl) (fun t => isN_ne (by rfl)) (fun s o h => ref20_Add_l10_rnd rd s1 s8 s9 w3 w7 s.1 s.2 o h) (s := (s10, s11)) (t := t) h
def ref20_Add_b8_I (s1 : List (List TValue)) (s8 : List THit) (s9 : Int) (w3 : TQea) (w7 : List (List TValue)) : St := ⟨sp 61 0 [(1, .d ((D.l (D.l TValue.D)) s1)), (3, .box 3 0), (7, .row 7), (8, .d ((D.l THit.D) s8)), (9, .d ((D.i .i64) s9))], [(3, .cells ((cellsA (TQea.D w3)))), (7, .row 24 1 (w7.map (D.l TValue.D)))], []⟩
def ref20_Add_b8_O (s1 : List (List TValue)) (s8 : List THit) (s9 : Int) (w3 : TQea) (w7 : List (List TValue)) (o : (List (List TValue))) : Ex × St := (.normal, ⟨sp 61 0 [(1, .d ((D.l (D.l TValue.D)) s1)), (3, .box 3 0), (7, .row 7), (8, .d ((D.l THit.D) s8)), (9, .d ((D.i .i64) s9))], [(3, .cells ((cellsA (TQea.D w3)))), (7, .row 24 1 (o.map (D.l TValue.D)))], []⟩)
theorem ref20_Add_b8_ok (rd : Option Nat) (s1 : List (List TValue)) (s8 : List THit) (s9 : Int) (w3 : TQea) (w7 : List (List TValue)) (o : (List (List TValue))) (h : ref20_Add_b8 s1 s8 s9 w3 w7 = some o) : LpOf Try.prog rd (fbody Try.prog 22) [0, 1, 0, 0, 1, 0, 1, 1, 1, 1] (ref20_Add_b8_I s1 s8 s9 w3 w7) (ref20_Add_b8_O s1 s8 s9 w3 w7 o).1 (ref20_Add_b8_O s1 s8 s9 w3 w7 o).2 := by
  unfold ref20_Add_b8 at h
  obtain ⟨o14, h22, h⟩ := bS h
  obtain ⟨o20, h30, h⟩ := bS h
  obtain ⟨h31, h⟩ := cS h
  obtain rfl := si h
  exact (runB_arr mixed [(30, .int (s1.length : Int)), (59, .sl ((w7 ++ [o20]).map (D.l TValue.D)))] [⟨[1, 0, 1, 0, 0, 1, 0, 0, 1, 0, 1, 1, 1, 1], [.live [1, 3, 7, 8, 9, 10, 31], .keep [3, 7]], .normal, (ref20_Add_b9_O s1 s8 s9 (decide (s9 < (s1.length : Int))) w3 w7 o14).2⟩, ⟨[0, 1, 0, 1, 1, 0, 0, 1, 0, 0, 1, 0, 1, 1, 1, 1], [.live [1, 3, 7, 8, 9, 10, 11], .keep [3, 7]], .exit 2, (ref20_Add_l10_O s1 s8 s9 w3 w7 o20).2⟩] [.live [1, 3, 7, 8, 9], .keep [3, 59], .ren 59 7, .sort] (ai (len_map (D.l TValue.D) s1) (ai (ref20_Add_b9_ok rd s1 s8 s9 (decide (s9 < (s1.length : Int))) w3 w7 o14 h22) (ai (ref20_Add_l10_ok rd s1 s8 s9 w3 w7 o14 0 o20 h30) (ai (nc_ok (D.l TValue.D) [o20]) (ai (nc_ok (D.l TValue.D) [o20]) (ai (fit_map (D.l TValue.D) h31) (ai (app_map (D.l TValue.D) w7 [o20]) (ti)))))))) (by kernel_rfl)).lp
def ref20_Add_l2_I (s1 : List (List TValue)) (s8 : List THit) (w3 : TQea) (s9 : Int) (w7 : List (List TValue)) : St := ⟨sp 61 0 [(1, .d ((D.l (D.l TValue.D)) s1)), (3, .box 3 0), (7, .row 7), (8, .d ((D.l THit.D) s8)), (9, .d ((D.i .i64) s9))], [(3, .cells ((cellsA (TQea.D w3)))), (7, .row 24 1 (w7.map (D.l TValue.D)))], []⟩
def ref20_Add_l2_O (s1 : List (List TValue)) (s8 : List THit) (w3 : TQea) (o : (List (List TValue))) : Ex × St := (.exit 0, ⟨sp 61 0 [(7, .row 7)], [(7, .row 24 1 (o.map (D.l TValue.D)))], []⟩)
theorem ref20_Add_l2_rnd (rd : Option Nat) (s1 : List (List TValue)) (s8 : List THit) (w3 : TQea) (s9 : Int) (w7 : List (List TValue)) (o : (Int × List (List TValue)) ⊕ ((List (List TValue)))) (h : ref20_Add_l2_s s1 s8 w3 s9 w7 = some o) : Arr Try.prog rd (fbody Try.prog 22) (0 :: [0, 1, 0, 1, 1, 1, 1]) (ref20_Add_l2_I s1 s8 w3 s9 w7) (rR (fun s : Int × List (List TValue) => ref20_Add_l2_I s1 s8 w3 s.1 s.2) (ref20_Add_l2_O s1 s8 w3) o).1 (rR (fun s : Int × List (List TValue) => ref20_Add_l2_I s1 s8 w3 s.1 s.2) (ref20_Add_l2_O s1 s8 w3) o).2 := by
  unfold ref20_Add_l2_s at h
  rcases iS h with ⟨h19, h⟩ | ⟨h19, h⟩
  ·
   obtain ⟨o21, h32, h⟩ := bS h
   obtain rfl := si h
   exact runB_arr mixed [(24, .int (w3.quants.length : Int)), (25, .bit true)] [⟨[0, 1, 0, 0, 1, 0, 1, 1, 1, 1], [.live [1, 3, 7, 8, 9], .keep [3, 7]], .normal, (ref20_Add_b8_O s1 s8 s9 w3 w7 o21).2⟩] [.live [1, 3, 7, 8, 9], .keep [3, 7]] (ai (len_map TQuant.D w3.quants) (ai h19 (ai (ref20_Add_b8_ok rd s1 s8 s9 w3 w7 o21 h32) (ti)))) (by kernel_rfl)
  ·
   obtain rfl := si h
   exact runB_arr mixed [(24, .int (w3.quants.length : Int)), (25, .bit false)] [] [.live [7], .keep [7]] (ai (len_map TQuant.D w3.quants) (ai h19 (ti))) (by kernel_rfl)
theorem ref20_Add_l2_ok (rd : Option Nat) (s1 : List (List TValue)) (s8 : List THit) (w3 : TQea) (s9 : Int) (w7 : List (List TValue)) (t : (List (List TValue))) (h : ref20_Add_l2 s1 s8 w3 s9 w7 = some t) : LpOf Try.prog rd (fbody Try.prog 22) [0, 1, 0, 1, 1, 1, 1] (ref20_Add_l2_I s1 s8 w3 s9 w7) ((ref20_Add_l2_O s1 s8 w3) t).1 ((ref20_Add_l2_O s1 s8 w3) t).2 :=
  loopE_lpR (fun s : Int × List (List TValue) => ref20_Add_l2_I s1 s8 w3 s.1 s.2) (ref20_Add_l2_O s1 s8 w3) (by kernel_rfl) (fun t => isN_ne (by rfl)) (fun s o h => ref20_Add_l2_rnd rd s1 s8 w3 s.1 s.2 o h) (s := (s9, w7)) (t := t) h
theorem ref20_Add_ok (a0 : TQea) (a1 : List (List TValue)) (a2 : TEvent) (r : List (List TValue)) (h : ref20_Add a0 a1 a2 = some r) : ACall Try.prog 22 [.d (TQea.D a0), .d ((D.l (D.l TValue.D)) a1), .d (TEvent.D a2)] [] (.d ((D.l (D.l TValue.D)) r)) [] := by
  unfold ref20_Add at h
  obtain ⟨r1, h1, h⟩ := bS h
  obtain ⟨o3, h4, h⟩ := bS h
  obtain ⟨o22, h33, h⟩ := bS h
  obtain rfl := si h
  exact runF_call mixed [(17, .ret (.d (D.b r1)))] [⟨[1, 0, 1, 1, 1], [.live [1, 3, 5, 7, 8, 17], .keep [3, 5]], .normal, (ref20_Add_b1_O a1 r1 a0 a2 o3).2⟩, ⟨[0, 1, 0, 1, 1, 1, 1], [.live [1, 3, 7, 8, 9], .keep [3], .nil 7 7 24 1, .sort], .exit 0, (ref20_Add_l2_O a1 o3 a0 o22).2⟩] [] (ai (ref08_Right_ok a0.decls a2 r1 h1) (ai (ref20_Add_b1_ok none a1 r1 a0 a2 o3 h4) (ai (ref20_Add_l2_ok none a1 o3 a0 0 ([] : List (List TValue)) o22 h33) (ti)))) (by kernel_rfl)
def ref20_Of_l1_I (s1 : List TEvent) (w2 : TQea) (s5 : List (List TValue)) (s6 : Int) : St := ⟨sp 25 0 [(1, .d ((D.l TEvent.D) s1)), (2, .box 2 0), (5, .d ((D.l (D.l TValue.D)) s5)), (6, .d ((D.i .i64) s6))], [(2, .cells ((cellsA (TQea.D w2))))], []⟩
def ref20_Of_l1_O (s1 : List TEvent) (w2 : TQea) (o : (List (List TValue))) : Ex × St := (.exit 0, ⟨sp 25 0 [(5, .d ((D.l (D.l TValue.D)) o))], [], []⟩)
theorem ref20_Of_l1_rnd (rd : Option Nat) (s1 : List TEvent) (w2 : TQea) (s5 : List (List TValue)) (s6 : Int) (o : (List (List TValue) × Int) ⊕ ((List (List TValue)))) (h : ref20_Of_l1_s s1 w2 s5 s6 = some o) : Arr Try.prog rd (fbody Try.prog 20) (0 :: [0, 1, 0, 1, 1]) (ref20_Of_l1_I s1 w2 s5 s6) (rR (fun s : List (List TValue) × Int => ref20_Of_l1_I s1 w2 s.1 s.2) (ref20_Of_l1_O s1 w2) o).1 (rR (fun s : List (List TValue) × Int => ref20_Of_l1_I s1 w2 s.1 s.2) (ref20_Of_l1_O s1 w2) o).2 := by
  unfold ref20_Of_l1_s at h
  rcases iS h with ⟨h5, h⟩ | ⟨h5, h⟩
  ·
   obtain ⟨x3, h6, h⟩ := xS h
   obtain ⟨r4, h7, h⟩ := bS h
   obtain rfl := si h
   exact runB_arr mixed [(13, .int (s1.length : Int)), (14, .bit true), (21, .el (TEvent.D x3)), (23, .ret (.d ((D.l (D.l TValue.D)) r4)))] [] [.live [1, 2, 5, 6], .keep [2]] (ai (len_map TEvent.D s1) (ai h5 (ai (elem_map TEvent.D h6) (ai (ref20_Add_ok w2 s5 x3 r4 h7) (ti))))) (by kernel_rfl)
  ·
   obtain rfl := si h
   exact runB_arr mixed [(13, .int (s1.length : Int)), (14, .bit false)] [] [.live [5], .keep []] (ai (len_map TEvent.D s1) (ai h5 (ti))) (by kernel_rfl)
theorem ref20_Of_l1_ok (rd : Option Nat) (s1 : List TEvent) (w2 : TQea) (s5 : List (List TValue)) (s6 : Int) (t : (List (List TValue))) (h : ref20_Of_l1 s1 w2 s5 s6 = some t) : LpOf Try.prog rd (fbody Try.prog 20) [0, 1, 0, 1, 1] (ref20_Of_l1_I s1 w2 s5 s6) ((ref20_Of_l1_O s1 w2) t).1 ((ref20_Of_l1_O s1 w2) t).2 :=
  loopE_lpR (fun s : List (List TValue) × Int => ref20_Of_l1_I s1 w2 s.1 s.2) (ref20_Of_l1_O s1 w2) (by kernel_rfl) (fun t => isN_ne (by rfl)) (fun s o h => ref20_Of_l1_rnd rd s1 w2 s.1 s.2 o h) (s := (s5, s6)) (t := t) h
theorem ref20_Of_ok (a0 : TQea) (a1 : List TEvent) (r : List (List TValue)) (h : ref20_Of a0 a1 = some r) : ACall Try.prog 20 [.d (TQea.D a0), .d ((D.l TEvent.D) a1)] [] (.d ((D.l (D.l TValue.D)) r)) [] := by
  unfold ref20_Of at h
  obtain ⟨h1, h⟩ := cS h
  obtain ⟨o5, h8, h⟩ := bS h
  obtain rfl := si h
  exact runF_call mixed [(9, .int (a0.quants.length : Int)), (10, .sl ((List.replicate (a0.quants.length : Int).toNat ([] : List TValue)).map (D.l TValue.D)))] [⟨[0, 1, 0, 1, 1], [.frz 10, .look 5, .live [1, 2, 5, 6], .keep [2]], .exit 0, (ref20_Of_l1_O a1 a0 o5).2⟩] [] (ai (len_map TQuant.D a0.quants) (ai h1.1 (ai (Int.le_refl (a0.quants.length : Int)) (ai (Int.le_refl (a0.quants.length : Int)) (ai (mk_fit (D.l TValue.D) ([] : List TValue) h1.2) (ai (mk_app (D.l TValue.D) (a0.quants.length : Int) ([] : List TValue)) (ai (ref20_Of_l1_ok none a1 a0 (List.replicate (a0.quants.length : Int).toNat ([] : List TValue)) 0 o5 h8) (ti)))))))) (by kernel_rfl)
def ref20_Same_l2_I (s0 : List (List TValue)) (s1 : List (List TValue)) (s5 : Int) (s6 : Int) : St := ⟨sp 53 0 [(0, .d ((D.l (D.l TValue.D)) s0)), (1, .d ((D.l (D.l TValue.D)) s1)), (5, .d ((D.i .i64) s5)), (6, .d ((D.i .i64) s6))], [], []⟩
def ref20_Same_l2_O (s0 : List (List TValue)) (s1 : List (List TValue)) (s5 : Int) (o : Unit ⊕ Unit) : Ex × St := match o with
  | .inl o => (.exit 2, ⟨sp 53 0 [(0, .d ((D.l (D.l TValue.D)) s0)), (1, .d ((D.l (D.l TValue.D)) s1)), (5, .d ((D.i .i64) s5))], [], []⟩)
  | .inr o => (.ret, ⟨sp 53 0 [(4, .d (D.b false))], [], []⟩)
theorem ref20_Same_l2_rnd (rd : Option Nat) (s0 : List (List TValue)) (s1 : List (List TValue)) (s5 : Int) (s6 : Int) (o : (Int) ⊕ (Unit ⊕ Unit)) (h : ref20_Same_l2_s s0 s1 s5 s6 = some o) : Arr Try.prog rd (fbody Try.prog 14) (0 :: [0, 1, 1, 0, 0, 1, 0, 0, 1, 0, 1, 1]) (ref20_Same_l2_I s0 s1 s5 s6) (rR (fun s : Int => ref20_Same_l2_I s0 s1 s5 s) (ref20_Same_l2_O s0 s1 s5) o).1 (rR (fun s : Int => ref20_Same_l2_I s0 s1 s5 s) (ref20_Same_l2_O s0 s1 s5) o).2 := by
  unfold ref20_Same_l2_s at h
  obtain ⟨x3, h6, h⟩ := xS h
  rcases iS h with ⟨h7, h⟩ | ⟨h7, h⟩
  ·
   obtain ⟨x4, h8, h⟩ := xS h
   obtain ⟨x5, h9, h⟩ := xS h
   obtain ⟨x6, h10, h⟩ := xS h
   obtain ⟨x7, h11, h⟩ := xS h
   rcases iS h with ⟨h12, h⟩ | ⟨h12, h⟩
   ·
    obtain rfl := si h
    exact runB_arr mixed [(32, .el ((D.l TValue.D) x3)), (34, .int (x3.length : Int)), (35, .bit true), (40, .el ((D.l TValue.D) x4)), (43, .el (TValue.D x5)), (47, .el ((D.l TValue.D) x6)), (50, .el (TValue.D x7)), (52, .bit true)] [] [.live [4], .keep []] (ai (elem_map (D.l TValue.D) h6) (ai (len_map TValue.D x3) (ai h7 (ai (elem_map (D.l TValue.D) h8) (ai (elem_map TValue.D h9) (ai (elem_map (D.l TValue.D) h10) (ai (elem_map TValue.D h11) (ai h12 (ti))))))))) (by kernel_rfl)
   ·
    obtain rfl := si h
    exact runB_arr mixed [(32, .el ((D.l TValue.D) x3)), (34, .int (x3.length : Int)), (35, .bit true), (40, .el ((D.l TValue.D) x4)), (43, .el (TValue.D x5)), (47, .el ((D.l TValue.D) x6)), (50, .el (TValue.D x7)), (52, .bit false)] [] [.live [0, 1, 5, 6], .keep []] (ai (elem_map (D.l TValue.D) h6) (ai (len_map TValue.D x3) (ai h7 (ai (elem_map (D.l TValue.D) h8) (ai (elem_map TValue.D h9) (ai (elem_map (D.l TValue.D) h10) (ai (elem_map TValue.D h11) (ai h12 (ti))))))))) (by kernel_rfl)
  ·
   obtain rfl := si h
   exact runB_arr mixed [(32, .el ((D.l TValue.D) x3)), (34, .int (x3.length : Int)), (35, .bit false)] [] [.live [0, 1, 5], .keep []] (ai (elem_map (D.l TValue.D) h6) (ai (len_map TValue.D x3) (ai h7 (ti)))) (by kernel_rfl)
theorem ref20_Same_l2_ok (rd : Option Nat) (s0 : List (List TValue)) (s1 : List (List TValue)) (s5 : Int) (s6 : Int) (t : Unit ⊕ Unit) (h : ref20_Same_l2 s0 s1 s5 s6 = some t) : LpOf Try.prog rd (fbody Try.prog 14) [0, 1, 1, 0, 0, 1, 0, 0, 1, 0, 1, 1] (ref20_Same_l2_I s0 s1 s5 s6) ((ref20_Same_l2_O s0 s1 s5) t).1 ((ref20_Same_l2_O s0 s1 s5) t).2 :=
  loopE_lpR (fun s : Int => ref20_Same_l2_I s0 s1 s5 s) (ref20_Same_l2_O s0 s1 s5) (by kernel_rfl) (fun t => isN_ne (by rcases t with (_ | _) <;> rfl)) (fun s o h => ref20_Same_l2_rnd rd s0 s1 s5 s o h) (s := s6) (t := t) h
def ref20_Same_l1_I (s0 : List (List TValue)) (s1 : List (List TValue)) (s5 : Int) : St := ⟨sp 53 0 [(0, .d ((D.l (D.l TValue.D)) s0)), (1, .d ((D.l (D.l TValue.D)) s1)), (5, .d ((D.i .i64) s5))], [], []⟩
def ref20_Same_l1_O (s0 : List (List TValue)) (s1 : List (List TValue)) (o : Unit ⊕ Unit) : Ex × St := match o with
  | .inl o => (.exit 0, ⟨sp 53 0 [], [], []⟩)
  | .inr o => (.ret, ⟨sp 53 0 [(4, .d (D.b false))], [], []⟩)
theorem ref20_Same_l1_rnd (rd : Option Nat) (s0 : List (List TValue)) (s1 : List (List TValue)) (s5 : Int) (o : (Int) ⊕ (Unit ⊕ Unit)) (h : ref20_Same_l1_s s0 s1 s5 = some o) : Arr Try.prog rd (fbody Try.prog 14) (0 :: [0, 1, 0, 1, 1]) (ref20_Same_l1_I s0 s1 s5) (rR (fun s : Int => ref20_Same_l1_I s0 s1 s) (ref20_Same_l1_O s0 s1) o).1 (rR (fun s : Int => ref20_Same_l1_I s0 s1 s) (ref20_Same_l1_O s0 s1) o).2 := by
  unfold ref20_Same_l1_s at h
  rcases iS h with ⟨h2, h⟩ | ⟨h2, h⟩
  ·
   obtain ⟨x1, h3, h⟩ := xS h
   obtain ⟨x2, h4, h⟩ := xS h
   rcases iS h with ⟨h5, h⟩ | ⟨h5, h⟩
   ·
    obtain rfl := si h
    exact runB_arr mixed [(14, .int (s0.length : Int)), (15, .bit true), (20, .el ((D.l TValue.D) x1)), (22, .int (x1.length : Int)), (25, .el ((D.l TValue.D) x2)), (27, .int (x2.length : Int)), (28, .bit true)] [] [.live [4], .keep []] (ai (len_map (D.l TValue.D) s0) (ai h2 (ai (elem_map (D.l TValue.D) h3) (ai (len_map TValue.D x1) (ai (elem_map (D.l TValue.D) h4) (ai (len_map TValue.D x2) (ai h5 (ti)))))))) (by kernel_rfl)
   ·
    obtain ⟨o8, h13, h⟩ := bS h
    replace h := sumE_some h
    rcases h with ⟨o9, rfl, h⟩ | ⟨o10, rfl, h⟩
    ·
     obtain rfl := si h
     exact runB_arr mixed [(14, .int (s0.length : Int)), (15, .bit true), (20, .el ((D.l TValue.D) x1)), (22, .int (x1.length : Int)), (25, .el ((D.l TValue.D) x2)), (27, .int (x2.length : Int)), (28, .bit false)] [⟨[0, 1, 1, 0, 0, 1, 0, 0, 1, 0, 1, 1], [.live [0, 1, 5, 6], .keep []], .exit 2, (ref20_Same_l2_O s0 s1 s5 (Sum.inl o9)).2⟩] [.live [0, 1, 5], .keep []] (ai (len_map (D.l TValue.D) s0) (ai h2 (ai (elem_map (D.l TValue.D) h3) (ai (len_map TValue.D x1) (ai (elem_map (D.l TValue.D) h4) (ai (len_map TValue.D x2) (ai h5 (ai (ref20_Same_l2_ok rd s0 s1 s5 0 (Sum.inl o9) h13) (ti))))))))) (by kernel_rfl)
    ·
     obtain rfl := si h
     exact runB_arr mixed [(14, .int (s0.length : Int)), (15, .bit true), (20, .el ((D.l TValue.D) x1)), (22, .int (x1.length : Int)), (25, .el ((D.l TValue.D) x2)), (27, .int (x2.length : Int)), (28, .bit false)] [⟨[0, 1, 1, 0, 0, 1, 0, 0, 1, 0, 1, 1], [.live [0, 1, 5, 6], .keep []], .ret, (ref20_Same_l2_O s0 s1 s5 (Sum.inr o10)).2⟩] [.live [4], .keep []] (ai (len_map (D.l TValue.D) s0) (ai h2 (ai (elem_map (D.l TValue.D) h3) (ai (len_map TValue.D x1) (ai (elem_map (D.l TValue.D) h4) (ai (len_map TValue.D x2) (ai h5 (ai (ref20_Same_l2_ok rd s0 s1 s5 0 (Sum.inr o10) h13) (ti))))))))) (by kernel_rfl)
  ·
   obtain rfl := si h
   exact runB_arr mixed [(14, .int (s0.length : Int)), (15, .bit false)] [] [.live [], .keep []] (ai (len_map (D.l TValue.D) s0) (ai h2 (ti))) (by kernel_rfl)
theorem ref20_Same_l1_ok (rd : Option Nat) (s0 : List (List TValue)) (s1 : List (List TValue)) (s5 : Int) (t : Unit ⊕ Unit) (h : ref20_Same_l1 s0 s1 s5 = some t) : LpOf Try.prog rd (fbody Try.prog 14) [0, 1, 0, 1, 1] (ref20_Same_l1_I s0 s1 s5) ((ref20_Same_l1_O s0 s1) t).1 ((ref20_Same_l1_O s0 s1) t).2 :=
  loopE_lpR (fun s : Int => ref20_Same_l1_I s0 s1 s) (ref20_Same_l1_O s0 s1) (by kernel_rfl) (fun t => isN_ne (by rcases t with (_ | _) <;> rfl)) (fun s o h => ref20_Same_l1_rnd rd s0 s1 s o h) (s := s5) (t := t) h
theorem ref20_Same_ok (a0 : List (List TValue)) (a1 : List (List TValue)) (r : Bool) (h : ref20_Same a0 a1 = some r) : ACall Try.prog 14 [.d ((D.l (D.l TValue.D)) a0), .d ((D.l (D.l TValue.D)) a1)] [] (.d (D.b r)) [] := by
  unfold ref20_Same at h
  rcases iS h with ⟨h1, h⟩ | ⟨h1, h⟩
  ·
   obtain rfl := si h
   exact runF_call mixed [(8, .int (a0.length : Int)), (10, .int (a1.length : Int)), (11, .bit true)] [] [] (ai (len_map (D.l TValue.D) a0) (ai (len_map (D.l TValue.D) a1) (ai h1 (ti)))) (by kernel_rfl)
  ·
   obtain ⟨o11, h14, h⟩ := bS h
   replace h := sumE_some h
   rcases h with ⟨o12, rfl, h⟩ | ⟨o13, rfl, h⟩
   ·
    obtain rfl := si h
    exact runF_call mixed [(8, .int (a0.length : Int)), (10, .int (a1.length : Int)), (11, .bit false)] [⟨[0, 1, 0, 1, 1], [.live [0, 1, 5], .keep []], .exit 0, (ref20_Same_l1_O a0 a1 (Sum.inl o12)).2⟩] [] (ai (len_map (D.l TValue.D) a0) (ai (len_map (D.l TValue.D) a1) (ai h1 (ai (ref20_Same_l1_ok none a0 a1 0 (Sum.inl o12) h14) (ti))))) (by kernel_rfl)
   ·
    obtain rfl := si h
    exact runF_call mixed [(8, .int (a0.length : Int)), (10, .int (a1.length : Int)), (11, .bit false)] [⟨[0, 1, 0, 1, 1], [.live [0, 1, 5], .keep []], .ret, (ref20_Same_l1_O a0 a1 (Sum.inr o13)).2⟩] [] (ai (len_map (D.l TValue.D) a0) (ai (len_map (D.l TValue.D) a1) (ai h1 (ai (ref20_Same_l1_ok none a0 a1 0 (Sum.inr o13) h14) (ti))))) (by kernel_rfl)
theorem domain_Fresh_ok (a0 : TQea) (a1 : Int) (a2 : List TValue) (r : Bool) (h : domain_Fresh a0 a1 a2 = some r) : ACall Try.prog 23 [.d (TQea.D a0), .d ((D.i .i64) a1), .d ((D.l TValue.D) a2)] [] (.d (D.b r)) [] := by
  unfold domain_Fresh at h
  obtain ⟨x1, h1, h⟩ := xS h
  rcases iS h with ⟨h2, h⟩ | ⟨h2, h⟩
  ·
   obtain rfl := si h
   exact runF_call mixed [(10, .el (TQuant.D x1)), (14, .bit true)] [] [] (ai (elem_map TQuant.D h1) (ai h2 (ti))) (by kernel_rfl)
  ·
   obtain rfl := si h
   exact runF_call mixed [(10, .el (TQuant.D x1)), (14, .bit false), (16, .int (a2.length : Int))] [] [] (ai (elem_map TQuant.D h1) (ai h2 (ai (len_map TValue.D a2) (ti)))) (by kernel_rfl)
theorem ref20_Fresh_ok (a0 : Int) (a1 : List TValue) (r : Bool) (h : ref20_Fresh a0 a1 = some r) : ACall Try.prog 24 [.d ((D.i .i64) a0), .d ((D.l TValue.D) a1)] [] (.d (D.b r)) [] := by
  unfold ref20_Fresh at h
  rcases iS h with ⟨h1, h⟩ | ⟨h1, h⟩
  ·
   obtain rfl := si h
   exact runF_call mixed [(7, .bit true)] [] [] (ai h1 (ti)) (by kernel_rfl)
  ·
   obtain rfl := si h
   exact runF_call mixed [(7, .bit false), (9, .int (a1.length : Int))] [] [] (ai h1 (ai (len_map TValue.D a1) (ti))) (by kernel_rfl)
def law20_DomainOf_l1_I (s1 : List TEvent) (w2 : TQea) (s5 : List (List TValue)) (s6 : List (List TValue)) (s7 : Int) : St := ⟨sp 75 0 [(1, .d ((D.l TEvent.D) s1)), (2, .box 2 0), (5, .d ((D.l (D.l TValue.D)) s5)), (6, .d ((D.l (D.l TValue.D)) s6)), (7, .d ((D.i .i64) s7))], [(2, .cells ((cellsA (TQea.D w2))))], []⟩
def law20_DomainOf_l1_O (s1 : List TEvent) (w2 : TQea) (o : (List (List TValue)) ⊕ Unit) : Ex × St := match o with
  | .inl o => (.exit 0, ⟨sp 75 0 [(1, .d ((D.l TEvent.D) s1)), (2, .box 2 0), (6, .d ((D.l (D.l TValue.D)) o))], [(2, .cells ((cellsA (TQea.D w2))))], []⟩)
  | .inr o => (.ret, ⟨sp 75 0 [(4, .d (D.b false))], [], []⟩)
theorem law20_DomainOf_l1_rnd (rd : Option Nat) (s1 : List TEvent) (w2 : TQea) (s5 : List (List TValue)) (s6 : List (List TValue)) (s7 : Int) (o : (List (List TValue) × List (List TValue) × Int) ⊕ ((List (List TValue)) ⊕ Unit)) (h : law20_DomainOf_l1_s s1 w2 s5 s6 s7 = some o) : Arr Try.prog rd (fbody Try.prog 5) (0 :: [0, 1, 0, 1, 1, 1, 1]) (law20_DomainOf_l1_I s1 w2 s5 s6 s7) (rR (fun s : List (List TValue) × List (List TValue) × Int => law20_DomainOf_l1_I s1 w2 s.1 s.2.1 s.2.2) (law20_DomainOf_l1_O s1 w2) o).1 (rR (fun s : List (List TValue) × List (List TValue) × Int => law20_DomainOf_l1_I s1 w2 s.1 s.2.1 s.2.2) (law20_DomainOf_l1_O s1 w2) o).2 := by
  unfold law20_DomainOf_l1_s at h
  rcases iS h with ⟨h6, h⟩ | ⟨h6, h⟩
  ·
   obtain ⟨x5, h7, h⟩ := xS h
   obtain ⟨r6, h8, h⟩ := bS h
   obtain ⟨x7, h9, h⟩ := xS h
   obtain ⟨r8, h10, h⟩ := bS h
   obtain ⟨r9, h11, h⟩ := bS h
   rcases iS h with ⟨h12, h⟩ | ⟨h12, h⟩
   ·
    obtain rfl := si h
    exact runB_arr mixed [(20, .int (s1.length : Int)), (21, .bit true), (28, .el (TEvent.D x5)), (30, .ret (.d ((D.l (D.l TValue.D)) r6))), (35, .el (TEvent.D x7)), (37, .ret (.d ((D.l (D.l TValue.D)) r8))), (40, .ret (.d (D.b r9))), (41, .bit true)] [] [.live [4], .keep []] (ai (len_map TEvent.D s1) (ai h6 (ai (elem_map TEvent.D h7) (ai (domain_Add_ok w2 s5 x5 r6 h8) (ai (elem_map TEvent.D h9) (ai (ref20_Add_ok w2 s6 x7 r8 h10) (ai (ref20_Same_ok r6 r8 r9 h11) (ai h12 (ti))))))))) (by kernel_rfl)
   ·
    obtain rfl := si h
    exact runB_arr mixed [(20, .int (s1.length : Int)), (21, .bit true), (28, .el (TEvent.D x5)), (30, .ret (.d ((D.l (D.l TValue.D)) r6))), (35, .el (TEvent.D x7)), (37, .ret (.d ((D.l (D.l TValue.D)) r8))), (40, .ret (.d (D.b r9))), (41, .bit false)] [] [.live [1, 2, 5, 6, 7], .keep [2]] (ai (len_map TEvent.D s1) (ai h6 (ai (elem_map TEvent.D h7) (ai (domain_Add_ok w2 s5 x5 r6 h8) (ai (elem_map TEvent.D h9) (ai (ref20_Add_ok w2 s6 x7 r8 h10) (ai (ref20_Same_ok r6 r8 r9 h11) (ai h12 (ti))))))))) (by kernel_rfl)
  ·
   obtain rfl := si h
   exact runB_arr mixed [(20, .int (s1.length : Int)), (21, .bit false)] [] [.live [1, 2, 6], .keep [2]] (ai (len_map TEvent.D s1) (ai h6 (ti))) (by kernel_rfl)
theorem law20_DomainOf_l1_ok (rd : Option Nat) (s1 : List TEvent) (w2 : TQea) (s5 : List (List TValue)) (s6 : List (List TValue)) (s7 : Int) (t : (List (List TValue)) ⊕ Unit) (h : law20_DomainOf_l1 s1 w2 s5 s6 s7 = some t) : LpOf Try.prog rd (fbody Try.prog 5) [0, 1, 0, 1, 1, 1, 1] (law20_DomainOf_l1_I s1 w2 s5 s6 s7) ((law20_DomainOf_l1_O s1 w2) t).1 ((law20_DomainOf_l1_O s1 w2) t).2 :=
  loopE_lpR (fun s : List (List TValue) × List (List TValue) × Int => law20_DomainOf_l1_I s1 w2 s.1 s.2.1 s.2.2) (law20_DomainOf_l1_O s1 w2) (by kernel_rfl) (fun t => isN_ne (by rcases t with (_ | _) <;> rfl)) (fun s o h => law20_DomainOf_l1_rnd rd s1 w2 s.1 s.2.1 s.2.2 o h) (s := (s5, s6, s7)) (t := t) h
def law20_DomainOf_l2_I (s1 : List TEvent) (s6 : List (List TValue)) (w2 : TQea) (s8 : Int) : St := ⟨sp 75 0 [(1, .d ((D.l TEvent.D) s1)), (2, .box 2 0), (6, .d ((D.l (D.l TValue.D)) s6)), (8, .d ((D.i .i64) s8))], [(2, .cells ((cellsA (TQea.D w2))))], []⟩
def law20_DomainOf_l2_O (s1 : List TEvent) (s6 : List (List TValue)) (w2 : TQea) (o : Unit ⊕ Unit) : Ex × St := match o with
  | .inl o => (.exit 2, ⟨sp 75 0 [(1, .d ((D.l TEvent.D) s1)), (2, .box 2 0), (6, .d ((D.l (D.l TValue.D)) s6))], [(2, .cells ((cellsA (TQea.D w2))))], []⟩)
  | .inr o => (.ret, ⟨sp 75 0 [(4, .d (D.b false))], [], []⟩)
theorem law20_DomainOf_l2_rnd (rd : Option Nat) (s1 : List TEvent) (s6 : List (List TValue)) (w2 : TQea) (s8 : Int) (o : (Int) ⊕ (Unit ⊕ Unit)) (h : law20_DomainOf_l2_s s1 s6 w2 s8 = some o) : Arr Try.prog rd (fbody Try.prog 5) (0 :: [0, 1, 0, 1, 1, 1, 1, 1]) (law20_DomainOf_l2_I s1 s6 w2 s8) (rR (fun s : Int => law20_DomainOf_l2_I s1 s6 w2 s) (law20_DomainOf_l2_O s1 s6 w2) o).1 (rR (fun s : Int => law20_DomainOf_l2_I s1 s6 w2 s) (law20_DomainOf_l2_O s1 s6 w2) o).2 := by
  unfold law20_DomainOf_l2_s at h
  rcases iS h with ⟨h14, h⟩ | ⟨h14, h⟩
  ·
   obtain ⟨x13, h15, h⟩ := xS h
   obtain ⟨r14, h16, h⟩ := bS h
   obtain ⟨x15, h17, h⟩ := xS h
   obtain ⟨x16, h18, h⟩ := xS h
   obtain ⟨r17, h19, h⟩ := bS h
   rcases iS h with ⟨h20, h⟩ | ⟨h20, h⟩
   ·
    obtain rfl := si h
    exact runB_arr mixed [(44, .int (s6.length : Int)), (45, .bit true), (52, .el ((D.l TValue.D) x13)), (54, .ret (.d (D.b r14))), (58, .el (TQuant.D x15)), (63, .el ((D.l TValue.D) x16)), (65, .ret (.d (D.b r17))), (66, .bit true)] [] [.live [4], .keep []] (ai (len_map (D.l TValue.D) s6) (ai h14 (ai (elem_map (D.l TValue.D) h15) (ai (domain_Fresh_ok w2 s8 x13 r14 h16) (ai (elem_map TQuant.D h17) (ai (elem_map (D.l TValue.D) h18) (ai (ref20_Fresh_ok x15.type x16 r17 h19) (ai h20 (ti))))))))) (by kernel_rfl)
   ·
    obtain rfl := si h
    exact runB_arr mixed [(44, .int (s6.length : Int)), (45, .bit true), (52, .el ((D.l TValue.D) x13)), (54, .ret (.d (D.b r14))), (58, .el (TQuant.D x15)), (63, .el ((D.l TValue.D) x16)), (65, .ret (.d (D.b r17))), (66, .bit false)] [] [.live [1, 2, 6, 8], .keep [2]] (ai (len_map (D.l TValue.D) s6) (ai h14 (ai (elem_map (D.l TValue.D) h15) (ai (domain_Fresh_ok w2 s8 x13 r14 h16) (ai (elem_map TQuant.D h17) (ai (elem_map (D.l TValue.D) h18) (ai (ref20_Fresh_ok x15.type x16 r17 h19) (ai h20 (ti))))))))) (by kernel_rfl)
  ·
   obtain rfl := si h
   exact runB_arr mixed [(44, .int (s6.length : Int)), (45, .bit false)] [] [.live [1, 2, 6], .keep [2]] (ai (len_map (D.l TValue.D) s6) (ai h14 (ti))) (by kernel_rfl)
theorem law20_DomainOf_l2_ok (rd : Option Nat) (s1 : List TEvent) (s6 : List (List TValue)) (w2 : TQea) (s8 : Int) (t : Unit ⊕ Unit) (h : law20_DomainOf_l2 s1 s6 w2 s8 = some t) : LpOf Try.prog rd (fbody Try.prog 5) [0, 1, 0, 1, 1, 1, 1, 1] (law20_DomainOf_l2_I s1 s6 w2 s8) ((law20_DomainOf_l2_O s1 s6 w2) t).1 ((law20_DomainOf_l2_O s1 s6 w2) t).2 :=
  loopE_lpR (fun s : Int => law20_DomainOf_l2_I s1 s6 w2 s) (law20_DomainOf_l2_O s1 s6 w2) (by kernel_rfl) (fun t => isN_ne (by rcases t with (_ | _) <;> rfl)) (fun s o h => law20_DomainOf_l2_rnd rd s1 s6 w2 s o h) (s := s8) (t := t) h
theorem law20_DomainOf_ok (a0 : TQea) (a1 : List TEvent) (r : Bool) (h : law20_DomainOf a0 a1 = some r) : ACall Try.prog 5 [.d (TQea.D a0), .d ((D.l TEvent.D) a1)] [] (.d (D.b r)) [] := by
  unfold law20_DomainOf at h
  obtain ⟨r1, h1, h⟩ := bS h
  rcases iS h with ⟨h2, h⟩ | ⟨h2, h⟩
  ·
   obtain ⟨r2, h3, h⟩ := bS h
   obtain rfl := si h
   exact runF_call mixed [(11, .ret (.d (D.b r1))), (12, .bit true), (13, .ret (.d (D.b r2)))] [] [] (ai (law20_small_ok a0 a1 r1 h1) (ai h2 (ai (law20_awake_ok r2 h3) (ti)))) (by kernel_rfl)
  ·
   obtain ⟨r3, h4, h⟩ := bS h
   obtain ⟨r4, h5, h⟩ := bS h
   obtain ⟨o10, h13, h⟩ := bS h
   replace h := sumE_some h
   rcases h with ⟨o11, rfl, h⟩ | ⟨o12, rfl, h⟩
   ·
    obtain ⟨o18, h21, h⟩ := bS h
    replace h := sumE_some h
    rcases h with ⟨o19, rfl, h⟩ | ⟨o20, rfl, h⟩
    ·
     obtain ⟨r21, h22, h⟩ := bS h
     obtain ⟨r22, h23, h⟩ := bS h
     cases r22 with
     | true =>
      replace h := iteT h
      obtain ⟨r23, h25, h⟩ := bS h
      obtain rfl := si h
      exact runF_call mixed [(11, .ret (.d (D.b r1))), (12, .bit false), (15, .ret (.d ((D.l (D.l TValue.D)) r3))), (17, .ret (.d ((D.l (D.l TValue.D)) r4))), (69, .ret (.d ((D.l (D.l TValue.D)) r21))), (71, .ret (.d (D.b true))), (73, .ret (.d (D.b r23)))] [⟨[0, 1, 0, 1, 1, 1, 1], [.live [1, 2, 5, 6, 7], .keep [2]], .exit 0, (law20_DomainOf_l1_O a1 a0 (Sum.inl o11)).2⟩, ⟨[0, 1, 0, 1, 1, 1, 1, 1], [.live [1, 2, 6, 8], .keep [2]], .exit 2, (law20_DomainOf_l2_O a1 o11 a0 (Sum.inl o19)).2⟩] [] (ai (law20_small_ok a0 a1 r1 h1) (ai h2 (ai (domain_Of_ok a0 ([] : List TEvent) r3 h4) (ai (ref20_Of_ok a0 ([] : List TEvent) r4 h5) (ai (law20_DomainOf_l1_ok none a1 a0 r3 r4 0 (Sum.inl o11) h13) (ai (law20_DomainOf_l2_ok none a1 o11 a0 0 (Sum.inl o19) h21) (ai (domain_Of_ok a0 a1 r21 h22) (ai (ref20_Same_ok r21 o11 true h23) (ai (law20_awake_ok r23 h25) (ti)))))))))) (by kernel_rfl)
     | false =>
      replace h := iteF h
      obtain rfl := si h
      exact runF_call mixed [(11, .ret (.d (D.b r1))), (12, .bit false), (15, .ret (.d ((D.l (D.l TValue.D)) r3))), (17, .ret (.d ((D.l (D.l TValue.D)) r4))), (69, .ret (.d ((D.l (D.l TValue.D)) r21))), (71, .ret (.d (D.b false)))] [⟨[0, 1, 0, 1, 1, 1, 1], [.live [1, 2, 5, 6, 7], .keep [2]], .exit 0, (law20_DomainOf_l1_O a1 a0 (Sum.inl o11)).2⟩, ⟨[0, 1, 0, 1, 1, 1, 1, 1], [.live [1, 2, 6, 8], .keep [2]], .exit 2, (law20_DomainOf_l2_O a1 o11 a0 (Sum.inl o19)).2⟩] [] (ai (law20_small_ok a0 a1 r1 h1) (ai h2 (ai (domain_Of_ok a0 ([] : List TEvent) r3 h4) (ai (ref20_Of_ok a0 ([] : List TEvent) r4 h5) (ai (law20_DomainOf_l1_ok none a1 a0 r3 r4 0 (Sum.inl o11) h13) (ai (law20_DomainOf_l2_ok none a1 o11 a0 0 (Sum.inl o19) h21) (ai (domain_Of_ok a0 a1 r21 h22) (ai (ref20_Same_ok r21 o11 false h23) (ti))))))))) (by kernel_rfl)
    ·
     obtain rfl := si h
     exact runF_call mixed [(11, .ret (.d (D.b r1))), (12, .bit false), (15, .ret (.d ((D.l (D.l TValue.D)) r3))), (17, .ret (.d ((D.l (D.l TValue.D)) r4)))] [⟨[0, 1, 0, 1, 1, 1, 1], [.live [1, 2, 5, 6, 7], .keep [2]], .exit 0, (law20_DomainOf_l1_O a1 a0 (Sum.inl o11)).2⟩, ⟨[0, 1, 0, 1, 1, 1, 1, 1], [.live [1, 2, 6, 8], .keep [2]], .ret, (law20_DomainOf_l2_O a1 o11 a0 (Sum.inr o20)).2⟩] [] (ai (law20_small_ok a0 a1 r1 h1) (ai h2 (ai (domain_Of_ok a0 ([] : List TEvent) r3 h4) (ai (ref20_Of_ok a0 ([] : List TEvent) r4 h5) (ai (law20_DomainOf_l1_ok none a1 a0 r3 r4 0 (Sum.inl o11) h13) (ai (law20_DomainOf_l2_ok none a1 o11 a0 0 (Sum.inr o20) h21) (ti))))))) (by kernel_rfl)
   ·
    obtain rfl := si h
    exact runF_call mixed [(11, .ret (.d (D.b r1))), (12, .bit false), (15, .ret (.d ((D.l (D.l TValue.D)) r3))), (17, .ret (.d ((D.l (D.l TValue.D)) r4)))] [⟨[0, 1, 0, 1, 1, 1, 1], [.live [1, 2, 5, 6, 7], .keep [2]], .ret, (law20_DomainOf_l1_O a1 a0 (Sum.inr o12)).2⟩] [] (ai (law20_small_ok a0 a1 r1 h1) (ai h2 (ai (domain_Of_ok a0 ([] : List TEvent) r3 h4) (ai (ref20_Of_ok a0 ([] : List TEvent) r4 h5) (ai (law20_DomainOf_l1_ok none a1 a0 r3 r4 0 (Sum.inr o12) h13) (ti)))))) (by kernel_rfl)
end Go.Ac
