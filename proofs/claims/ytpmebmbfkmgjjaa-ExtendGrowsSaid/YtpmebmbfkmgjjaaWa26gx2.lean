/- Own work, printed: the functions compute these. -/
import Derived.Test.YtpmebmbfkmgjjaaWa26gx1
set_option linter.unusedVariables false
set_option linter.unusedSimpArgs false
set_option linter.unusedVariables false
set_option linter.unusedSimpArgs false
namespace Go.Ac
open Go.Proofs
theorem ref05_Union_b6_ok (rd : Option Nat) (s0 : List TSlot) (s1 : List TSlot) (s6 : Int) (s10 : Bool) (s27 : Bool) (w5 : List TSlot) (w7 : TValue) (w9 : TValue) (o : (List TSlot)) (h : ref05_Union_b6 s0 s1 s6 s10 s27 w5 w7 w9 = some o) : LpOf Try.prog rd (fbody Try.prog 12) [1, 1, 1, 0, 0, 1, 0, 0, 1, 0, 1, 1] (ref05_Union_b6_I s0 s1 s6 s10 s27 w5 w7 w9) (ref05_Union_b6_O s0 s1 s6 s10 s27 w5 w7 w9 o).1 (ref05_Union_b6_O s0 s1 s6 s10 s27 w5 w7 w9 o).2 := by
  unfold ref05_Union_b6 at h
  cases s27 with
  | true =>
   replace h := iteT h
   obtain ⟨h15, h⟩ := cS h
   obtain rfl := si h
   exact (runB_arr mixed [(33, .sl ((w5 ++ [TSlot.mk s6 w7]).map TSlot.D))] [] [.live [0, 1, 5, 6], .keep [33], .ren 33 5, .sort] (ai (nc_ok TSlot.D [TSlot.mk s6 w7]) (ai (nc_ok TSlot.D [TSlot.mk s6 w7]) (ai (fit_map TSlot.D h15) (ai (app_map TSlot.D w5 [TSlot.mk s6 w7]) (ti))))) (by kernel_rfl)).lp
  | false =>
   replace h := iteF h
   obtain ⟨o8, h18, h⟩ := bS h
   obtain rfl := si h
   exact (runB_arr mixed [] [⟨[1, 1, 1, 1, 1, 0, 0, 1, 0, 0, 1, 0, 1, 1], [.live [0, 1, 5, 6, 9, 34], .keep [5, 9]], .normal, (ref05_Union_b7_O s0 s1 s6 s10 w5 w9 o8).2⟩] [.live [0, 1, 5, 6], .keep [5]] (ai (ref05_Union_b7_ok rd s0 s1 s6 s10 w5 w9 o8 h18) (ti)) (by kernel_rfl)).lp
def ref05_Union_b5_I (s0 : List TSlot) (s1 : List TSlot) (s6 : Int) (w5 : List TSlot) : St := ⟨sp 42 0 [(0, .d ((D.l TSlot.D) s0)), (1, .d ((D.l TSlot.D) s1)), (5, .row 5), (6, .d ((D.i .i64) s6))], [(5, .row 60 5 (w5.map TSlot.D))], []⟩
def ref05_Union_b5_O (s0 : List TSlot) (s1 : List TSlot) (s6 : Int) (w5 : List TSlot) (o : (List TSlot)) : Ex × St := (.normal, ⟨sp 42 0 [(0, .d ((D.l TSlot.D) s0)), (1, .d ((D.l TSlot.D) s1)), (5, .row 5), (6, .d ((D.i .i64) s6))], [(5, .row 60 5 (o.map TSlot.D))], []⟩)
theorem ref05_Union_b5_ok (rd : Option Nat) (s0 : List TSlot) (s1 : List TSlot) (s6 : Int) (w5 : List TSlot) (o : (List TSlot)) (h : ref05_Union_b5 s0 s1 s6 w5 = some o) : LpOf Try.prog rd (fbody Try.prog 12) [0, 1, 0, 0, 1, 0, 1, 1] (ref05_Union_b5_I s0 s1 s6 w5) (ref05_Union_b5_O s0 s1 s6 w5 o).1 (ref05_Union_b5_O s0 s1 s6 w5 o).2 := by
  unfold ref05_Union_b5 at h
  obtain ⟨r6, h12, h⟩ := bS h
  obtain ⟨r7, h13, h⟩ := bS h
  obtain ⟨o9, h19, h⟩ := bS h
  obtain rfl := si h
  exact (runB_arr mixed [(18, .ret (.tup [.d (TValue.D r6.1), .d (D.b r6.2)])), (24, .ret (.tup [.d (TValue.D r7.1), .d (D.b r7.2)]))] [⟨[1, 1, 1, 0, 0, 1, 0, 0, 1, 0, 1, 1], [.live [0, 1, 5, 6, 7, 9, 10, 27], .keep [5, 7, 9]], .normal, (ref05_Union_b6_O s0 s1 s6 r7.2 r6.2 w5 r6.1 r7.1 o9).2⟩] [.live [0, 1, 5, 6], .keep [5]] (ai (ref05_Get_ok s0 s6 r6 h12) (ai (ref05_Get_ok s1 s6 r7 h13) (ai (ref05_Union_b6_ok rd s0 s1 s6 r7.2 r6.2 w5 r6.1 r7.1 o9 h19) (ti)))) (by kernel_rfl)).lp
def ref05_Union_l1_I (s0 : List TSlot) (s1 : List TSlot) (s6 : Int) (w5 : List TSlot) : St := ⟨sp 42 0 [(0, .d ((D.l TSlot.D) s0)), (1, .d ((D.l TSlot.D) s1)), (5, .row 5), (6, .d ((D.i .i64) s6))], [(5, .row 60 5 (w5.map TSlot.D))], []⟩
def ref05_Union_l1_O (s0 : List TSlot) (s1 : List TSlot) (o : (List TSlot)) : Ex × St := (.exit 0, ⟨sp 42 0 [(5, .row 5)], [(5, .row 60 5 (o.map TSlot.D))], []⟩)
theorem ref05_Union_l1_rnd (rd : Option Nat) (s0 : List TSlot) (s1 : List TSlot) (s6 : Int) (w5 : List TSlot) (o : (Int × List TSlot) ⊕ ((List TSlot))) (h : ref05_Union_l1_s s0 s1 s6 w5 = some o) : Arr Try.prog rd (fbody Try.prog 12) (0 :: [0, 1, 0, 1, 1]) (ref05_Union_l1_I s0 s1 s6 w5) (rR (fun s : Int × List TSlot => ref05_Union_l1_I s0 s1 s.1 s.2) (ref05_Union_l1_O s0 s1) o).1 (rR (fun s : Int × List TSlot => ref05_Union_l1_I s0 s1 s.1 s.2) (ref05_Union_l1_O s0 s1) o).2 := by
  unfold ref05_Union_l1_s at h
  rcases iS h with ⟨h11, h⟩ | ⟨h11, h⟩
  ·
   obtain ⟨o10, h20, h⟩ := bS h
   obtain rfl := si h
   exact runB_arr mixed [(12, .bit true)] [⟨[0, 1, 0, 0, 1, 0, 1, 1], [.live [0, 1, 5, 6], .keep [5]], .normal, (ref05_Union_b5_O s0 s1 s6 w5 o10).2⟩] [.live [0, 1, 5, 6], .keep [5]] (ai h11 (ai (ref05_Union_b5_ok rd s0 s1 s6 w5 o10 h20) (ti))) (by kernel_rfl)
  ·
   obtain rfl := si h
   exact runB_arr mixed [(12, .bit false)] [] [.live [5], .keep [5]] (ai h11 (ti)) (by kernel_rfl)
theorem ref05_Union_l1_ok (rd : Option Nat) (s0 : List TSlot) (s1 : List TSlot) (s6 : Int) (w5 : List TSlot) (t : (List TSlot)) (h : ref05_Union_l1 s0 s1 s6 w5 = some t) : LpOf Try.prog rd (fbody Try.prog 12) [0, 1, 0, 1, 1] (ref05_Union_l1_I s0 s1 s6 w5) ((ref05_Union_l1_O s0 s1) t).1 ((ref05_Union_l1_O s0 s1) t).2 :=
  loopE_lpR (fun s : Int × List TSlot => ref05_Union_l1_I s0 s1 s.1 s.2) (ref05_Union_l1_O s0 s1) (by kernel_rfl) (fun t => isN_ne (by rfl)) (fun s o h => ref05_Union_l1_rnd rd s0 s1 s.1 s.2 o h) (s := (s6, w5)) (t := t) h
theorem ref05_Union_ok (a0 : List TSlot) (a1 : List TSlot) (r : List TSlot) (h : ref05_Union a0 a1 = some r) : ACall Try.prog 12 [.d ((D.l TSlot.D) a0), .d ((D.l TSlot.D) a1)] [] (.d ((D.l TSlot.D) r)) [] := by
  unfold ref05_Union at h
  obtain ⟨o11, h21, h⟩ := bS h
  obtain rfl := si h
  exact runF_call mixed [] [⟨[0, 1, 0, 1, 1], [.live [0, 1, 5, 6], .keep [], .nil 5 5 60 5, .sort], .exit 0, (ref05_Union_l1_O a0 a1 o11).2⟩] [] (ai (ref05_Union_l1_ok none a0 a1 0 ([] : List TSlot) o11 h21) (ti)) (by kernel_rfl)
def ref05_Has_l1_I (s0 : List (List TSlot)) (s1 : List TSlot) (s5 : Int) : St := ⟨sp 18 0 [(0, .d ((D.l (D.l TSlot.D)) s0)), (1, .d ((D.l TSlot.D) s1)), (5, .d ((D.i .i64) s5))], [], []⟩
def ref05_Has_l1_O (s0 : List (List TSlot)) (s1 : List TSlot) (o : Unit ⊕ Unit) : Ex × St := match o with
  | .inl o => (.exit 0, ⟨sp 18 0 [], [], []⟩)
  | .inr o => (.ret, ⟨sp 18 0 [(4, .d (D.b true))], [], []⟩)
theorem ref05_Has_l1_rnd (rd : Option Nat) (s0 : List (List TSlot)) (s1 : List TSlot) (s5 : Int) (o : (Int) ⊕ (Unit ⊕ Unit)) (h : ref05_Has_l1_s s0 s1 s5 = some o) : Arr Try.prog rd (fbody Try.prog 32) (0 :: [0, 1, 0, 1]) (ref05_Has_l1_I s0 s1 s5) (rR (fun s : Int => ref05_Has_l1_I s0 s1 s) (ref05_Has_l1_O s0 s1) o).1 (rR (fun s : Int => ref05_Has_l1_I s0 s1 s) (ref05_Has_l1_O s0 s1) o).2 := by
  unfold ref05_Has_l1_s at h
  rcases iS h with ⟨h1, h⟩ | ⟨h1, h⟩
  ·
   obtain ⟨x1, h2, h⟩ := xS h
   obtain ⟨r2, h3, h⟩ := bS h
   cases r2 with
   | true =>
    replace h := iteT h
    obtain rfl := si h
    exact runB_arr mixed [(8, .int (s0.length : Int)), (9, .bit true), (14, .el ((D.l TSlot.D) x1)), (17, .ret (.d (D.b true)))] [] [.live [4], .keep []] (ai (len_map (D.l TSlot.D) s0) (ai h1 (ai (elem_map (D.l TSlot.D) h2) (ai (ref05_Same_ok x1 s1 true h3) (ti))))) (by kernel_rfl)
   | false =>
    replace h := iteF h
    obtain rfl := si h
    exact runB_arr mixed [(8, .int (s0.length : Int)), (9, .bit true), (14, .el ((D.l TSlot.D) x1)), (17, .ret (.d (D.b false)))] [] [.live [0, 1, 5], .keep []] (ai (len_map (D.l TSlot.D) s0) (ai h1 (ai (elem_map (D.l TSlot.D) h2) (ai (ref05_Same_ok x1 s1 false h3) (ti))))) (by kernel_rfl)
  ·
   obtain rfl := si h
   exact runB_arr mixed [(8, .int (s0.length : Int)), (9, .bit false)] [] [.live [], .keep []] (ai (len_map (D.l TSlot.D) s0) (ai h1 (ti))) (by kernel_rfl)
theorem ref05_Has_l1_ok (rd : Option Nat) (s0 : List (List TSlot)) (s1 : List TSlot) (s5 : Int) (t : Unit ⊕ Unit) (h : ref05_Has_l1 s0 s1 s5 = some t) : LpOf Try.prog rd (fbody Try.prog 32) [0, 1, 0, 1] (ref05_Has_l1_I s0 s1 s5) ((ref05_Has_l1_O s0 s1) t).1 ((ref05_Has_l1_O s0 s1) t).2 :=
  loopE_lpR (fun s : Int => ref05_Has_l1_I s0 s1 s) (ref05_Has_l1_O s0 s1) (by kernel_rfl) (fun t => isN_ne (by rcases t with (_ | _) <;> rfl)) (fun s o h => ref05_Has_l1_rnd rd s0 s1 s o h) (s := s5) (t := t) h
theorem ref05_Has_ok (a0 : List (List TSlot)) (a1 : List TSlot) (r : Bool) (h : ref05_Has a0 a1 = some r) : ACall Try.prog 32 [.d ((D.l (D.l TSlot.D)) a0), .d ((D.l TSlot.D) a1)] [] (.d (D.b r)) [] := by
  unfold ref05_Has at h
  obtain ⟨o3, h5, h⟩ := bS h
  replace h := sumE_some h
  rcases h with ⟨o4, rfl, h⟩ | ⟨o5, rfl, h⟩
  ·
   obtain rfl := si h
   exact runF_call mixed [] [⟨[0, 1, 0, 1], [.live [0, 1, 5], .keep []], .exit 0, (ref05_Has_l1_O a0 a1 (Sum.inl o4)).2⟩] [] (ai (ref05_Has_l1_ok none a0 a1 0 (Sum.inl o4) h5) (ti)) (by kernel_rfl)
  ·
   obtain rfl := si h
   exact runF_call mixed [] [⟨[0, 1, 0, 1], [.live [0, 1, 5], .keep []], .ret, (ref05_Has_l1_O a0 a1 (Sum.inr o5)).2⟩] [] (ai (ref05_Has_l1_ok none a0 a1 0 (Sum.inr o5) h5) (ti)) (by kernel_rfl)
def ref03_Below_l1_I (s0 : List UInt8) (s1 : List UInt8) (s5 : Int) : St := ⟨sp 37 0 [(0, .d (D.s s0)), (1, .d (D.s s1)), (5, .d ((D.i .i64) s5))], [], []⟩
def ref03_Below_l1_O (s0 : List UInt8) (s1 : List UInt8) (o : Unit ⊕ Bool) : Ex × St := match o with
  | .inl o => (.exit 0, ⟨sp 37 0 [(0, .d (D.s s0)), (1, .d (D.s s1))], [], []⟩)
  | .inr o => (.ret, ⟨sp 37 0 [(4, .d (D.b o))], [], []⟩)
theorem ref03_Below_l1_rnd (rd : Option Nat) (s0 : List UInt8) (s1 : List UInt8) (s5 : Int) (o : (Int) ⊕ (Unit ⊕ Bool)) (h : ref03_Below_l1_s s0 s1 s5 = some o) : Arr Try.prog rd (fbody Try.prog 69) (0 :: [0, 1, 0, 1]) (ref03_Below_l1_I s0 s1 s5) (rR (fun s : Int => ref03_Below_l1_I s0 s1 s) (ref03_Below_l1_O s0 s1) o).1 (rR (fun s : Int => ref03_Below_l1_I s0 s1 s) (ref03_Below_l1_O s0 s1) o).2 := by
  unfold ref03_Below_l1_s at h
  rcases iS h with ⟨h1, h⟩ | ⟨h1, h⟩
  ·
   rcases iS h with ⟨h2, h⟩ | ⟨h2, h⟩
   ·
    obtain ⟨x1, h3, h⟩ := xS h
    obtain ⟨x2, h4, h⟩ := xS h
    rcases iS h with ⟨h5, h⟩ | ⟨h5, h⟩
    ·
     obtain ⟨x3, h6, h⟩ := xS h
     obtain ⟨x4, h7, h⟩ := xS h
     obtain rfl := si h
     exact runB_arr mixed [(8, .int (s0.length : Int)), (10, .bit true), (13, .int (s1.length : Int)), (15, .bit true), (20, .int x1.toNat), (23, .int x2.toNat), (24, .bit true), (27, .int x3.toNat), (30, .int x4.toNat)] [] [.live [4], .keep []] (ai (len_str s0) (ai h1 (ai (len_str s1) (ai h2 (ai (byte_ok h3) (ai (byte_ok h4) (ai h5 (ai (byte_ok h6) (ai (byte_ok h7) (ti)))))))))) (by kernel_rfl)
    ·
     obtain rfl := si h
     exact runB_arr mixed [(8, .int (s0.length : Int)), (10, .bit true), (13, .int (s1.length : Int)), (15, .bit true), (20, .int x1.toNat), (23, .int x2.toNat), (24, .bit false)] [] [.live [0, 1, 5], .keep []] (ai (len_str s0) (ai h1 (ai (len_str s1) (ai h2 (ai (byte_ok h3) (ai (byte_ok h4) (ai h5 (ti)))))))) (by kernel_rfl)
   ·
    obtain rfl := si h
    exact runB_arr mixed [(8, .int (s0.length : Int)), (10, .bit true), (13, .int (s1.length : Int)), (15, .bit false)] [] [.live [0, 1], .keep []] (ai (len_str s0) (ai h1 (ai (len_str s1) (ai h2 (ti))))) (by kernel_rfl)
  ·
   obtain rfl := si h
   exact runB_arr mixed [(8, .int (s0.length : Int)), (10, .bit false)] [] [.live [0, 1], .keep []] (ai (len_str s0) (ai h1 (ti))) (by kernel_rfl)
theorem ref03_Below_l1_ok (rd : Option Nat) (s0 : List UInt8) (s1 : List UInt8) (s5 : Int) (t : Unit ⊕ Bool) (h : ref03_Below_l1 s0 s1 s5 = some t) : LpOf Try.prog rd (fbody Try.prog 69) [0, 1, 0, 1] (ref03_Below_l1_I s0 s1 s5) ((ref03_Below_l1_O s0 s1) t).1 ((ref03_Below_l1_O s0 s1) t).2 :=
  loopE_lpR (fun s : Int => ref03_Below_l1_I s0 s1 s) (ref03_Below_l1_O s0 s1) (by kernel_rfl) (fun t => isN_ne (by rcases t with (_ | _) <;> rfl)) (fun s o h => ref03_Below_l1_rnd rd s0 s1 s o h) (s := s5) (t := t) h
theorem ref03_Below_ok (a0 : List UInt8) (a1 : List UInt8) (r : Bool) (h : ref03_Below a0 a1 = some r) : ACall Try.prog 69 [.d (D.s a0), .d (D.s a1)] [] (.d (D.b r)) [] := by
  unfold ref03_Below at h
  obtain ⟨o5, h8, h⟩ := bS h
  replace h := sumE_some h
  rcases h with ⟨o6, rfl, h⟩ | ⟨o7, rfl, h⟩
  ·
   obtain rfl := si h
   exact runF_call mixed [(33, .int (a0.length : Int)), (35, .int (a1.length : Int))] [⟨[0, 1, 0, 1], [.live [0, 1, 5], .keep []], .exit 0, (ref03_Below_l1_O a0 a1 (Sum.inl o6)).2⟩] [] (ai (ref03_Below_l1_ok none a0 a1 0 (Sum.inl o6) h8) (ai (len_str a0) (ai (len_str a1) (ti)))) (by kernel_rfl)
  ·
   obtain rfl := si h
   exact runF_call mixed [] [⟨[0, 1, 0, 1], [.live [0, 1, 5], .keep []], .ret, (ref03_Below_l1_O a0 a1 (Sum.inr o7)).2⟩] [] (ai (ref03_Below_l1_ok none a0 a1 0 (Sum.inr o7) h8) (ti)) (by kernel_rfl)
theorem ref03_Less_ok (a0 : TValue) (a1 : TValue) (r : Bool) (h : ref03_Less a0 a1 = some r) : ACall Try.prog 54 [.d (TValue.D a0), .d (TValue.D a1)] [] (.d (D.b r)) [] := by
  unfold ref03_Less at h
  rcases iS h with ⟨h1, h⟩ | ⟨h1, h⟩
  ·
   obtain rfl := si h
   exact runF_call mixed [(9, .bit true)] [] [] (ai h1 (ti)) (by kernel_rfl)
  ·
   rcases iS h with ⟨h2, h⟩ | ⟨h2, h⟩
   ·
    obtain rfl := si h
    exact runF_call mixed [(9, .bit false), (17, .bit true)] [] [] (ai h1 (ai h2 (ti))) (by kernel_rfl)
   ·
    rcases iS h with ⟨h3, h⟩ | ⟨h3, h⟩
    ·
     obtain ⟨r1, h4, h⟩ := bS h
     obtain rfl := si h
     exact runF_call mixed [(9, .bit false), (17, .bit false), (25, .bit true), (30, .ret (.d (D.b r1)))] [] [] (ai h1 (ai h2 (ai h3 (ai (ref03_Below_ok a0.str a1.str r1 h4) (ti))))) (by kernel_rfl)
    ·
     rcases iS h with ⟨h5, h⟩ | ⟨h5, h⟩
     ·
      obtain rfl := si h
      exact runF_call mixed [(9, .bit false), (17, .bit false), (25, .bit false), (34, .bit true)] [] [] (ai h1 (ai h2 (ai h3 (ai h5 (ti))))) (by kernel_rfl)
     ·
      obtain rfl := si h
      exact runF_call mixed [(9, .bit false), (17, .bit false), (25, .bit false), (34, .bit false)] [] [] (ai h1 (ai h2 (ai h3 (ai h5 (ti))))) (by kernel_rfl)
def ref05_Less_l1_I (s0 : List TSlot) (s1 : List TSlot) (s5 : Int) : St := ⟨sp 66 0 [(0, .d ((D.l TSlot.D) s0)), (1, .d ((D.l TSlot.D) s1)), (5, .d ((D.i .i64) s5))], [], []⟩
def ref05_Less_l1_O (s0 : List TSlot) (s1 : List TSlot) (o : Unit ⊕ Bool) : Ex × St := match o with
  | .inl o => (.exit 0, ⟨sp 66 0 [], [], []⟩)
  | .inr o => (.ret, ⟨sp 66 0 [(4, .d (D.b o))], [], []⟩)
theorem ref05_Less_l1_rnd (rd : Option Nat) (s0 : List TSlot) (s1 : List TSlot) (s5 : Int) (o : (Int) ⊕ (Unit ⊕ Bool)) (h : ref05_Less_l1_s s0 s1 s5 = some o) : Arr Try.prog rd (fbody Try.prog 33) (0 :: [0, 1, 0, 1, 1]) (ref05_Less_l1_I s0 s1 s5) (rR (fun s : Int => ref05_Less_l1_I s0 s1 s) (ref05_Less_l1_O s0 s1) o).1 (rR (fun s : Int => ref05_Less_l1_I s0 s1 s) (ref05_Less_l1_O s0 s1) o).2 := by
  unfold ref05_Less_l1_s at h
  rcases iS h with ⟨h2, h⟩ | ⟨h2, h⟩
  ·
   obtain ⟨x1, h3, h⟩ := xS h
   obtain ⟨x2, h4, h⟩ := xS h
   rcases iS h with ⟨h5, h⟩ | ⟨h5, h⟩
   ·
    obtain ⟨x3, h6, h⟩ := xS h
    obtain ⟨x4, h7, h⟩ := xS h
    obtain rfl := si h
    exact runB_arr mixed [(18, .int (s0.length : Int)), (19, .bit true), (24, .el (TSlot.D x1)), (29, .el (TSlot.D x2)), (32, .bit true), (35, .el (TSlot.D x3)), (40, .el (TSlot.D x4))] [] [.live [4], .keep []] (ai (len_map TSlot.D s0) (ai h2 (ai (elem_map TSlot.D h3) (ai (elem_map TSlot.D h4) (ai h5 (ai (elem_map TSlot.D h6) (ai (elem_map TSlot.D h7) (ti)))))))) (by kernel_rfl)
   ·
    obtain ⟨x5, h8, h⟩ := xS h
    obtain ⟨x6, h9, h⟩ := xS h
    rcases iS h with ⟨h10, h⟩ | ⟨h10, h⟩
    ·
     obtain ⟨x7, h11, h⟩ := xS h
     obtain ⟨x8, h12, h⟩ := xS h
     obtain ⟨r9, h13, h⟩ := bS h
     obtain rfl := si h
     exact runB_arr mixed [(18, .int (s0.length : Int)), (19, .bit true), (24, .el (TSlot.D x1)), (29, .el (TSlot.D x2)), (32, .bit false), (46, .el (TSlot.D x5)), (51, .el (TSlot.D x6)), (54, .bit true), (57, .el (TSlot.D x7)), (62, .el (TSlot.D x8)), (65, .ret (.d (D.b r9)))] [] [.live [4], .keep []] (ai (len_map TSlot.D s0) (ai h2 (ai (elem_map TSlot.D h3) (ai (elem_map TSlot.D h4) (ai h5 (ai (elem_map TSlot.D h8) (ai (elem_map TSlot.D h9) (ai h10 (ai (elem_map TSlot.D h11) (ai (elem_map TSlot.D h12) (ai (ref03_Less_ok x7.value x8.value r9 h13) (ti)))))))))))) (by kernel_rfl)
    ·
     obtain rfl := si h
     exact runB_arr mixed [(18, .int (s0.length : Int)), (19, .bit true), (24, .el (TSlot.D x1)), (29, .el (TSlot.D x2)), (32, .bit false), (46, .el (TSlot.D x5)), (51, .el (TSlot.D x6)), (54, .bit false)] [] [.live [0, 1, 5], .keep []] (ai (len_map TSlot.D s0) (ai h2 (ai (elem_map TSlot.D h3) (ai (elem_map TSlot.D h4) (ai h5 (ai (elem_map TSlot.D h8) (ai (elem_map TSlot.D h9) (ai h10 (ti))))))))) (by kernel_rfl)
  ·
   obtain rfl := si h
   exact runB_arr mixed [(18, .int (s0.length : Int)), (19, .bit false)] [] [.live [], .keep []] (ai (len_map TSlot.D s0) (ai h2 (ti))) (by kernel_rfl)
theorem ref05_Less_l1_ok (rd : Option Nat) (s0 : List TSlot) (s1 : List TSlot) (s5 : Int) (t : Unit ⊕ Bool) (h : ref05_Less_l1 s0 s1 s5 = some t) : LpOf Try.prog rd (fbody Try.prog 33) [0, 1, 0, 1, 1] (ref05_Less_l1_I s0 s1 s5) ((ref05_Less_l1_O s0 s1) t).1 ((ref05_Less_l1_O s0 s1) t).2 :=
  loopE_lpR (fun s : Int => ref05_Less_l1_I s0 s1 s) (ref05_Less_l1_O s0 s1) (by kernel_rfl) (fun t => isN_ne (by rcases t with (_ | _) <;> rfl)) (fun s o h => ref05_Less_l1_rnd rd s0 s1 s o h) (s := s5) (t := t) h
theorem ref05_Less_ok (a0 : List TSlot) (a1 : List TSlot) (r : Bool) (h : ref05_Less a0 a1 = some r) : ACall Try.prog 33 [.d ((D.l TSlot.D) a0), .d ((D.l TSlot.D) a1)] [] (.d (D.b r)) [] := by
  unfold ref05_Less at h
  rcases iS h with ⟨h1, h⟩ | ⟨h1, h⟩
  ·
   obtain rfl := si h
   exact runF_call mixed [(7, .int (a0.length : Int)), (9, .int (a1.length : Int)), (10, .bit true), (12, .int (a0.length : Int)), (14, .int (a1.length : Int))] [] [] (ai (len_map TSlot.D a0) (ai (len_map TSlot.D a1) (ai h1 (ai (len_map TSlot.D a0) (ai (len_map TSlot.D a1) (ti)))))) (by kernel_rfl)
  ·
   obtain ⟨o10, h14, h⟩ := bS h
   replace h := sumE_some h
   rcases h with ⟨o11, rfl, h⟩ | ⟨o12, rfl, h⟩
   ·
    obtain rfl := si h
    exact runF_call mixed [(7, .int (a0.length : Int)), (9, .int (a1.length : Int)), (10, .bit false)] [⟨[0, 1, 0, 1, 1], [.live [0, 1, 5], .keep []], .exit 0, (ref05_Less_l1_O a0 a1 (Sum.inl o11)).2⟩] [] (ai (len_map TSlot.D a0) (ai (len_map TSlot.D a1) (ai h1 (ai (ref05_Less_l1_ok none a0 a1 0 (Sum.inl o11) h14) (ti))))) (by kernel_rfl)
   ·
    obtain rfl := si h
    exact runF_call mixed [(7, .int (a0.length : Int)), (9, .int (a1.length : Int)), (10, .bit false)] [⟨[0, 1, 0, 1, 1], [.live [0, 1, 5], .keep []], .ret, (ref05_Less_l1_O a0 a1 (Sum.inr o12)).2⟩] [] (ai (len_map TSlot.D a0) (ai (len_map TSlot.D a1) (ai h1 (ai (ref05_Less_l1_ok none a0 a1 0 (Sum.inr o12) h14) (ti))))) (by kernel_rfl)
def ref05_Put_l1_I (s0 : List (List TSlot)) (s1 : List TSlot) (s5 : Int) : St := ⟨sp 40 0 [(0, .d ((D.l (D.l TSlot.D)) s0)), (1, .d ((D.l TSlot.D) s1)), (5, .d ((D.i .i64) s5))], [], []⟩
def ref05_Put_l1_O (s0 : List (List TSlot)) (s1 : List TSlot) (o : Int) : Ex × St := (.exit 0, ⟨sp 40 0 [(0, .d ((D.l (D.l TSlot.D)) s0)), (1, .d ((D.l TSlot.D) s1)), (5, .d ((D.i .i64) o))], [], []⟩)
theorem ref05_Put_l1_rnd (rd : Option Nat) (s0 : List (List TSlot)) (s1 : List TSlot) (s5 : Int) (o : (Int) ⊕ (Int)) (h : ref05_Put_l1_s s0 s1 s5 = some o) : Arr Try.prog rd (fbody Try.prog 11) (0 :: [0, 0, 1, 1, 1]) (ref05_Put_l1_I s0 s1 s5) (rR (fun s : Int => ref05_Put_l1_I s0 s1 s) (ref05_Put_l1_O s0 s1) o).1 (rR (fun s : Int => ref05_Put_l1_I s0 s1 s) (ref05_Put_l1_O s0 s1) o).2 := by
  unfold ref05_Put_l1_s at h
  rcases iS h with ⟨h3, h⟩ | ⟨h3, h⟩
  ·
   obtain ⟨x2, h4, h⟩ := xS h
   obtain ⟨r3, h5, h⟩ := bS h
   cases r3 with
   | true =>
    replace h := iteT h
    obtain rfl := si h
    exact runB_arr mixed [(15, .bit true), (20, .el ((D.l TSlot.D) x2)), (22, .ret (.d (D.b true)))] [] [.live [0, 1, 5], .keep []] (ai h3 (ai (elem_map (D.l TSlot.D) h4) (ai (ref05_Less_ok s1 x2 true h5) (ti)))) (by kernel_rfl)
   | false =>
    replace h := iteF h
    obtain rfl := si h
    exact runB_arr mixed [(15, .bit true), (20, .el ((D.l TSlot.D) x2)), (22, .ret (.d (D.b false)))] [] [.live [0, 1, 5], .keep []] (ai h3 (ai (elem_map (D.l TSlot.D) h4) (ai (ref05_Less_ok s1 x2 false h5) (ti)))) (by kernel_rfl)
  ·
   obtain rfl := si h
   exact runB_arr mixed [(15, .bit false)] [] [.live [0, 1, 5], .keep []] (ai h3 (ti)) (by kernel_rfl)
theorem ref05_Put_l1_ok (rd : Option Nat) (s0 : List (List TSlot)) (s1 : List TSlot) (s5 : Int) (t : Int) (h : ref05_Put_l1 s0 s1 s5 = some t) : LpOf Try.prog rd (fbody Try.prog 11) [0, 0, 1, 1, 1] (ref05_Put_l1_I s0 s1 s5) ((ref05_Put_l1_O s0 s1) t).1 ((ref05_Put_l1_O s0 s1) t).2 :=
  loopE_lpR (fun s : Int => ref05_Put_l1_I s0 s1 s) (ref05_Put_l1_O s0 s1) (by kernel_rfl) (fun t => isN_ne (by rfl)) (fun s o h => ref05_Put_l1_rnd rd s0 s1 s o h) (s := s5) (t := t) h
theorem ref05_Put_ok (a0 : List (List TSlot)) (a1 : List TSlot) (r : List (List TSlot)) (h : ref05_Put a0 a1 = some r) : ACall Try.prog 11 [.d ((D.l (D.l TSlot.D)) a0), .d ((D.l TSlot.D) a1)] [] (.d ((D.l (D.l TSlot.D)) r)) [] := by
  unfold ref05_Put at h
  obtain ⟨r1, h1, h⟩ := bS h
  cases r1 with
  | true =>
   replace h := iteT h
   obtain rfl := si h
   exact runF_call mixed [(9, .ret (.d (D.b true)))] [] [] (ai (ref05_Has_ok a0 a1 true h1) (ti)) (by kernel_rfl)
  | false =>
   replace h := iteF h
   obtain ⟨o4, h7, h⟩ := bS h
   obtain ⟨h8, h⟩ := cS h
   obtain ⟨h9, h⟩ := cS h
   obtain ⟨h10, h⟩ := cS h
   obtain ⟨h11, h⟩ := cS h
   obtain ⟨h12, h⟩ := cS h
   obtain rfl := si h
   exact runF_call mixed [(9, .ret (.d (D.b false))), (12, .int (a0.length : Int)), (29, .sl ((sub a0 0 o4).map (D.l TSlot.D))), (30, .sl ((([] : List (List TSlot)) ++ (sub a0 0 o4)).map (D.l TSlot.D))), (34, .sl (((([] : List (List TSlot)) ++ (sub a0 0 o4)) ++ [a1]).map (D.l TSlot.D))), (38, .sl ((sub a0 o4 (a0.length : Int)).map (D.l TSlot.D))), (39, .sl ((((([] : List (List TSlot)) ++ (sub a0 0 o4)) ++ [a1]) ++ (sub a0 o4 (a0.length : Int))).map (D.l TSlot.D)))] [⟨[0, 0, 1, 1, 1], [.live [0, 1, 5], .keep []], .exit 0, (ref05_Put_l1_O a0 a1 o4).2⟩] [] (ai (ref05_Has_ok a0 a1 false h1) (ai (len_map (D.l TSlot.D) a0) (ai (ref05_Put_l1_ok none a0 a1 (a0.length : Int) o4 h7) (ai (nc_ok (D.l TSlot.D) ([] : List (List TSlot))) (ai (cut_some (D.l TSlot.D) h8) (ai (nc_ok (D.l TSlot.D) (sub a0 0 o4)) (ai (fit_map (D.l TSlot.D) h9) (ai (app_map (D.l TSlot.D) ([] : List (List TSlot)) (sub a0 0 o4)) (ai (nc_ok (D.l TSlot.D) [a1]) (ai (nc_ok (D.l TSlot.D) [a1]) (ai (fit_map (D.l TSlot.D) h10) (ai (app_map (D.l TSlot.D) (([] : List (List TSlot)) ++ (sub a0 0 o4)) [a1]) (ai (cut_none (D.l TSlot.D) h11) (ai (nc_ok (D.l TSlot.D) (sub a0 o4 (a0.length : Int))) (ai (fit_map (D.l TSlot.D) h12) (ai (app_map (D.l TSlot.D) ((([] : List (List TSlot)) ++ (sub a0 0 o4)) ++ [a1]) (sub a0 o4 (a0.length : Int))) (ti))))))))))))))))) (by kernel_rfl)
def ref26_join_b2_I (s1 : List THit) (s2 : Int) (s8 : List TSlot) (s9 : Int) : St := ⟨sp 39 0 [(1, .d ((D.l THit.D) s1)), (2, .d ((D.i .i64) s2)), (8, .d ((D.l TSlot.D) s8)), (9, .d ((D.i .i64) s9))], [], []⟩
def ref26_join_b2_O (s1 : List THit) (s2 : Int) (s8 : List TSlot) (s9 : Int) (o : (List TSlot) ⊕ Unit) : Ex × St := match o with
  | .inl o => (.normal, ⟨sp 39 0 [(1, .d ((D.l THit.D) s1)), (2, .d ((D.i .i64) s2)), (8, .d ((D.l TSlot.D) o)), (9, .d ((D.i .i64) s9))], [], []⟩)
  | .inr o => (.ret, ⟨sp 39 0 [(6, .nil), (7, .d (D.b false))], [], []⟩)
theorem ref26_join_b2_ok (rd : Option Nat) (s1 : List THit) (s2 : Int) (s8 : List TSlot) (s9 : Int) (o : (List TSlot) ⊕ Unit) (h : ref26_join_b2 s1 s2 s8 s9 = some o) : LpOf Try.prog rd (fbody Try.prog 46) [0, 1, 0, 0, 1, 0, 1, 1] (ref26_join_b2_I s1 s2 s8 s9) (ref26_join_b2_O s1 s2 s8 s9 o).1 (ref26_join_b2_O s1 s2 s8 s9 o).2 := by
  unfold ref26_join_b2 at h
  obtain ⟨h2, h⟩ := cS h
  rcases iS h with ⟨h3, h⟩ | ⟨h3, h⟩
  ·
   obtain rfl := si h
   exact (runB_arr mixed [(22, .bit true)] [] [.live [1, 2, 8, 9], .keep []] (ai h2 (ai (of_decide_eq_true rfl : (2 : Int) ≠ 0) (ai h3 (ti)))) (by kernel_rfl)).lp
  ·
   obtain ⟨x1, h4, h⟩ := xS h
   obtain ⟨r2, h5, h⟩ := bS h
   rcases iS h with ⟨h6, h⟩ | ⟨h6, h⟩
   ·
    obtain rfl := si h
    exact (runB_arr mixed [(22, .bit false), (26, .el (THit.D x1)), (29, .ret (.d (D.b r2))), (30, .bit true)] [] [.live [6, 7], .keep []] (ai h2 (ai (of_decide_eq_true rfl : (2 : Int) ≠ 0) (ai h3 (ai (elem_map THit.D h4) (ai (ref05_Fits_ok s8 x1.bind r2 h5) (ai h6 (ti))))))) (by kernel_rfl)).lp
   ·
    obtain ⟨x3, h7, h⟩ := xS h
    obtain ⟨r4, h8, h⟩ := bS h
    obtain rfl := si h
    exact (runB_arr mixed [(22, .bit false), (26, .el (THit.D x1)), (29, .ret (.d (D.b r2))), (30, .bit false), (34, .el (THit.D x3)), (37, .ret (.d ((D.l TSlot.D) r4)))] [] [.live [1, 2, 8, 9], .keep []] (ai h2 (ai (of_decide_eq_true rfl : (2 : Int) ≠ 0) (ai h3 (ai (elem_map THit.D h4) (ai (ref05_Fits_ok s8 x1.bind r2 h5) (ai h6 (ai (elem_map THit.D h7) (ai (ref05_Union_ok s8 x3.bind r4 h8) (ti))))))))) (by kernel_rfl)).lp
def ref26_join_l1_I (s1 : List THit) (s2 : Int) (s8 : List TSlot) (s9 : Int) : St := ⟨sp 39 0 [(1, .d ((D.l THit.D) s1)), (2, .d ((D.i .i64) s2)), (8, .d ((D.l TSlot.D) s8)), (9, .d ((D.i .i64) s9))], [], []⟩
def ref26_join_l1_O (s1 : List THit) (s2 : Int) (o : (List TSlot) ⊕ Unit) : Ex × St := match o with
  | .inl o => (.exit 0, ⟨sp 39 0 [(8, .d ((D.l TSlot.D) o))], [], []⟩)
  | .inr o => (.ret, ⟨sp 39 0 [(6, .nil), (7, .d (D.b false))], [], []⟩)
theorem ref26_join_l1_rnd (rd : Option Nat) (s1 : List THit) (s2 : Int) (s8 : List TSlot) (s9 : Int) (o : (List TSlot × Int) ⊕ ((List TSlot) ⊕ Unit)) (h : ref26_join_l1_s s1 s2 s8 s9 = some o) : Arr Try.prog rd (fbody Try.prog 46) (0 :: [0, 1, 0, 1, 1]) (ref26_join_l1_I s1 s2 s8 s9) (rR (fun s : List TSlot × Int => ref26_join_l1_I s1 s2 s.1 s.2) (ref26_join_l1_O s1 s2) o).1 (rR (fun s : List TSlot × Int => ref26_join_l1_I s1 s2 s.1 s.2) (ref26_join_l1_O s1 s2) o).2 := by
  unfold ref26_join_l1_s at h
  rcases iS h with ⟨h1, h⟩ | ⟨h1, h⟩
  ·
   obtain ⟨o5, h9, h⟩ := bS h
   replace h := sumE_some h
   rcases h with ⟨o6, rfl, h⟩ | ⟨o7, rfl, h⟩
   ·
    obtain rfl := si h
    exact runB_arr mixed [(13, .int (s1.length : Int)), (14, .bit true)] [⟨[0, 1, 0, 0, 1, 0, 1, 1], [.live [1, 2, 8, 9], .keep []], .normal, (ref26_join_b2_O s1 s2 s8 s9 (Sum.inl o6)).2⟩] [.live [1, 2, 8, 9], .keep []] (ai (len_map THit.D s1) (ai h1 (ai (ref26_join_b2_ok rd s1 s2 s8 s9 (Sum.inl o6) h9) (ti)))) (by kernel_rfl)
   ·
    obtain rfl := si h
    exact runB_arr mixed [(13, .int (s1.length : Int)), (14, .bit true)] [⟨[0, 1, 0, 0, 1, 0, 1, 1], [.live [1, 2, 8, 9], .keep []], .ret, (ref26_join_b2_O s1 s2 s8 s9 (Sum.inr o7)).2⟩] [.live [6, 7], .keep []] (ai (len_map THit.D s1) (ai h1 (ai (ref26_join_b2_ok rd s1 s2 s8 s9 (Sum.inr o7) h9) (ti)))) (by kernel_rfl)
  ·
   obtain rfl := si h
   exact runB_arr mixed [(13, .int (s1.length : Int)), (14, .bit false)] [] [.live [8], .keep []] (ai (len_map THit.D s1) (ai h1 (ti))) (by kernel_rfl)
theorem ref26_join_l1_ok (rd : Option Nat) (s1 : List THit) (s2 : Int) (s8 : List TSlot) (s9 : Int) (t : (List TSlot) ⊕ Unit) (h : ref26_join_l1 s1 s2 s8 s9 = some t) : LpOf Try.prog rd (fbody Try.prog 46) [0, 1, 0, 1, 1] (ref26_join_l1_I s1 s2 s8 s9) ((ref26_join_l1_O s1 s2) t).1 ((ref26_join_l1_O s1 s2) t).2 :=
  loopE_lpR (fun s : List TSlot × Int => ref26_join_l1_I s1 s2 s.1 s.2) (ref26_join_l1_O s1 s2) (by kernel_rfl) (fun t => isN_ne (by rcases t with (_ | _) <;> rfl)) (fun s o h => ref26_join_l1_rnd rd s1 s2 s.1 s.2 o h) (s := (s8, s9)) (t := t) h
theorem ref26_join_ok (a0 : List TSlot) (a1 : List THit) (a2 : Int) (r : List TSlot × Bool) (h : ref26_join a0 a1 a2 = some r) : ACall Try.prog 46 [.d ((D.l TSlot.D) a0), .d ((D.l THit.D) a1), .d ((D.i .i64) a2)] [] (.tup [.d ((D.l TSlot.D) r.1), .d (D.b r.2)]) [] := by
  unfold ref26_join at h
  obtain ⟨o8, h10, h⟩ := bS h
  replace h := sumE_some h
  rcases h with ⟨o9, rfl, h⟩ | ⟨o10, rfl, h⟩
  ·
   obtain rfl := si h
   exact runF_call mixed [] [⟨[0, 1, 0, 1, 1], [.live [1, 2, 8, 9], .keep []], .exit 0, (ref26_join_l1_O a1 a2 (Sum.inl o9)).2⟩] [] (ai (ref26_join_l1_ok none a1 a2 a0 0 (Sum.inl o9) h10) (ti)) (by kernel_rfl)
  ·
   obtain rfl := si h
   exact runF_call mixed [] [⟨[0, 1, 0, 1, 1], [.live [1, 2, 8, 9], .keep []], .ret, (ref26_join_l1_O a1 a2 (Sum.inr o10)).2⟩] [] (ai (ref26_join_l1_ok none a1 a2 a0 0 (Sum.inr o10) h10) (ti)) (by kernel_rfl)
def ref26_Grow_l1_I (s0 : List (List TSlot)) (s1 : List THit) (s6 : Int) (s7 : Int) : St := ⟨sp 52 0 [(0, .d ((D.l (D.l TSlot.D)) s0)), (1, .d ((D.l THit.D) s1)), (5, .nil), (6, .d ((D.i .i64) s6)), (7, .d ((D.i .i64) s7))], [], []⟩
def ref26_Grow_l1_O (s0 : List (List TSlot)) (s1 : List THit) (o : Int) : Ex × St := (.exit 0, ⟨sp 52 0 [(0, .d ((D.l (D.l TSlot.D)) s0)), (1, .d ((D.l THit.D) s1)), (5, .nil), (6, .d ((D.i .i64) o))], [], []⟩)
theorem ref26_Grow_l1_rnd (rd : Option Nat) (s0 : List (List TSlot)) (s1 : List THit) (s6 : Int) (s7 : Int) (o : (Int × Int) ⊕ (Int)) (h : ref26_Grow_l1_s s0 s1 s6 s7 = some o) : Arr Try.prog rd (fbody Try.prog 15) (0 :: [0, 1, 0, 1, 1, 1]) (ref26_Grow_l1_I s0 s1 s6 s7) (rR (fun s : Int × Int => ref26_Grow_l1_I s0 s1 s.1 s.2) (ref26_Grow_l1_O s0 s1) o).1 (rR (fun s : Int × Int => ref26_Grow_l1_I s0 s1 s.1 s.2) (ref26_Grow_l1_O s0 s1) o).2 := by
  unfold ref26_Grow_l1_s at h
  rcases iS h with ⟨h1, h⟩ | ⟨h1, h⟩
  ·
   obtain rfl := si h
   exact runB_arr mixed [(14, .int (s1.length : Int)), (15, .bit true)] [] [.live [0, 1, 5, 6, 7], .keep []] (ai (len_map THit.D s1) (ai h1 (ti))) (by kernel_rfl)
  ·
   obtain rfl := si h
   exact runB_arr mixed [(14, .int (s1.length : Int)), (15, .bit false)] [] [.live [0, 1, 5, 6], .keep []] (ai (len_map THit.D s1) (ai h1 (ti))) (by kernel_rfl)
theorem ref26_Grow_l1_ok (rd : Option Nat) (s0 : List (List TSlot)) (s1 : List THit) (s6 : Int) (s7 : Int) (t : Int) (h : ref26_Grow_l1 s0 s1 s6 s7 = some t) : LpOf Try.prog rd (fbody Try.prog 15) [0, 1, 0, 1, 1, 1] (ref26_Grow_l1_I s0 s1 s6 s7) ((ref26_Grow_l1_O s0 s1) t).1 ((ref26_Grow_l1_O s0 s1) t).2 :=
  loopE_lpR (fun s : Int × Int => ref26_Grow_l1_I s0 s1 s.1 s.2) (ref26_Grow_l1_O s0 s1) (by kernel_rfl) (fun t => isN_ne (by rfl)) (fun s o h => ref26_Grow_l1_rnd rd s0 s1 s.1 s.2 o h) (s := (s6, s7)) (t := t) h
def ref26_Grow_b7_I (s0 : List (List TSlot)) (s1 : List THit) (s5 : List (List TSlot)) (s6 : Int) (s8 : Int) (s9 : Int) (s10 : List TSlot) (s47 : Bool) : St := ⟨sp 52 0 [(0, .d ((D.l (D.l TSlot.D)) s0)), (1, .d ((D.l THit.D) s1)), (5, .d ((D.l (D.l TSlot.D)) s5)), (6, .d ((D.i .i64) s6)), (8, .d ((D.i .i64) s8)), (9, .d ((D.i .i64) s9)), (10, .d ((D.l TSlot.D) s10)), (47, .d (D.b s47))], [], []⟩
def ref26_Grow_b7_O (s0 : List (List TSlot)) (s1 : List THit) (s5 : List (List TSlot)) (s6 : Int) (s8 : Int) (s9 : Int) (s10 : List TSlot) (s47 : Bool) (o : (List (List TSlot))) : Ex × St := (.normal, ⟨sp 52 0 [(0, .d ((D.l (D.l TSlot.D)) s0)), (1, .d ((D.l THit.D) s1)), (5, .d ((D.l (D.l TSlot.D)) o)), (6, .d ((D.i .i64) s6)), (8, .d ((D.i .i64) s8)), (9, .d ((D.i .i64) s9))], [], []⟩)
theorem ref26_Grow_b7_ok (rd : Option Nat) (s0 : List (List TSlot)) (s1 : List THit) (s5 : List (List TSlot)) (s6 : Int) (s8 : Int) (s9 : Int) (s10 : List TSlot) (s47 : Bool) (o : (List (List TSlot))) (h : ref26_Grow_b7 s0 s1 s5 s6 s8 s9 s10 s47 = some o) : LpOf Try.prog rd (fbody Try.prog 15) [1, 1, 0, 0, 1, 0, 0, 1, 0, 0, 1, 0, 0, 1, 0, 1, 1, 1, 1] (ref26_Grow_b7_I s0 s1 s5 s6 s8 s9 s10 s47) (ref26_Grow_b7_O s0 s1 s5 s6 s8 s9 s10 s47 o).1 (ref26_Grow_b7_O s0 s1 s5 s6 s8 s9 s10 s47 o).2 := by
  unfold ref26_Grow_b7 at h
  cases s47 with
  | true =>
   replace h := iteT h
   obtain ⟨r12, h20, h⟩ := bS h
   obtain rfl := si h
   exact (runB_arr mixed [(50, .ret (.d ((D.l (D.l TSlot.D)) r12)))] [] [.live [0, 1, 5, 6, 8, 9], .keep []] (ai (ref05_Put_ok s5 s10 r12 h20) (ti)) (by kernel_rfl)).lp
  | false =>
   replace h := iteF h
   obtain rfl := si h
   exact (runB_arr mixed [] [] [.live [0, 1, 5, 6, 8, 9], .keep []] (ti) (by kernel_rfl)).lp
def ref26_Grow_b6_I (s0 : List (List TSlot)) (s1 : List THit) (s5 : List (List TSlot)) (s6 : Int) (s8 : Int) (s9 : Int) : St := ⟨sp 52 0 [(0, .d ((D.l (D.l TSlot.D)) s0)), (1, .d ((D.l THit.D) s1)), (5, .d ((D.l (D.l TSlot.D)) s5)), (6, .d ((D.i .i64) s6)), (8, .d ((D.i .i64) s8)), (9, .d ((D.i .i64) s9))], [], []⟩
def ref26_Grow_b6_O (s0 : List (List TSlot)) (s1 : List THit) (s5 : List (List TSlot)) (s6 : Int) (s8 : Int) (s9 : Int) (o : (List (List TSlot))) : Ex × St := (.normal, ⟨sp 52 0 [(0, .d ((D.l (D.l TSlot.D)) s0)), (1, .d ((D.l THit.D) s1)), (5, .d ((D.l (D.l TSlot.D)) o)), (6, .d ((D.i .i64) s6)), (8, .d ((D.i .i64) s8)), (9, .d ((D.i .i64) s9))], [], []⟩)
theorem ref26_Grow_b6_ok (rd : Option Nat) (s0 : List (List TSlot)) (s1 : List THit) (s5 : List (List TSlot)) (s6 : Int) (s8 : Int) (s9 : Int) (o : (List (List TSlot))) (h : ref26_Grow_b6 s0 s1 s5 s6 s8 s9 = some o) : LpOf Try.prog rd (fbody Try.prog 15) [0, 1, 0, 0, 1, 0, 0, 1, 0, 0, 1, 0, 1, 1, 1, 1] (ref26_Grow_b6_I s0 s1 s5 s6 s8 s9) (ref26_Grow_b6_O s0 s1 s5 s6 s8 s9 o).1 (ref26_Grow_b6_O s0 s1 s5 s6 s8 s9 o).2 := by
  unfold ref26_Grow_b6 at h
  obtain ⟨x9, h15, h⟩ := xS h
  obtain ⟨r10, h16, h⟩ := bS h
  rcases iS h with ⟨h17, h⟩ | ⟨h17, h⟩
  ·
   obtain ⟨r11, h18, h⟩ := bS h
   obtain ⟨o13, h21, h⟩ := bS h
   obtain rfl := si h
   exact (runB_arr mixed [(34, .el ((D.l TSlot.D) x9)), (38, .ret (.tup [.d ((D.l TSlot.D) r10.1), .d (D.b r10.2)])), (42, .bit true), (45, .ret (.d (D.b r11)))] [⟨[1, 1, 0, 0, 1, 0, 0, 1, 0, 0, 1, 0, 0, 1, 0, 1, 1, 1, 1], [.live [0, 1, 5, 6, 8, 9, 10, 47], .keep []], .normal, (ref26_Grow_b7_O s0 s1 s5 s6 s8 s9 r10.1 (!r11) o13).2⟩] [.live [0, 1, 5, 6, 8, 9], .keep []] (ai (elem_map (D.l TSlot.D) h15) (ai (ref26_join_ok x9 s1 s9 r10 h16) (ai h17 (ai (ref05_Has_ok s0 r10.1 r11 h18) (ai (ref26_Grow_b7_ok rd s0 s1 s5 s6 s8 s9 r10.1 (!r11) o13 h21) (ti)))))) (by kernel_rfl)).lp
  ·
   obtain ⟨o14, h22, h⟩ := bS h
   obtain rfl := si h
   exact (runB_arr mixed [(34, .el ((D.l TSlot.D) x9)), (38, .ret (.tup [.d ((D.l TSlot.D) r10.1), .d (D.b r10.2)])), (42, .bit false)] [⟨[1, 1, 0, 0, 1, 0, 0, 1, 0, 0, 1, 0, 0, 1, 0, 1, 1, 1, 1], [.live [0, 1, 5, 6, 8, 9, 10, 47], .keep []], .normal, (ref26_Grow_b7_O s0 s1 s5 s6 s8 s9 r10.1 false o14).2⟩] [.live [0, 1, 5, 6, 8, 9], .keep []] (ai (elem_map (D.l TSlot.D) h15) (ai (ref26_join_ok x9 s1 s9 r10 h16) (ai h17 (ai (ref26_Grow_b7_ok rd s0 s1 s5 s6 s8 s9 r10.1 false o14 h22) (ti))))) (by kernel_rfl)).lp
def ref26_Grow_l8_I (s0 : List (List TSlot)) (s1 : List THit) (s6 : Int) (s8 : Int) (s5 : List (List TSlot)) (s9 : Int) : St := ⟨sp 52 0 [(0, .d ((D.l (D.l TSlot.D)) s0)), (1, .d ((D.l THit.D) s1)), (5, .d ((D.l (D.l TSlot.D)) s5)), (6, .d ((D.i .i64) s6)), (8, .d ((D.i .i64) s8)), (9, .d ((D.i .i64) s9))], [], []⟩
def ref26_Grow_l8_O (s0 : List (List TSlot)) (s1 : List THit) (s6 : Int) (s8 : Int) (o : (List (List TSlot))) : Ex × St := (.exit 4, ⟨sp 52 0 [(0, .d ((D.l (D.l TSlot.D)) s0)), (1, .d ((D.l THit.D) s1)), (5, .d ((D.l (D.l TSlot.D)) o)), (6, .d ((D.i .i64) s6)), (8, .d ((D.i .i64) s8))], [], []⟩)
theorem ref26_Grow_l8_rnd (rd : Option Nat) (s0 : List (List TSlot)) (s1 : List THit) (s6 : Int) (s8 : Int) (s5 : List (List TSlot)) (s9 : Int) (o : (List (List TSlot) × Int) ⊕ ((List (List TSlot)))) (h : ref26_Grow_l8_s s0 s1 s6 s8 s5 s9 = some o) : Arr Try.prog rd (fbody Try.prog 15) (0 :: [0, 1, 0, 0, 1, 0, 0, 1, 0, 1, 1, 1, 1]) (ref26_Grow_l8_I s0 s1 s6 s8 s5 s9) (rR (fun s : List (List TSlot) × Int => ref26_Grow_l8_I s0 s1 s6 s8 s.1 s.2) (ref26_Grow_l8_O s0 s1 s6 s8) o).1 (rR (fun s : List (List TSlot) × Int => ref26_Grow_l8_I s0 s1 s6 s8 s.1 s.2) (ref26_Grow_l8_O s0 s1 s6 s8) o).2 := by
  unfold ref26_Grow_l8_s at h
  rcases iS h with ⟨h26, h⟩ | ⟨h26, h⟩
  ·
   obtain ⟨o17, h27, h⟩ := bS h
   obtain rfl := si h
   exact runB_arr mixed [(28, .bit true)] [⟨[0, 1, 0, 0, 1, 0, 0, 1, 0, 0, 1, 0, 1, 1, 1, 1], [.live [0, 1, 5, 6, 8, 9], .keep []], .normal, (ref26_Grow_b6_O s0 s1 s5 s6 s8 s9 o17).2⟩] [.live [0, 1, 5, 6, 8, 9], .keep []] (ai h26 (ai (ref26_Grow_b6_ok rd s0 s1 s5 s6 s8 s9 o17 h27) (ti))) (by kernel_rfl)
  ·
   obtain rfl := si h
   exact runB_arr mixed [(28, .bit false)] [] [.live [0, 1, 5, 6, 8], .keep []] (ai h26 (ti)) (by kernel_rfl)
theorem ref26_Grow_l8_ok (rd : Option Nat) (s0 : List (List TSlot)) (s1 : List THit) (s6 : Int) (s8 : Int) (s5 : List (List TSlot)) (s9 : Int) (t : (List (List TSlot))) (h : ref26_Grow_l8 s0 s1 s6 s8 s5 s9 = some t) : LpOf Try.prog rd (fbody Try.prog 15) [0, 1, 0, 0, 1, 0, 0, 1, 0, 1, 1, 1, 1] (ref26_Grow_l8_I s0 s1 s6 s8 s5 s9) ((ref26_Grow_l8_O s0 s1 s6 s8) t).1 ((ref26_Grow_l8_O s0 s1 s6 s8) t).2 :=
  loopE_lpR (fun s : List (List TSlot) × Int => ref26_Grow_l8_I s0 s1 s6 s8 s.1 s.2) (ref26_Grow_l8_O s0 s1 s6 s8) (by kernel_rfl) (fun t => isN_ne (by rfl)) (fun s o h => ref26_Grow_l8_rnd rd s0 s1 s6 s8 s.1 s.2 o h) (s := (s5, s9)) (t := t) h
def ref26_Grow_l2_I (s0 : List (List TSlot)) (s1 : List THit) (s6 : Int) (s5 : List (List TSlot)) (s8 : Int) : St := ⟨sp 52 0 [(0, .d ((D.l (D.l TSlot.D)) s0)), (1, .d ((D.l THit.D) s1)), (5, .d ((D.l (D.l TSlot.D)) s5)), (6, .d ((D.i .i64) s6)), (8, .d ((D.i .i64) s8))], [], []⟩
def ref26_Grow_l2_O (s0 : List (List TSlot)) (s1 : List THit) (s6 : Int) (o : (List (List TSlot))) : Ex × St := (.exit 2, ⟨sp 52 0 [(5, .d ((D.l (D.l TSlot.D)) o))], [], []⟩)
theorem ref26_Grow_l2_rnd (rd : Option Nat) (s0 : List (List TSlot)) (s1 : List THit) (s6 : Int) (s5 : List (List TSlot)) (s8 : Int) (o : (List (List TSlot) × Int) ⊕ ((List (List TSlot)))) (h : ref26_Grow_l2_s s0 s1 s6 s5 s8 = some o) : Arr Try.prog rd (fbody Try.prog 15) (0 :: [0, 1, 0, 1, 1, 1, 1]) (ref26_Grow_l2_I s0 s1 s6 s5 s8) (rR (fun s : List (List TSlot) × Int => ref26_Grow_l2_I s0 s1 s6 s.1 s.2) (ref26_Grow_l2_O s0 s1 s6) o).1 (rR (fun s : List (List TSlot) × Int => ref26_Grow_l2_I s0 s1 s6 s.1 s.2) (ref26_Grow_l2_O s0 s1 s6) o).2 := by
  unfold ref26_Grow_l2_s at h
  rcases iS h with ⟨h25, h⟩ | ⟨h25, h⟩
  ·
   obtain ⟨o18, h28, h⟩ := bS h
   obtain rfl := si h
   exact runB_arr mixed [(22, .int (s0.length : Int)), (23, .bit true)] [⟨[0, 1, 0, 0, 1, 0, 0, 1, 0, 1, 1, 1, 1], [.live [0, 1, 5, 6, 8, 9], .keep []], .exit 4, (ref26_Grow_l8_O s0 s1 s6 s8 o18).2⟩] [.live [0, 1, 5, 6, 8], .keep []] (ai (len_map (D.l TSlot.D) s0) (ai h25 (ai (ref26_Grow_l8_ok rd s0 s1 s6 s8 s5 1 o18 h28) (ti)))) (by kernel_rfl)
  ·
   obtain rfl := si h
   exact runB_arr mixed [(22, .int (s0.length : Int)), (23, .bit false)] [] [.live [5], .keep []] (ai (len_map (D.l TSlot.D) s0) (ai h25 (ti))) (by kernel_rfl)
theorem ref26_Grow_l2_ok (rd : Option Nat) (s0 : List (List TSlot)) (s1 : List THit) (s6 : Int) (s5 : List (List TSlot)) (s8 : Int) (t : (List (List TSlot))) (h : ref26_Grow_l2 s0 s1 s6 s5 s8 = some t) : LpOf Try.prog rd (fbody Try.prog 15) [0, 1, 0, 1, 1, 1, 1] (ref26_Grow_l2_I s0 s1 s6 s5 s8) ((ref26_Grow_l2_O s0 s1 s6) t).1 ((ref26_Grow_l2_O s0 s1 s6) t).2 :=
  loopE_lpR (fun s : List (List TSlot) × Int => ref26_Grow_l2_I s0 s1 s6 s.1 s.2) (ref26_Grow_l2_O s0 s1 s6) (by kernel_rfl) (fun t => isN_ne (by rfl)) (fun s o h => ref26_Grow_l2_rnd rd s0 s1 s6 s.1 s.2 o h) (s := (s5, s8)) (t := t) h
theorem ref26_Grow_ok (a0 : List (List TSlot)) (a1 : List THit) (r : List (List TSlot)) (h : ref26_Grow a0 a1 = some r) : ACall Try.prog 15 [.d ((D.l (D.l TSlot.D)) a0), .d ((D.l THit.D) a1)] [] (.d ((D.l (D.l TSlot.D)) r)) [] := by
  unfold ref26_Grow at h
  obtain ⟨o1, h2, h⟩ := bS h
  obtain ⟨o19, h29, h⟩ := bS h
  obtain rfl := si h
  exact runF_call mixed [] [⟨[0, 1, 0, 1, 1, 1], [.live [0, 1, 5, 6, 7], .keep []], .exit 0, (ref26_Grow_l1_O a0 a1 o1).2⟩, ⟨[0, 1, 0, 1, 1, 1, 1], [.look 5, .live [0, 1, 5, 6, 8], .keep []], .exit 2, (ref26_Grow_l2_O a0 a1 o1 o19).2⟩] [] (ai (ref26_Grow_l1_ok none a0 a1 1 0 o1 h2) (ai (ref26_Grow_l2_ok none a0 a1 o1 ([] : List (List TSlot)) 0 o19 h29) (ti))) (by kernel_rfl)
def law26_same_l1_I (s0 : List (List TSlot)) (s1 : List (List TSlot)) (s5 : Int) : St := ⟨sp 27 0 [(0, .d ((D.l (D.l TSlot.D)) s0)), (1, .d ((D.l (D.l TSlot.D)) s1)), (5, .d ((D.i .i64) s5))], [], []⟩
def law26_same_l1_O (s0 : List (List TSlot)) (s1 : List (List TSlot)) (o : Unit ⊕ Unit) : Ex × St := match o with
  | .inl o => (.exit 0, ⟨sp 27 0 [], [], []⟩)
  | .inr o => (.ret, ⟨sp 27 0 [(4, .d (D.b false))], [], []⟩)
theorem law26_same_l1_rnd (rd : Option Nat) (s0 : List (List TSlot)) (s1 : List (List TSlot)) (s5 : Int) (o : (Int) ⊕ (Unit ⊕ Unit)) (h : law26_same_l1_s s0 s1 s5 = some o) : Arr Try.prog rd (fbody Try.prog 13) (0 :: [0, 1, 0, 1, 1]) (law26_same_l1_I s0 s1 s5) (rR (fun s : Int => law26_same_l1_I s0 s1 s) (law26_same_l1_O s0 s1) o).1 (rR (fun s : Int => law26_same_l1_I s0 s1 s) (law26_same_l1_O s0 s1) o).2 := by
  unfold law26_same_l1_s at h
  rcases iS h with ⟨h2, h⟩ | ⟨h2, h⟩
  ·
   obtain ⟨x1, h3, h⟩ := xS h
   obtain ⟨x2, h4, h⟩ := xS h
   obtain ⟨r3, h5, h⟩ := bS h
   rcases iS h with ⟨h6, h⟩ | ⟨h6, h⟩
   ·
    obtain rfl := si h
    exact runB_arr mixed [(13, .int (s0.length : Int)), (14, .bit true), (19, .el ((D.l TSlot.D) x1)), (23, .el ((D.l TSlot.D) x2)), (25, .ret (.d (D.b r3))), (26, .bit true)] [] [.live [4], .keep []] (ai (len_map (D.l TSlot.D) s0) (ai h2 (ai (elem_map (D.l TSlot.D) h3) (ai (elem_map (D.l TSlot.D) h4) (ai (ref05_Same_ok x1 x2 r3 h5) (ai h6 (ti))))))) (by kernel_rfl)
   ·
    obtain rfl := si h
    exact runB_arr mixed [(13, .int (s0.length : Int)), (14, .bit true), (19, .el ((D.l TSlot.D) x1)), (23, .el ((D.l TSlot.D) x2)), (25, .ret (.d (D.b r3))), (26, .bit false)] [] [.live [0, 1, 5], .keep []] (ai (len_map (D.l TSlot.D) s0) (ai h2 (ai (elem_map (D.l TSlot.D) h3) (ai (elem_map (D.l TSlot.D) h4) (ai (ref05_Same_ok x1 x2 r3 h5) (ai h6 (ti))))))) (by kernel_rfl)
  ·
   obtain rfl := si h
   exact runB_arr mixed [(13, .int (s0.length : Int)), (14, .bit false)] [] [.live [], .keep []] (ai (len_map (D.l TSlot.D) s0) (ai h2 (ti))) (by kernel_rfl)
theorem law26_same_l1_ok (rd : Option Nat) (s0 : List (List TSlot)) (s1 : List (List TSlot)) (s5 : Int) (t : Unit ⊕ Unit) (h : law26_same_l1 s0 s1 s5 = some t) : LpOf Try.prog rd (fbody Try.prog 13) [0, 1, 0, 1, 1] (law26_same_l1_I s0 s1 s5) ((law26_same_l1_O s0 s1) t).1 ((law26_same_l1_O s0 s1) t).2 :=
  loopE_lpR (fun s : Int => law26_same_l1_I s0 s1 s) (law26_same_l1_O s0 s1) (by kernel_rfl) (fun t => isN_ne (by rcases t with (_ | _) <;> rfl)) (fun s o h => law26_same_l1_rnd rd s0 s1 s o h) (s := s5) (t := t) h
theorem law26_same_ok (a0 : List (List TSlot)) (a1 : List (List TSlot)) (r : Bool) (h : law26_same a0 a1 = some r) : ACall Try.prog 13 [.d ((D.l (D.l TSlot.D)) a0), .d ((D.l (D.l TSlot.D)) a1)] [] (.d (D.b r)) [] := by
  unfold law26_same at h
  rcases iS h with ⟨h1, h⟩ | ⟨h1, h⟩
  ·
   obtain rfl := si h
   exact runF_call mixed [(7, .int (a0.length : Int)), (9, .int (a1.length : Int)), (10, .bit true)] [] [] (ai (len_map (D.l TSlot.D) a0) (ai (len_map (D.l TSlot.D) a1) (ai h1 (ti)))) (by kernel_rfl)
  ·
   obtain ⟨o4, h7, h⟩ := bS h
   replace h := sumE_some h
   rcases h with ⟨o5, rfl, h⟩ | ⟨o6, rfl, h⟩
   ·
    obtain rfl := si h
    exact runF_call mixed [(7, .int (a0.length : Int)), (9, .int (a1.length : Int)), (10, .bit false)] [⟨[0, 1, 0, 1, 1], [.live [0, 1, 5], .keep []], .exit 0, (law26_same_l1_O a0 a1 (Sum.inl o5)).2⟩] [] (ai (len_map (D.l TSlot.D) a0) (ai (len_map (D.l TSlot.D) a1) (ai h1 (ai (law26_same_l1_ok none a0 a1 0 (Sum.inl o5) h7) (ti))))) (by kernel_rfl)
   ·
    obtain rfl := si h
    exact runF_call mixed [(7, .int (a0.length : Int)), (9, .int (a1.length : Int)), (10, .bit false)] [⟨[0, 1, 0, 1, 1], [.live [0, 1, 5], .keep []], .ret, (law26_same_l1_O a0 a1 (Sum.inr o6)).2⟩] [] (ai (len_map (D.l TSlot.D) a0) (ai (len_map (D.l TSlot.D) a1) (ai h1 (ai (law26_same_l1_ok none a0 a1 0 (Sum.inr o6) h7) (ti))))) (by kernel_rfl)
def extend_Some_b4_I (uz : List Value) (s10_1 : List (List TSlot)) (s10_2 : List TSlot) (s11 : List TSlot) (w600 : List (List TSlot)) (w998_1 : List (List TSlot)) (w998_2 : List TSlot) : St := ⟨sp 17 0 [(5, .box 5 0), (10, .clo (.func 60) [] [.eptr (D.cells ((D.l (D.l TSlot.D)) s10_1)), .eptr (D.cells ((D.l TSlot.D) s10_2))]), (11, .d ((D.l TSlot.D) s11))], [(5, .cells ([.box 914 0])), (600, .rw 23 1 (w600.map (D.l TSlot.D))), (914, .cells ([.row 600, .clo (.func 35) [] []])), (998, .vals (sp 17 0 [(5, .box 5 0), (10, .clo (.func 60) [] [.eptr (D.cells ((D.l (D.l TSlot.D)) w998_1)), .eptr (D.cells ((D.l TSlot.D) w998_2))])]) uz)], []⟩
def extend_Some_b4_O (uz : List Value) (s10_1 : List (List TSlot)) (s10_2 : List TSlot) (s11 : List TSlot) (w600 : List (List TSlot)) (w998_1 : List (List TSlot)) (w998_2 : List TSlot) (o : Unit) : Ex × St := (.normal, ⟨sp 17 0 [(5, .box 5 0), (6, .d ((D.l TSlot.D) s11)), (10, .clo (.func 60) [] [.eptr (D.cells ((D.l (D.l TSlot.D)) s10_1)), .eptr (D.cells ((D.l TSlot.D) s10_2))])], [(5, .cells ([.box 914 0])), (600, .rw 23 1 (w600.map (D.l TSlot.D))), (914, .cells ([.row 600, .clo (.func 35) [] []])), (998, .vals (sp 17 0 [(5, .box 5 0), (10, .clo (.func 60) [] [.eptr (D.cells ((D.l (D.l TSlot.D)) w998_1)), .eptr (D.cells ((D.l TSlot.D) w998_2))])]) uz)], []⟩)
theorem extend_Some_b4_ok (rd : Option Nat) (uz : List Value) (s10_1 : List (List TSlot)) (s10_2 : List TSlot) (s11 : List TSlot) (w600 : List (List TSlot)) (w998_1 : List (List TSlot)) (w998_2 : List TSlot) (o : Unit) (h : extend_Some_b4 s10_1 s10_2 s11 w600 w998_1 w998_2 = some o) : LpOf Try.prog rd (fbody Try.prog 16) [0, 0, 1, 0, 1, 1] (extend_Some_b4_I uz s10_1 s10_2 s11 w600 w998_1 w998_2) (extend_Some_b4_O uz s10_1 s10_2 s11 w600 w998_1 w998_2 o).1 (extend_Some_b4_O uz s10_1 s10_2 s11 w600 w998_1 w998_2 o).2 := by
  unfold extend_Some_b4 at h
  obtain rfl := si h
  exact (runB_arr mixed [] [] [.live [5, 6, 10], .keep [5, 600, 914, 998]] (ti) (by kernel_rfl)).lp
def extend_Some_b6_I (uz : List Value) (s6 : List TSlot) (s10_1 : List (List TSlot)) (s10_2 : List TSlot) (w600 : List (List TSlot)) (w998_1 : List (List TSlot)) (w998_2 : List TSlot) : St := ⟨sp 17 0 [(5, .box 5 0), (6, .d ((D.l TSlot.D) s6)), (10, .clo (.func 60) [] [.eptr (D.cells ((D.l (D.l TSlot.D)) s10_1)), .eptr (D.cells ((D.l TSlot.D) s10_2))])], [(5, .cells ([.box 914 0])), (600, .rw 23 1 (w600.map (D.l TSlot.D))), (914, .cells ([.row 600, .clo (.func 35) [] []])), (998, .vals (sp 17 0 [(5, .box 5 0), (10, .clo (.func 60) [] [.eptr (D.cells ((D.l (D.l TSlot.D)) w998_1)), .eptr (D.cells ((D.l TSlot.D) w998_2))])]) uz)], []⟩
def extend_Some_b6_O (uz : List Value) (s6 : List TSlot) (s10_1 : List (List TSlot)) (s10_2 : List TSlot) (w600 : List (List TSlot)) (w998_1 : List (List TSlot)) (w998_2 : List TSlot) (o : (List (List TSlot))) : Ex × St := (.normal, ⟨sp 17 0 [], [(5, .cells ([.box 914 0])), (600, .rw 23 1 (o.map (D.l TSlot.D))), (914, .cells ([.row 600, .clo (.func 35) [] []])), (998, .vals (sp 17 0 [(5, .box 5 0), (10, .clo (.func 60) [] [.eptr (D.cells ((D.l (D.l TSlot.D)) w998_1)), .eptr (D.cells ((D.l TSlot.D) w998_2))])]) uz)], []⟩)
theorem extend_Some_b6_ok (rd : Option Nat) (uz : List Value) (s6 : List TSlot) (s10_1 : List (List TSlot)) (s10_2 : List TSlot) (w600 : List (List TSlot)) (w998_1 : List (List TSlot)) (w998_2 : List TSlot) (o : (List (List TSlot))) (h : extend_Some_b6 s6 s10_1 s10_2 w600 w998_1 w998_2 = some o) : LpOf Try.prog rd (fbody Try.prog 16) [1, 0, 1, 0, 1, 1] (extend_Some_b6_I uz s6 s10_1 s10_2 w600 w998_1 w998_2) (extend_Some_b6_O uz s6 s10_1 s10_2 w600 w998_1 w998_2 o).1 (extend_Some_b6_O uz s6 s10_1 s10_2 w600 w998_1 w998_2 o).2 := by
  unfold extend_Some_b6 at h
  obtain ⟨r10, h5, h⟩ := bS h
  obtain rfl := si h
  exact (runB_arr mixed [(14, .cx false [(0, 914), (1, 600)] [(2, 14)] (.d (D.b r10.1)) [(0, .cells ([.row 2, .clo (.func 35) [] []])), (2, .rw 23 1 (r10.2.map (D.l TSlot.D)))])] [] [.live [], .keep [5, 14, 914, 998], .ren 14 600, .sort] (ai (domain_Set_Slot_Put_v3_ok s6 w600 r10 h5) (ti)) (by kernel_rfl)).lp
def extend_Some_r1_E (s10_1 : List (List TSlot)) (s10_2 : List TSlot) : List A := sp 17 0 [(5, .box 5 0), (10, .clo (.func 60) [] [.eptr (D.cells ((D.l (D.l TSlot.D)) s10_1)), .eptr (D.cells ((D.l TSlot.D) s10_2))])]
def extend_Some_r1_BL (s10_1 : List (List TSlot)) (s10_2 : List TSlot) (s : List (List TSlot)) : Bx := [(5, .cells ([.box 914 0])), (600, .rw 23 1 (s.map (D.l TSlot.D))), (914, .cells ([.row 600, .clo (.func 35) [] []]))]
def extend_Some_r1_BT (s10_1 : List (List TSlot)) (s10_2 : List TSlot) (t : Empty) : Bx := t.elim
def extend_Some_r1_X (t : Empty) : Ex := t.elim
def extend_Some_r1_O (s10_1 : List (List TSlot)) (s10_2 : List TSlot) (o : (List (List TSlot)) ⊕ (Empty)) : Ex × St := (rex extend_Some_r1_X o, ⟨extend_Some_r1_E s10_1 s10_2, rbx (extend_Some_r1_BL s10_1 s10_2) (extend_Some_r1_BT s10_1 s10_2) o, rbx (fun _ => []) (fun _ => []) o⟩)
theorem extend_Some_r1_rnd (s10_1 : List (List TSlot)) (s10_2 : List TSlot) (s : List (List TSlot)) (x : (List TSlot)) (o : (List (List TSlot)) ⊕ (Empty)) (h : extend_Some_r1_rd s10_1 s10_2 s x = some o) (m : Nat) (uz : List Value) : ∃ M E1, LpOf Try.prog (some m) (fbody Try.prog 16) (0 :: [0, 1, 0, 1, 1]) ⟨setPs (extend_Some_r1_E s10_1 s10_2) ((Array.toList #[11]).zip (extend_unions_1_enc x)), extend_Some_r1_BL s10_1 s10_2 s ++ [(vn, .vals (extend_Some_r1_E s10_1 s10_2) uz)], (fun _ => []) s⟩ .normal M ∧
    LpOf Try.prog (some m) (fbody Try.prog 16) (1 :: [0, 1, 0, 1, 1]) M (rex extend_Some_r1_X o) ⟨E1, rbx (extend_Some_r1_BL s10_1 s10_2) (extend_Some_r1_BT s10_1 s10_2) o ++ [(vn, .vals (extend_Some_r1_E s10_1 s10_2) uz)], rbx (fun _ => []) (fun _ => []) o⟩ := by
  unfold extend_Some_r1_rd at h
  obtain ⟨o9, h8, h⟩ := bS h
  obtain ⟨o11, h9, h⟩ := bS h
  obtain rfl := si h
  exact ⟨(extend_Some_b4_O uz s10_1 s10_2 x s s10_1 s10_2 o9).2, sp 17 0 [], lp_wks (w := [.live [5, 10, 11], .keep [5, 600, 914, 998]]) (s1 := extend_Some_b4_I uz s10_1 s10_2 x s s10_1 s10_2) (by kernel_rfl) (lp_cast (extend_Some_b4_ok (some m) uz s10_1 s10_2 x s s10_1 s10_2 o9 h8) rfl (by kernel_rfl) rfl), lp_wks (w := [.live [5, 6, 10], .keep [5, 600, 914, 998]]) (s1 := extend_Some_b6_I uz x s10_1 s10_2 s s10_1 s10_2) (by kernel_rfl) (lp_cast (extend_Some_b6_ok (some m) uz x s10_1 s10_2 s s10_1 s10_2 o11 h9) rfl (by kernel_rfl) (by kernel_rfl))⟩
theorem extend_Some_r1_ok (s10_1 : List (List TSlot)) (s10_2 : List TSlot) (s : List (List TSlot)) (o : (List (List TSlot)) ⊕ (Empty)) (h : extend_unions_1 (stepOf (extend_Some_r1_rd s10_1 s10_2)) s10_1 s10_2 (.inl s) = some o) : LpOf Try.prog none (fbody Try.prog 16) [0, 1, 0, 1, 1] ⟨extend_Some_r1_E s10_1 s10_2, extend_Some_r1_BL s10_1 s10_2 s, (fun _ => []) s⟩ (extend_Some_r1_O s10_1 s10_2 o).1 (extend_Some_r1_O s10_1 s10_2 o).2 :=
  range_ok (p := [0, 1, 0, 1, 1]) (g := .tmp 10) (ps := #[11]) (assign := codeAt (fbody Try.prog 16) (0 :: [0, 1, 0, 1, 1])) (body := codeAt (fbody Try.prog 16) (1 :: [0, 1, 0, 1, 1])) (by kernel_rfl) (extend_Some_r1_BL s10_1 s10_2) (extend_Some_r1_BT s10_1 s10_2) (fun _ => []) (fun _ => []) extend_Some_r1_X extend_unions_1_enc (extend_Some_r1_rd s10_1 s10_2) (gf := 60) (cs := [.eptr (D.cells ((D.l (D.l TSlot.D)) s10_1)), .eptr (D.cells ((D.l TSlot.D) s10_2))]) (by kernel_rfl) (by kernel_rfl) (by kernel_rfl) (fun x => ⟨by kernel_rfl, by kernel_rfl⟩) (fun s us => by kernel_rfl) (fun t us => t.elim) (fun s => rfl) (fun t => t.elim) (by kernel_rfl) (fun t => t.elim) (fun s => FOk.nil) (fun t => FOk.nil) (fun s x o h m us => extend_Some_r1_rnd s10_1 s10_2 s x o h m us) (extend_unions_1_ok (stepOf (extend_Some_r1_rd s10_1 s10_2)) s10_1 s10_2 (.inl s) o h)
theorem extend_Some_ok (a0 : List (List TSlot)) (a1 : List TSlot) (r : List (List TSlot)) (h : extend_Some a0 a1 = some r) : ACall Try.prog 16 [.d ((D.l (D.l TSlot.D)) a0), .d ((D.l TSlot.D) a1)] [] (.d ((D.l (D.l TSlot.D)) r)) [] := by
  unfold extend_Some at h
  obtain ⟨r1, h1, h⟩ := bS h
  obtain ⟨r2, h2, h⟩ := bS h
  obtain ⟨o12, h6, h⟩ := bS h
  replace h := sumE_some h
  rcases h with ⟨o13, rfl, h⟩ | ⟨o14, rfl, h⟩
  ·
   obtain ⟨r15, h7, h⟩ := bS h
   obtain rfl := si h
   exact runF_call mixed [(7, .cx false [] [(0, 414)] (.box 0 0) [(0, .cells ([.nil, .clo (.func 35) [] []]))]), (10, .ret (.clo (.func 60) [] [.eptr (D.cells ((D.l (D.l TSlot.D)) r2.1)), .eptr (D.cells ((D.l TSlot.D) r2.2))])), (16, .cx false [(0, 914), (1, 600)] [(2, 16)] (.d ((D.l (D.l TSlot.D)) r15.1)) [(0, .cells ([.row 2, .clo (.func 35) [] []])), (2, .rw 23 1 (r15.2.map (D.l TSlot.D)))])] [⟨[0, 1, 0, 1, 1], [.live [5, 10], .keep [5, 414], .ren 414 914, .nilc 914 0 600 23 1, .sort], .normal, (extend_Some_r1_O r2.1 r2.2 (Sum.inl o13)).2⟩] [] (ai (domain_NewSet_Slot_v2_ok r1 h1) (ai (extend_unions_ok a0 a1 r2 h2) (ai (extend_Some_r1_ok r2.1 r2.2 ([] : List (List TSlot)) (Sum.inl o13) h6) (ai (domain_Set_Slot_All_ok o13 r15 h7) (ti))))) (by kernel_rfl)
  ·
   cases h
def law26_ExtendGrows_b5_I (s0 : List (List TSlot)) (s2 : List TSlot) (s7 : List THit) (s8 : List (List TSlot)) (s9 : Int) (s48 : Bool) : St := ⟨sp 74 0 [(0, .d ((D.l (D.l TSlot.D)) s0)), (2, .d ((D.l TSlot.D) s2)), (7, .d ((D.l THit.D) s7)), (8, .d ((D.l (D.l TSlot.D)) s8)), (9, .d ((D.i .i64) s9)), (48, .d (D.b s48))], [], []⟩
def law26_ExtendGrows_b5_O (s0 : List (List TSlot)) (s2 : List TSlot) (s7 : List THit) (s8 : List (List TSlot)) (s9 : Int) (s48 : Bool) (o : (List (List TSlot))) : Ex × St := (.normal, ⟨sp 74 0 [(0, .d ((D.l (D.l TSlot.D)) s0)), (2, .d ((D.l TSlot.D) s2)), (7, .d ((D.l THit.D) s7)), (8, .d ((D.l (D.l TSlot.D)) o)), (9, .d ((D.i .i64) s9))], [], []⟩)
theorem law26_ExtendGrows_b5_ok (rd : Option Nat) (s0 : List (List TSlot)) (s2 : List TSlot) (s7 : List THit) (s8 : List (List TSlot)) (s9 : Int) (s48 : Bool) (o : (List (List TSlot))) (h : law26_ExtendGrows_b5 s0 s2 s7 s8 s9 s48 = some o) : LpOf Try.prog rd (fbody Try.prog 3) [1, 0, 0, 1, 0, 0, 1, 0, 1, 1, 1, 1] (law26_ExtendGrows_b5_I s0 s2 s7 s8 s9 s48) (law26_ExtendGrows_b5_O s0 s2 s7 s8 s9 s48 o).1 (law26_ExtendGrows_b5_O s0 s2 s7 s8 s9 s48 o).2 := by
  unfold law26_ExtendGrows_b5 at h
  cases s48 with
  | true =>
   replace h := iteT h
   obtain ⟨x19, h28, h⟩ := xS h
   obtain ⟨r20, h29, h⟩ := bS h
   obtain ⟨r21, h30, h⟩ := bS h
   obtain rfl := si h
   exact (runB_arr mixed [(52, .el ((D.l TSlot.D) x19)), (55, .ret (.d ((D.l TSlot.D) r20))), (56, .ret (.d ((D.l (D.l TSlot.D)) r21)))] [] [.live [0, 2, 7, 8, 9], .keep []] (ai (elem_map (D.l TSlot.D) h28) (ai (ref05_Union_ok x19 s2 r20 h29) (ai (ref05_Put_ok s8 r20 r21 h30) (ti)))) (by kernel_rfl)).lp
  | false =>
   replace h := iteF h
   obtain rfl := si h
   exact (runB_arr mixed [] [] [.live [0, 2, 7, 8, 9], .keep []] (ti) (by kernel_rfl)).lp
def law26_ExtendGrows_b4_I (s0 : List (List TSlot)) (s2 : List TSlot) (s7 : List THit) (s8 : List (List TSlot)) (s9 : Int) : St := ⟨sp 74 0 [(0, .d ((D.l (D.l TSlot.D)) s0)), (2, .d ((D.l TSlot.D) s2)), (7, .d ((D.l THit.D) s7)), (8, .d ((D.l (D.l TSlot.D)) s8)), (9, .d ((D.i .i64) s9))], [], []⟩
def law26_ExtendGrows_b4_O (s0 : List (List TSlot)) (s2 : List TSlot) (s7 : List THit) (s8 : List (List TSlot)) (s9 : Int) (o : (List (List TSlot))) : Ex × St := (.normal, ⟨sp 74 0 [(0, .d ((D.l (D.l TSlot.D)) s0)), (2, .d ((D.l TSlot.D) s2)), (7, .d ((D.l THit.D) s7)), (8, .d ((D.l (D.l TSlot.D)) o)), (9, .d ((D.i .i64) s9))], [], []⟩)
theorem law26_ExtendGrows_b4_ok (rd : Option Nat) (s0 : List (List TSlot)) (s2 : List TSlot) (s7 : List THit) (s8 : List (List TSlot)) (s9 : Int) (o : (List (List TSlot))) (h : law26_ExtendGrows_b4 s0 s2 s7 s8 s9 = some o) : LpOf Try.prog rd (fbody Try.prog 3) [0, 1, 0, 0, 1, 0, 1, 1, 1, 1] (law26_ExtendGrows_b4_I s0 s2 s7 s8 s9) (law26_ExtendGrows_b4_O s0 s2 s7 s8 s9 o).1 (law26_ExtendGrows_b4_O s0 s2 s7 s8 s9 o).2 := by
  unfold law26_ExtendGrows_b4 at h
  obtain ⟨x17, h25, h⟩ := xS h
  obtain ⟨r18, h26, h⟩ := bS h
  obtain ⟨o22, h31, h⟩ := bS h
  obtain rfl := si h
  exact (runB_arr mixed [(45, .el ((D.l TSlot.D) x17)), (48, .ret (.d (D.b r18)))] [⟨[1, 0, 0, 1, 0, 0, 1, 0, 1, 1, 1, 1], [.live [0, 2, 7, 8, 9, 48], .keep []], .normal, (law26_ExtendGrows_b5_O s0 s2 s7 s8 s9 r18 o22).2⟩] [.live [0, 2, 7, 8, 9], .keep []] (ai (elem_map (D.l TSlot.D) h25) (ai (ref05_Fits_ok x17 s2 r18 h26) (ai (law26_ExtendGrows_b5_ok rd s0 s2 s7 s8 s9 r18 o22 h31) (ti)))) (by kernel_rfl)).lp
def law26_ExtendGrows_l1_I (s0 : List (List TSlot)) (s2 : List TSlot) (s7 : List THit) (s8 : List (List TSlot)) (s9 : Int) : St := ⟨sp 74 0 [(0, .d ((D.l (D.l TSlot.D)) s0)), (2, .d ((D.l TSlot.D) s2)), (7, .d ((D.l THit.D) s7)), (8, .d ((D.l (D.l TSlot.D)) s8)), (9, .d ((D.i .i64) s9))], [], []⟩
def law26_ExtendGrows_l1_O (s0 : List (List TSlot)) (s2 : List TSlot) (s7 : List THit) (o : (List (List TSlot))) : Ex × St := (.exit 0, ⟨sp 74 0 [(0, .d ((D.l (D.l TSlot.D)) s0)), (2, .d ((D.l TSlot.D) s2)), (7, .d ((D.l THit.D) s7)), (8, .d ((D.l (D.l TSlot.D)) o))], [], []⟩)
theorem law26_ExtendGrows_l1_rnd (rd : Option Nat) (s0 : List (List TSlot)) (s2 : List TSlot) (s7 : List THit) (s8 : List (List TSlot)) (s9 : Int) (o : (List (List TSlot) × Int) ⊕ ((List (List TSlot)))) (h : law26_ExtendGrows_l1_s s0 s2 s7 s8 s9 = some o) : Arr Try.prog rd (fbody Try.prog 3) (0 :: [0, 1, 0, 1, 1, 1, 1]) (law26_ExtendGrows_l1_I s0 s2 s7 s8 s9) (rR (fun s : List (List TSlot) × Int => law26_ExtendGrows_l1_I s0 s2 s7 s.1 s.2) (law26_ExtendGrows_l1_O s0 s2 s7) o).1 (rR (fun s : List (List TSlot) × Int => law26_ExtendGrows_l1_I s0 s2 s7 s.1 s.2) (law26_ExtendGrows_l1_O s0 s2 s7) o).2 := by
  unfold law26_ExtendGrows_l1_s at h
  rcases iS h with ⟨h24, h⟩ | ⟨h24, h⟩
  ·
   obtain ⟨o23, h32, h⟩ := bS h
   obtain rfl := si h
   exact runB_arr mixed [(39, .int (s0.length : Int)), (40, .bit true)] [⟨[0, 1, 0, 0, 1, 0, 1, 1, 1, 1], [.live [0, 2, 7, 8, 9], .keep []], .normal, (law26_ExtendGrows_b4_O s0 s2 s7 s8 s9 o23).2⟩] [.live [0, 2, 7, 8, 9], .keep []] (ai (len_map (D.l TSlot.D) s0) (ai h24 (ai (law26_ExtendGrows_b4_ok rd s0 s2 s7 s8 s9 o23 h32) (ti)))) (by kernel_rfl)
  ·
   obtain rfl := si h
   exact runB_arr mixed [(39, .int (s0.length : Int)), (40, .bit false)] [] [.live [0, 2, 7, 8], .keep []] (ai (len_map (D.l TSlot.D) s0) (ai h24 (ti))) (by kernel_rfl)
theorem law26_ExtendGrows_l1_ok (rd : Option Nat) (s0 : List (List TSlot)) (s2 : List TSlot) (s7 : List THit) (s8 : List (List TSlot)) (s9 : Int) (t : (List (List TSlot))) (h : law26_ExtendGrows_l1 s0 s2 s7 s8 s9 = some t) : LpOf Try.prog rd (fbody Try.prog 3) [0, 1, 0, 1, 1, 1, 1] (law26_ExtendGrows_l1_I s0 s2 s7 s8 s9) ((law26_ExtendGrows_l1_O s0 s2 s7) t).1 ((law26_ExtendGrows_l1_O s0 s2 s7) t).2 :=
  loopE_lpR (fun s : List (List TSlot) × Int => law26_ExtendGrows_l1_I s0 s2 s7 s.1 s.2) (law26_ExtendGrows_l1_O s0 s2 s7) (by kernel_rfl) (fun t => isN_ne (by rfl)) (fun s o h => law26_ExtendGrows_l1_rnd rd s0 s2 s7 s.1 s.2 o h) (s := (s8, s9)) (t := t) h
theorem law26_ExtendGrows_ok (a0 : List (List TSlot)) (a1 : List (List TSlot)) (a2 : List TSlot) (r : Bool) (h : law26_ExtendGrows a0 a1 a2 = some r) : ACall Try.prog 3 [.d ((D.l (D.l TSlot.D)) a0), .d ((D.l (D.l TSlot.D)) a1), .d ((D.l TSlot.D) a2)] [] (.d (D.b r)) [] := by
  unfold law26_ExtendGrows at h
  rcases iS h with ⟨h1, h⟩ | ⟨h1, h⟩
  ·
   obtain ⟨r1, h2, h⟩ := bS h
   obtain rfl := si h
   exact runF_call mixed [(11, .int (a0.length : Int)), (13, .bit true), (34, .ret (.d (D.b r1)))] [] [] (ai (len_map (D.l TSlot.D) a0) (ai h1 (ai (law26_awake_ok r1 h2) (ti)))) (by kernel_rfl)
  ·
   rcases iS h with ⟨h3, h⟩ | ⟨h3, h⟩
   ·
    obtain ⟨r2, h4, h⟩ := bS h
    obtain rfl := si h
    exact runF_call mixed [(11, .int (a0.length : Int)), (13, .bit false), (15, .int (a1.length : Int)), (18, .bit true), (34, .ret (.d (D.b r2)))] [] [] (ai (len_map (D.l TSlot.D) a0) (ai h1 (ai (len_map (D.l TSlot.D) a1) (ai h3 (ai (law26_awake_ok r2 h4) (ti)))))) (by kernel_rfl)
   ·
    obtain ⟨r3, h5, h⟩ := bS h
    rcases iS h with ⟨h6, h⟩ | ⟨h6, h⟩
    ·
     obtain ⟨r4, h7, h⟩ := bS h
     obtain rfl := si h
     exact runF_call mixed [(11, .int (a0.length : Int)), (13, .bit false), (15, .int (a1.length : Int)), (18, .bit false), (20, .ret (.d (D.b r3))), (23, .bit true), (34, .ret (.d (D.b r4)))] [] [] (ai (len_map (D.l TSlot.D) a0) (ai h1 (ai (len_map (D.l TSlot.D) a1) (ai h3 (ai (law26_right_ok a0 r3 h5) (ai h6 (ai (law26_awake_ok r4 h7) (ti)))))))) (by kernel_rfl)
    ·
     obtain ⟨r5, h8, h⟩ := bS h
     rcases iS h with ⟨h9, h⟩ | ⟨h9, h⟩
     ·
      obtain ⟨r6, h10, h⟩ := bS h
      obtain rfl := si h
      exact runF_call mixed [(11, .int (a0.length : Int)), (13, .bit false), (15, .int (a1.length : Int)), (18, .bit false), (20, .ret (.d (D.b r3))), (23, .bit false), (25, .ret (.d (D.b r5))), (28, .bit true), (34, .ret (.d (D.b r6)))] [] [] (ai (len_map (D.l TSlot.D) a0) (ai h1 (ai (len_map (D.l TSlot.D) a1) (ai h3 (ai (law26_right_ok a0 r3 h5) (ai h6 (ai (law26_right_ok a1 r5 h8) (ai h9 (ai (law26_awake_ok r6 h10) (ti)))))))))) (by kernel_rfl)
     ·
      obtain ⟨r7, h11, h⟩ := bS h
      rcases iS h with ⟨h12, h⟩ | ⟨h12, h⟩
      ·
       obtain ⟨r8, h13, h⟩ := bS h
       obtain rfl := si h
       exact runF_call mixed [(11, .int (a0.length : Int)), (13, .bit false), (15, .int (a1.length : Int)), (18, .bit false), (20, .ret (.d (D.b r3))), (23, .bit false), (25, .ret (.d (D.b r5))), (28, .bit false), (31, .ret (.d (D.b r7))), (33, .bit true), (34, .ret (.d (D.b r8)))] [] [] (ai (len_map (D.l TSlot.D) a0) (ai h1 (ai (len_map (D.l TSlot.D) a1) (ai h3 (ai (law26_right_ok a0 r3 h5) (ai h6 (ai (law26_right_ok a1 r5 h8) (ai h9 (ai (nc_ok (D.l TSlot.D) [a2]) (ai (law26_right_ok [a2] r7 h11) (ai h12 (ai (law26_awake_ok r8 h13) (ti))))))))))))) (by kernel_rfl)
      ·
       obtain ⟨r9, h14, h⟩ := bS h
       obtain ⟨o24, h33, h⟩ := bS h
       obtain ⟨r25, h34, h⟩ := bS h
       obtain ⟨r26, h35, h⟩ := bS h
       obtain ⟨r27, h36, h⟩ := bS h
       cases r27 with
       | true =>
        replace h := iteT h
        obtain ⟨r28, h38, h⟩ := bS h
        obtain ⟨r29, h39, h⟩ := bS h
        cases r29 with
        | true =>
         replace h := iteT h
         obtain ⟨r30, h41, h⟩ := bS h
         obtain rfl := si h
         exact runF_call mixed [(11, .int (a0.length : Int)), (13, .bit false), (15, .int (a1.length : Int)), (18, .bit false), (20, .ret (.d (D.b r3))), (23, .bit false), (25, .ret (.d (D.b r5))), (28, .bit false), (31, .ret (.d (D.b r7))), (33, .bit false), (36, .ret (.d ((D.l THit.D) r9))), (59, .ret (.d ((D.l (D.l TSlot.D)) r25))), (62, .ret (.d ((D.l (D.l TSlot.D)) r26))), (63, .ret (.d (D.b true))), (67, .ret (.d ((D.l (D.l TSlot.D)) r28))), (69, .ret (.d (D.b true))), (72, .ret (.d (D.b r30)))] [⟨[0, 1, 0, 1, 1, 1, 1], [.look 8, .live [0, 2, 7, 8, 9], .keep []], .exit 0, (law26_ExtendGrows_l1_O a0 a2 r9 o24).2⟩] [] (ai (len_map (D.l TSlot.D) a0) (ai h1 (ai (len_map (D.l TSlot.D) a1) (ai h3 (ai (law26_right_ok a0 r3 h5) (ai h6 (ai (law26_right_ok a1 r5 h8) (ai h9 (ai (nc_ok (D.l TSlot.D) [a2]) (ai (law26_right_ok [a2] r7 h11) (ai h12 (ai (law26_hits_ok a1 r9 h14) (ai (law26_ExtendGrows_l1_ok none a0 a2 r9 ([] : List (List TSlot)) 0 o24 h33) (ai (extend_Grow_ok a0 r9 r25 h34) (ai (ref26_Grow_ok a0 r9 r26 h35) (ai (law26_same_ok r25 r26 true h36) (ai (extend_Some_ok a0 a2 r28 h38) (ai (law26_same_ok r28 o24 true h39) (ai (law26_awake_ok r30 h41) (ti)))))))))))))))))))) (by kernel_rfl)
        | false =>
         replace h := iteF h
         obtain rfl := si h
         exact runF_call mixed [(11, .int (a0.length : Int)), (13, .bit false), (15, .int (a1.length : Int)), (18, .bit false), (20, .ret (.d (D.b r3))), (23, .bit false), (25, .ret (.d (D.b r5))), (28, .bit false), (31, .ret (.d (D.b r7))), (33, .bit false), (36, .ret (.d ((D.l THit.D) r9))), (59, .ret (.d ((D.l (D.l TSlot.D)) r25))), (62, .ret (.d ((D.l (D.l TSlot.D)) r26))), (63, .ret (.d (D.b true))), (67, .ret (.d ((D.l (D.l TSlot.D)) r28))), (69, .ret (.d (D.b false)))] [⟨[0, 1, 0, 1, 1, 1, 1], [.look 8, .live [0, 2, 7, 8, 9], .keep []], .exit 0, (law26_ExtendGrows_l1_O a0 a2 r9 o24).2⟩] [] (ai (len_map (D.l TSlot.D) a0) (ai h1 (ai (len_map (D.l TSlot.D) a1) (ai h3 (ai (law26_right_ok a0 r3 h5) (ai h6 (ai (law26_right_ok a1 r5 h8) (ai h9 (ai (nc_ok (D.l TSlot.D) [a2]) (ai (law26_right_ok [a2] r7 h11) (ai h12 (ai (law26_hits_ok a1 r9 h14) (ai (law26_ExtendGrows_l1_ok none a0 a2 r9 ([] : List (List TSlot)) 0 o24 h33) (ai (extend_Grow_ok a0 r9 r25 h34) (ai (ref26_Grow_ok a0 r9 r26 h35) (ai (law26_same_ok r25 r26 true h36) (ai (extend_Some_ok a0 a2 r28 h38) (ai (law26_same_ok r28 o24 false h39) (ti))))))))))))))))))) (by kernel_rfl)
       | false =>
        replace h := iteF h
        obtain rfl := si h
        exact runF_call mixed [(11, .int (a0.length : Int)), (13, .bit false), (15, .int (a1.length : Int)), (18, .bit false), (20, .ret (.d (D.b r3))), (23, .bit false), (25, .ret (.d (D.b r5))), (28, .bit false), (31, .ret (.d (D.b r7))), (33, .bit false), (36, .ret (.d ((D.l THit.D) r9))), (59, .ret (.d ((D.l (D.l TSlot.D)) r25))), (62, .ret (.d ((D.l (D.l TSlot.D)) r26))), (63, .ret (.d (D.b false)))] [⟨[0, 1, 0, 1, 1, 1, 1], [.look 8, .live [0, 2, 7, 8, 9], .keep []], .exit 0, (law26_ExtendGrows_l1_O a0 a2 r9 o24).2⟩] [] (ai (len_map (D.l TSlot.D) a0) (ai h1 (ai (len_map (D.l TSlot.D) a1) (ai h3 (ai (law26_right_ok a0 r3 h5) (ai h6 (ai (law26_right_ok a1 r5 h8) (ai h9 (ai (nc_ok (D.l TSlot.D) [a2]) (ai (law26_right_ok [a2] r7 h11) (ai h12 (ai (law26_hits_ok a1 r9 h14) (ai (law26_ExtendGrows_l1_ok none a0 a2 r9 ([] : List (List TSlot)) 0 o24 h33) (ai (extend_Grow_ok a0 r9 r25 h34) (ai (ref26_Grow_ok a0 r9 r26 h35) (ai (law26_same_ok r25 r26 false h36) (ti))))))))))))))))) (by kernel_rfl)
end Go.Ac
