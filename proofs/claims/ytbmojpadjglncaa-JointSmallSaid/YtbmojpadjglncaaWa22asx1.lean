/- Own work, printed: the functions compute these. -/
import Derived.Test.YtbmojpadjglncaaSh22as
import Derived.Test.YtbmojpadjglncaaProg
set_option linter.unusedVariables false
set_option linter.unusedSimpArgs false
set_option linter.unusedVariables false
set_option linter.unusedSimpArgs false
namespace Go.Ac
open Go.Proofs
theorem mixed : Try.prog.follows .mixedOrders = true := by kernel_rfl
def ref13_Few_l1_I (w1 : TQea) (s3 : Int) : St := ⟨sp 166 0 [(1, .box 1 0), (3, .d ((D.i .i64) s3))], [(1, .cells ((cellsA (TQea.D w1))))], []⟩
def ref13_Few_l1_O (w1 : TQea) (o : Unit ⊕ Unit) : Ex × St := match o with
  | .inl o => (.exit 0, ⟨sp 166 0 [(1, .box 1 0)], [(1, .cells ((cellsA (TQea.D w1))))], []⟩)
  | .inr o => (.ret, ⟨sp 166 0 [(2, .d ((D.i .i64) 0))], [], []⟩)
theorem ref13_Few_l1_rnd (rd : Option Nat) (w1 : TQea) (s3 : Int) (o : (Int) ⊕ (Unit ⊕ Unit)) (h : ref13_Few_l1_s w1 s3 = some o) : Arr Try.prog rd (fbody Try.prog 4) (0 :: [0, 1, 0, 1, 1]) (ref13_Few_l1_I w1 s3) (rR (fun s : Int => ref13_Few_l1_I w1 s) (ref13_Few_l1_O w1) o).1 (rR (fun s : Int => ref13_Few_l1_I w1 s) (ref13_Few_l1_O w1) o).2 := by
  unfold ref13_Few_l1_s at h
  rcases iS h with ⟨h9, h⟩ | ⟨h9, h⟩
  ·
   obtain ⟨x1, h10, h⟩ := xS h
   rcases iS h with ⟨h11, h⟩ | ⟨h11, h⟩
   ·
    obtain rfl := si h
    exact runB_arr mixed [(58, .int (w1.decls.length : Int)), (59, .bit true), (65, .el (TDecl.D x1)), (68, .int (x1.types.length : Int)), (70, .bit true)] [] [.live [2], .keep []] (ai (len_map TDecl.D w1.decls) (ai h9 (ai (elem_map TDecl.D h10) (ai (len_map (D.i .i64) x1.types) (ai h11 (ti)))))) (by kernel_rfl)
   ·
    obtain ⟨x2, h12, h⟩ := xS h
    rcases iS h with ⟨h13, h⟩ | ⟨h13, h⟩
    ·
     obtain rfl := si h
     exact runB_arr mixed [(58, .int (w1.decls.length : Int)), (59, .bit true), (65, .el (TDecl.D x1)), (68, .int (x1.types.length : Int)), (70, .bit false), (74, .el (TDecl.D x2)), (77, .int (x2.name.length : Int)), (79, .bit true)] [] [.live [2], .keep []] (ai (len_map TDecl.D w1.decls) (ai h9 (ai (elem_map TDecl.D h10) (ai (len_map (D.i .i64) x1.types) (ai h11 (ai (elem_map TDecl.D h12) (ai (len_str x2.name) (ai h13 (ti))))))))) (by kernel_rfl)
    ·
     obtain rfl := si h
     exact runB_arr mixed [(58, .int (w1.decls.length : Int)), (59, .bit true), (65, .el (TDecl.D x1)), (68, .int (x1.types.length : Int)), (70, .bit false), (74, .el (TDecl.D x2)), (77, .int (x2.name.length : Int)), (79, .bit false)] [] [.live [1, 3], .keep [1]] (ai (len_map TDecl.D w1.decls) (ai h9 (ai (elem_map TDecl.D h10) (ai (len_map (D.i .i64) x1.types) (ai h11 (ai (elem_map TDecl.D h12) (ai (len_str x2.name) (ai h13 (ti))))))))) (by kernel_rfl)
  ·
   obtain rfl := si h
   exact runB_arr mixed [(58, .int (w1.decls.length : Int)), (59, .bit false)] [] [.live [1], .keep [1]] (ai (len_map TDecl.D w1.decls) (ai h9 (ti))) (by kernel_rfl)
theorem ref13_Few_l1_ok (rd : Option Nat) (w1 : TQea) (s3 : Int) (t : Unit ⊕ Unit) (h : ref13_Few_l1 w1 s3 = some t) : LpOf Try.prog rd (fbody Try.prog 4) [0, 1, 0, 1, 1] (ref13_Few_l1_I w1 s3) ((ref13_Few_l1_O w1) t).1 ((ref13_Few_l1_O w1) t).2 :=
  loopE_lpR (fun s : Int => ref13_Few_l1_I w1 s) (ref13_Few_l1_O w1) (by kernel_rfl) (fun t => isN_ne (by rcases t with (_ | _) <;> rfl)) (fun s o h => ref13_Few_l1_rnd rd w1 s o h) (s := s3) (t := t) h
def ref13_Few_l3_I (s4 : Int) (w1 : TQea) (s5 : Int) : St := ⟨sp 166 0 [(1, .box 1 0), (4, .d ((D.i .i64) s4)), (5, .d ((D.i .i64) s5))], [(1, .cells ((cellsA (TQea.D w1))))], []⟩
def ref13_Few_l3_O (s4 : Int) (w1 : TQea) (o : Unit ⊕ Unit) : Ex × St := match o with
  | .inl o => (.exit 4, ⟨sp 166 0 [(1, .box 1 0), (4, .d ((D.i .i64) s4))], [(1, .cells ((cellsA (TQea.D w1))))], []⟩)
  | .inr o => (.ret, ⟨sp 166 0 [(2, .d ((D.i .i64) 0))], [], []⟩)
theorem ref13_Few_l3_rnd (rd : Option Nat) (s4 : Int) (w1 : TQea) (s5 : Int) (o : (Int) ⊕ (Unit ⊕ Unit)) (h : ref13_Few_l3_s s4 w1 s5 = some o) : Arr Try.prog rd (fbody Try.prog 4) (0 :: [0, 1, 1, 0, 0, 1, 0, 0, 1, 0, 1, 1, 1]) (ref13_Few_l3_I s4 w1 s5) (rR (fun s : Int => ref13_Few_l3_I s4 w1 s) (ref13_Few_l3_O s4 w1) o).1 (rR (fun s : Int => ref13_Few_l3_I s4 w1 s) (ref13_Few_l3_O s4 w1) o).2 := by
  unfold ref13_Few_l3_s at h
  obtain ⟨x7, h18, h⟩ := xS h
  rcases iS h with ⟨h19, h⟩ | ⟨h19, h⟩
  ·
   obtain ⟨x8, h20, h⟩ := xS h
   obtain ⟨x9, h21, h⟩ := xS h
   rcases iS h with ⟨h22, h⟩ | ⟨h22, h⟩
   ·
    obtain rfl := si h
    exact runB_arr mixed [(99, .el (TSymbol.D x7)), (102, .int (x7.args.length : Int)), (103, .bit true), (109, .el (TSymbol.D x8)), (113, .el (TArg.D x9)), (117, .int (x9.value.str.length : Int)), (118, .bit true)] [] [.live [2], .keep []] (ai (elem_map TSymbol.D h18) (ai (len_map TArg.D x7.args) (ai h19 (ai (elem_map TSymbol.D h20) (ai (elem_map TArg.D h21) (ai (len_str x9.value.str) (ai h22 (ti)))))))) (by kernel_rfl)
   ·
    obtain rfl := si h
    exact runB_arr mixed [(99, .el (TSymbol.D x7)), (102, .int (x7.args.length : Int)), (103, .bit true), (109, .el (TSymbol.D x8)), (113, .el (TArg.D x9)), (117, .int (x9.value.str.length : Int)), (118, .bit false)] [] [.live [1, 4, 5], .keep [1]] (ai (elem_map TSymbol.D h18) (ai (len_map TArg.D x7.args) (ai h19 (ai (elem_map TSymbol.D h20) (ai (elem_map TArg.D h21) (ai (len_str x9.value.str) (ai h22 (ti)))))))) (by kernel_rfl)
  ·
   obtain rfl := si h
   exact runB_arr mixed [(99, .el (TSymbol.D x7)), (102, .int (x7.args.length : Int)), (103, .bit false)] [] [.live [1, 4], .keep [1]] (ai (elem_map TSymbol.D h18) (ai (len_map TArg.D x7.args) (ai h19 (ti)))) (by kernel_rfl)
theorem ref13_Few_l3_ok (rd : Option Nat) (s4 : Int) (w1 : TQea) (s5 : Int) (t : Unit ⊕ Unit) (h : ref13_Few_l3 s4 w1 s5 = some t) : LpOf Try.prog rd (fbody Try.prog 4) [0, 1, 1, 0, 0, 1, 0, 0, 1, 0, 1, 1, 1] (ref13_Few_l3_I s4 w1 s5) ((ref13_Few_l3_O s4 w1) t).1 ((ref13_Few_l3_O s4 w1) t).2 :=
  loopE_lpR (fun s : Int => ref13_Few_l3_I s4 w1 s) (ref13_Few_l3_O s4 w1) (by kernel_rfl) (fun t => isN_ne (by rcases t with (_ | _) <;> rfl)) (fun s o h => ref13_Few_l3_rnd rd s4 w1 s o h) (s := s5) (t := t) h
def ref13_Few_l2_I (w1 : TQea) (s4 : Int) : St := ⟨sp 166 0 [(1, .box 1 0), (4, .d ((D.i .i64) s4))], [(1, .cells ((cellsA (TQea.D w1))))], []⟩
def ref13_Few_l2_O (w1 : TQea) (o : Unit ⊕ Unit) : Ex × St := match o with
  | .inl o => (.exit 2, ⟨sp 166 0 [(1, .box 1 0)], [(1, .cells ((cellsA (TQea.D w1))))], []⟩)
  | .inr o => (.ret, ⟨sp 166 0 [(2, .d ((D.i .i64) 0))], [], []⟩)
theorem ref13_Few_l2_rnd (rd : Option Nat) (w1 : TQea) (s4 : Int) (o : (Int) ⊕ (Unit ⊕ Unit)) (h : ref13_Few_l2_s w1 s4 = some o) : Arr Try.prog rd (fbody Try.prog 4) (0 :: [0, 1, 0, 1, 1, 1]) (ref13_Few_l2_I w1 s4) (rR (fun s : Int => ref13_Few_l2_I w1 s) (ref13_Few_l2_O w1) o).1 (rR (fun s : Int => ref13_Few_l2_I w1 s) (ref13_Few_l2_O w1) o).2 := by
  unfold ref13_Few_l2_s at h
  rcases iS h with ⟨h15, h⟩ | ⟨h15, h⟩
  ·
   obtain ⟨x6, h16, h⟩ := xS h
   rcases iS h with ⟨h17, h⟩ | ⟨h17, h⟩
   ·
    obtain rfl := si h
    exact runB_arr mixed [(83, .int (w1.symbols.length : Int)), (84, .bit true), (90, .el (TSymbol.D x6)), (93, .int (x6.args.length : Int)), (94, .bit true)] [] [.live [2], .keep []] (ai (len_map TSymbol.D w1.symbols) (ai h15 (ai (elem_map TSymbol.D h16) (ai (len_map TArg.D x6.args) (ai h17 (ti)))))) (by kernel_rfl)
   ·
    obtain ⟨o10, h23, h⟩ := bS h
    replace h := sumE_some h
    rcases h with ⟨o11, rfl, h⟩ | ⟨o12, rfl, h⟩
    ·
     obtain rfl := si h
     exact runB_arr mixed [(83, .int (w1.symbols.length : Int)), (84, .bit true), (90, .el (TSymbol.D x6)), (93, .int (x6.args.length : Int)), (94, .bit false)] [⟨[0, 1, 1, 0, 0, 1, 0, 0, 1, 0, 1, 1, 1], [.live [1, 4, 5], .keep [1]], .exit 4, (ref13_Few_l3_O s4 w1 (Sum.inl o11)).2⟩] [.live [1, 4], .keep [1]] (ai (len_map TSymbol.D w1.symbols) (ai h15 (ai (elem_map TSymbol.D h16) (ai (len_map TArg.D x6.args) (ai h17 (ai (ref13_Few_l3_ok rd s4 w1 0 (Sum.inl o11) h23) (ti))))))) (by kernel_rfl)
    ·
     obtain rfl := si h
     exact runB_arr mixed [(83, .int (w1.symbols.length : Int)), (84, .bit true), (90, .el (TSymbol.D x6)), (93, .int (x6.args.length : Int)), (94, .bit false)] [⟨[0, 1, 1, 0, 0, 1, 0, 0, 1, 0, 1, 1, 1], [.live [1, 4, 5], .keep [1]], .ret, (ref13_Few_l3_O s4 w1 (Sum.inr o12)).2⟩] [.live [2], .keep []] (ai (len_map TSymbol.D w1.symbols) (ai h15 (ai (elem_map TSymbol.D h16) (ai (len_map TArg.D x6.args) (ai h17 (ai (ref13_Few_l3_ok rd s4 w1 0 (Sum.inr o12) h23) (ti))))))) (by kernel_rfl)
  ·
   obtain rfl := si h
   exact runB_arr mixed [(83, .int (w1.symbols.length : Int)), (84, .bit false)] [] [.live [1], .keep [1]] (ai (len_map TSymbol.D w1.symbols) (ai h15 (ti))) (by kernel_rfl)
theorem ref13_Few_l2_ok (rd : Option Nat) (w1 : TQea) (s4 : Int) (t : Unit ⊕ Unit) (h : ref13_Few_l2 w1 s4 = some t) : LpOf Try.prog rd (fbody Try.prog 4) [0, 1, 0, 1, 1, 1] (ref13_Few_l2_I w1 s4) ((ref13_Few_l2_O w1) t).1 ((ref13_Few_l2_O w1) t).2 :=
  loopE_lpR (fun s : Int => ref13_Few_l2_I w1 s) (ref13_Few_l2_O w1) (by kernel_rfl) (fun t => isN_ne (by rcases t with (_ | _) <;> rfl)) (fun s o h => ref13_Few_l2_rnd rd w1 s o h) (s := s4) (t := t) h
def ref13_Few_l4_I (w1 : TQea) (s6 : Int) : St := ⟨sp 166 0 [(1, .box 1 0), (6, .d ((D.i .i64) s6))], [(1, .cells ((cellsA (TQea.D w1))))], []⟩
def ref13_Few_l4_O (w1 : TQea) (o : Unit ⊕ Unit) : Ex × St := match o with
  | .inl o => (.exit 6, ⟨sp 166 0 [(1, .box 1 0)], [(1, .cells ((cellsA (TQea.D w1))))], []⟩)
  | .inr o => (.ret, ⟨sp 166 0 [(2, .d ((D.i .i64) 0))], [], []⟩)
theorem ref13_Few_l4_rnd (rd : Option Nat) (w1 : TQea) (s6 : Int) (o : (Int) ⊕ (Unit ⊕ Unit)) (h : ref13_Few_l4_s w1 s6 = some o) : Arr Try.prog rd (fbody Try.prog 4) (0 :: [0, 1, 0, 1, 1, 1, 1]) (ref13_Few_l4_I w1 s6) (rR (fun s : Int => ref13_Few_l4_I w1 s) (ref13_Few_l4_O w1) o).1 (rR (fun s : Int => ref13_Few_l4_I w1 s) (ref13_Few_l4_O w1) o).2 := by
  unfold ref13_Few_l4_s at h
  rcases iS h with ⟨h25, h⟩ | ⟨h25, h⟩
  ·
   obtain ⟨x16, h26, h⟩ := xS h
   rcases iS h with ⟨h27, h⟩ | ⟨h27, h⟩
   ·
    obtain rfl := si h
    exact runB_arr mixed [(122, .int (w1.frees.length : Int)), (123, .bit true), (129, .el (TFree.D x16)), (133, .int (x16.init_.str.length : Int)), (134, .bit true)] [] [.live [2], .keep []] (ai (len_map TFree.D w1.frees) (ai h25 (ai (elem_map TFree.D h26) (ai (len_str x16.init_.str) (ai h27 (ti)))))) (by kernel_rfl)
   ·
    obtain rfl := si h
    exact runB_arr mixed [(122, .int (w1.frees.length : Int)), (123, .bit true), (129, .el (TFree.D x16)), (133, .int (x16.init_.str.length : Int)), (134, .bit false)] [] [.live [1, 6], .keep [1]] (ai (len_map TFree.D w1.frees) (ai h25 (ai (elem_map TFree.D h26) (ai (len_str x16.init_.str) (ai h27 (ti)))))) (by kernel_rfl)
  ·
   obtain rfl := si h
   exact runB_arr mixed [(122, .int (w1.frees.length : Int)), (123, .bit false)] [] [.live [1], .keep [1]] (ai (len_map TFree.D w1.frees) (ai h25 (ti))) (by kernel_rfl)
theorem ref13_Few_l4_ok (rd : Option Nat) (w1 : TQea) (s6 : Int) (t : Unit ⊕ Unit) (h : ref13_Few_l4 w1 s6 = some t) : LpOf Try.prog rd (fbody Try.prog 4) [0, 1, 0, 1, 1, 1, 1] (ref13_Few_l4_I w1 s6) ((ref13_Few_l4_O w1) t).1 ((ref13_Few_l4_O w1) t).2 :=
  loopE_lpR (fun s : Int => ref13_Few_l4_I w1 s) (ref13_Few_l4_O w1) (by kernel_rfl) (fun t => isN_ne (by rcases t with (_ | _) <;> rfl)) (fun s o h => ref13_Few_l4_rnd rd w1 s o h) (s := s6) (t := t) h
def ref13_Few_l5_I (w1 : TQea) (s7 : Int) : St := ⟨sp 166 0 [(1, .box 1 0), (7, .d ((D.i .i64) s7))], [(1, .cells ((cellsA (TQea.D w1))))], []⟩
def ref13_Few_l5_O (w1 : TQea) (o : Unit ⊕ Unit) : Ex × St := match o with
  | .inl o => (.exit 8, ⟨sp 166 0 [(1, .box 1 0)], [(1, .cells ((cellsA (TQea.D w1))))], []⟩)
  | .inr o => (.ret, ⟨sp 166 0 [(2, .d ((D.i .i64) 0))], [], []⟩)
theorem ref13_Few_l5_rnd (rd : Option Nat) (w1 : TQea) (s7 : Int) (o : (Int) ⊕ (Unit ⊕ Unit)) (h : ref13_Few_l5_s w1 s7 = some o) : Arr Try.prog rd (fbody Try.prog 4) (0 :: [0, 1, 0, 1, 1, 1, 1, 1]) (ref13_Few_l5_I w1 s7) (rR (fun s : Int => ref13_Few_l5_I w1 s) (ref13_Few_l5_O w1) o).1 (rR (fun s : Int => ref13_Few_l5_I w1 s) (ref13_Few_l5_O w1) o).2 := by
  unfold ref13_Few_l5_s at h
  rcases iS h with ⟨h29, h⟩ | ⟨h29, h⟩
  ·
   obtain ⟨x20, h30, h⟩ := xS h
   rcases iS h with ⟨h31, h⟩ | ⟨h31, h⟩
   ·
    obtain rfl := si h
    exact runB_arr mixed [(138, .int (w1.nodes.length : Int)), (139, .bit true), (145, .el (TNode.D x20)), (149, .int (x20.value.str.length : Int)), (150, .bit true)] [] [.live [2], .keep []] (ai (len_map TNode.D w1.nodes) (ai h29 (ai (elem_map TNode.D h30) (ai (len_str x20.value.str) (ai h31 (ti)))))) (by kernel_rfl)
   ·
    obtain rfl := si h
    exact runB_arr mixed [(138, .int (w1.nodes.length : Int)), (139, .bit true), (145, .el (TNode.D x20)), (149, .int (x20.value.str.length : Int)), (150, .bit false)] [] [.live [1, 7], .keep [1]] (ai (len_map TNode.D w1.nodes) (ai h29 (ai (elem_map TNode.D h30) (ai (len_str x20.value.str) (ai h31 (ti)))))) (by kernel_rfl)
  ·
   obtain rfl := si h
   exact runB_arr mixed [(138, .int (w1.nodes.length : Int)), (139, .bit false)] [] [.live [1], .keep [1]] (ai (len_map TNode.D w1.nodes) (ai h29 (ti))) (by kernel_rfl)
theorem ref13_Few_l5_ok (rd : Option Nat) (w1 : TQea) (s7 : Int) (t : Unit ⊕ Unit) (h : ref13_Few_l5 w1 s7 = some t) : LpOf Try.prog rd (fbody Try.prog 4) [0, 1, 0, 1, 1, 1, 1, 1] (ref13_Few_l5_I w1 s7) ((ref13_Few_l5_O w1) t).1 ((ref13_Few_l5_O w1) t).2 :=
  loopE_lpR (fun s : Int => ref13_Few_l5_I w1 s) (ref13_Few_l5_O w1) (by kernel_rfl) (fun t => isN_ne (by rcases t with (_ | _) <;> rfl)) (fun s o h => ref13_Few_l5_rnd rd w1 s o h) (s := s7) (t := t) h
def ref13_Few_l6_I (w1 : TQea) (s8 : Int) : St := ⟨sp 166 0 [(1, .box 1 0), (8, .d ((D.i .i64) s8))], [(1, .cells ((cellsA (TQea.D w1))))], []⟩
def ref13_Few_l6_O (w1 : TQea) (o : Unit ⊕ Unit) : Ex × St := match o with
  | .inl o => (.exit 10, ⟨sp 166 0 [], [], []⟩)
  | .inr o => (.ret, ⟨sp 166 0 [(2, .d ((D.i .i64) 0))], [], []⟩)
theorem ref13_Few_l6_rnd (rd : Option Nat) (w1 : TQea) (s8 : Int) (o : (Int) ⊕ (Unit ⊕ Unit)) (h : ref13_Few_l6_s w1 s8 = some o) : Arr Try.prog rd (fbody Try.prog 4) (0 :: [0, 1, 0, 1, 1, 1, 1, 1, 1]) (ref13_Few_l6_I w1 s8) (rR (fun s : Int => ref13_Few_l6_I w1 s) (ref13_Few_l6_O w1) o).1 (rR (fun s : Int => ref13_Few_l6_I w1 s) (ref13_Few_l6_O w1) o).2 := by
  unfold ref13_Few_l6_s at h
  rcases iS h with ⟨h33, h⟩ | ⟨h33, h⟩
  ·
   obtain ⟨x24, h34, h⟩ := xS h
   rcases iS h with ⟨h35, h⟩ | ⟨h35, h⟩
   ·
    obtain rfl := si h
    exact runB_arr mixed [(154, .int (w1.trans.length : Int)), (155, .bit true), (161, .el (TTrans.D x24)), (164, .int (x24.sets.length : Int)), (165, .bit true)] [] [.live [2], .keep []] (ai (len_map TTrans.D w1.trans) (ai h33 (ai (elem_map TTrans.D h34) (ai (len_map TSet.D x24.sets) (ai h35 (ti)))))) (by kernel_rfl)
   ·
    obtain rfl := si h
    exact runB_arr mixed [(154, .int (w1.trans.length : Int)), (155, .bit true), (161, .el (TTrans.D x24)), (164, .int (x24.sets.length : Int)), (165, .bit false)] [] [.live [1, 8], .keep [1]] (ai (len_map TTrans.D w1.trans) (ai h33 (ai (elem_map TTrans.D h34) (ai (len_map TSet.D x24.sets) (ai h35 (ti)))))) (by kernel_rfl)
  ·
   obtain rfl := si h
   exact runB_arr mixed [(154, .int (w1.trans.length : Int)), (155, .bit false)] [] [.live [], .keep []] (ai (len_map TTrans.D w1.trans) (ai h33 (ti))) (by kernel_rfl)
theorem ref13_Few_l6_ok (rd : Option Nat) (w1 : TQea) (s8 : Int) (t : Unit ⊕ Unit) (h : ref13_Few_l6 w1 s8 = some t) : LpOf Try.prog rd (fbody Try.prog 4) [0, 1, 0, 1, 1, 1, 1, 1, 1] (ref13_Few_l6_I w1 s8) ((ref13_Few_l6_O w1) t).1 ((ref13_Few_l6_O w1) t).2 :=
  loopE_lpR (fun s : Int => ref13_Few_l6_I w1 s) (ref13_Few_l6_O w1) (by kernel_rfl) (fun t => isN_ne (by rcases t with (_ | _) <;> rfl)) (fun s o h => ref13_Few_l6_rnd rd w1 s o h) (s := s8) (t := t) h
theorem ref13_Few_ok (a0 : TQea) (r : Int) (h : ref13_Few a0 = some r) : ACall Try.prog 4 [.d (TQea.D a0)] [] (.d ((D.i .i64) r)) [] := by
  unfold ref13_Few at h
  rcases iS h with ⟨h1, h⟩ | ⟨h1, h⟩
  ·
   obtain rfl := si h
   exact runF_call mixed [(11, .int (a0.decls.length : Int)), (13, .bit true)] [] [] (ai (len_map TDecl.D a0.decls) (ai h1 (ti))) (by kernel_rfl)
  ·
   rcases iS h with ⟨h2, h⟩ | ⟨h2, h⟩
   ·
    obtain rfl := si h
    exact runF_call mixed [(11, .int (a0.decls.length : Int)), (13, .bit false), (16, .int (a0.quants.length : Int)), (19, .bit true)] [] [] (ai (len_map TDecl.D a0.decls) (ai h1 (ai (len_map TQuant.D a0.quants) (ai h2 (ti))))) (by kernel_rfl)
   ·
    rcases iS h with ⟨h3, h⟩ | ⟨h3, h⟩
    ·
     obtain rfl := si h
     exact runF_call mixed [(11, .int (a0.decls.length : Int)), (13, .bit false), (16, .int (a0.quants.length : Int)), (19, .bit false), (22, .int (a0.frees.length : Int)), (25, .bit true)] [] [] (ai (len_map TDecl.D a0.decls) (ai h1 (ai (len_map TQuant.D a0.quants) (ai h2 (ai (len_map TFree.D a0.frees) (ai h3 (ti))))))) (by kernel_rfl)
    ·
     rcases iS h with ⟨h4, h⟩ | ⟨h4, h⟩
     ·
      obtain rfl := si h
      exact runF_call mixed [(11, .int (a0.decls.length : Int)), (13, .bit false), (16, .int (a0.quants.length : Int)), (19, .bit false), (22, .int (a0.frees.length : Int)), (25, .bit false), (28, .int (a0.states.length : Int)), (31, .bit true)] [] [] (ai (len_map TDecl.D a0.decls) (ai h1 (ai (len_map TQuant.D a0.quants) (ai h2 (ai (len_map TFree.D a0.frees) (ai h3 (ai (len_map TState.D a0.states) (ai h4 (ti))))))))) (by kernel_rfl)
     ·
      rcases iS h with ⟨h5, h⟩ | ⟨h5, h⟩
      ·
       obtain rfl := si h
       exact runF_call mixed [(11, .int (a0.decls.length : Int)), (13, .bit false), (16, .int (a0.quants.length : Int)), (19, .bit false), (22, .int (a0.frees.length : Int)), (25, .bit false), (28, .int (a0.states.length : Int)), (31, .bit false), (34, .int (a0.symbols.length : Int)), (37, .bit true)] [] [] (ai (len_map TDecl.D a0.decls) (ai h1 (ai (len_map TQuant.D a0.quants) (ai h2 (ai (len_map TFree.D a0.frees) (ai h3 (ai (len_map TState.D a0.states) (ai h4 (ai (len_map TSymbol.D a0.symbols) (ai h5 (ti))))))))))) (by kernel_rfl)
      ·
       rcases iS h with ⟨h6, h⟩ | ⟨h6, h⟩
       ·
        obtain rfl := si h
        exact runF_call mixed [(11, .int (a0.decls.length : Int)), (13, .bit false), (16, .int (a0.quants.length : Int)), (19, .bit false), (22, .int (a0.frees.length : Int)), (25, .bit false), (28, .int (a0.states.length : Int)), (31, .bit false), (34, .int (a0.symbols.length : Int)), (37, .bit false), (40, .int (a0.trans.length : Int)), (43, .bit true)] [] [] (ai (len_map TDecl.D a0.decls) (ai h1 (ai (len_map TQuant.D a0.quants) (ai h2 (ai (len_map TFree.D a0.frees) (ai h3 (ai (len_map TState.D a0.states) (ai h4 (ai (len_map TSymbol.D a0.symbols) (ai h5 (ai (len_map TTrans.D a0.trans) (ai h6 (ti))))))))))))) (by kernel_rfl)
       ·
        rcases iS h with ⟨h7, h⟩ | ⟨h7, h⟩
        ·
         obtain rfl := si h
         exact runF_call mixed [(11, .int (a0.decls.length : Int)), (13, .bit false), (16, .int (a0.quants.length : Int)), (19, .bit false), (22, .int (a0.frees.length : Int)), (25, .bit false), (28, .int (a0.states.length : Int)), (31, .bit false), (34, .int (a0.symbols.length : Int)), (37, .bit false), (40, .int (a0.trans.length : Int)), (43, .bit false), (46, .int (a0.nodes.length : Int)), (49, .bit true)] [] [] (ai (len_map TDecl.D a0.decls) (ai h1 (ai (len_map TQuant.D a0.quants) (ai h2 (ai (len_map TFree.D a0.frees) (ai h3 (ai (len_map TState.D a0.states) (ai h4 (ai (len_map TSymbol.D a0.symbols) (ai h5 (ai (len_map TTrans.D a0.trans) (ai h6 (ai (len_map TNode.D a0.nodes) (ai h7 (ti))))))))))))))) (by kernel_rfl)
        ·
         rcases iS h with ⟨h8, h⟩ | ⟨h8, h⟩
         ·
          obtain rfl := si h
          exact runF_call mixed [(11, .int (a0.decls.length : Int)), (13, .bit false), (16, .int (a0.quants.length : Int)), (19, .bit false), (22, .int (a0.frees.length : Int)), (25, .bit false), (28, .int (a0.states.length : Int)), (31, .bit false), (34, .int (a0.symbols.length : Int)), (37, .bit false), (40, .int (a0.trans.length : Int)), (43, .bit false), (46, .int (a0.nodes.length : Int)), (49, .bit false), (52, .int (a0.name.length : Int)), (54, .bit true)] [] [] (ai (len_map TDecl.D a0.decls) (ai h1 (ai (len_map TQuant.D a0.quants) (ai h2 (ai (len_map TFree.D a0.frees) (ai h3 (ai (len_map TState.D a0.states) (ai h4 (ai (len_map TSymbol.D a0.symbols) (ai h5 (ai (len_map TTrans.D a0.trans) (ai h6 (ai (len_map TNode.D a0.nodes) (ai h7 (ai (len_str a0.name) (ai h8 (ti))))))))))))))))) (by kernel_rfl)
         ·
          obtain ⟨o3, h14, h⟩ := bS h
          replace h := sumE_some h
          rcases h with ⟨o4, rfl, h⟩ | ⟨o5, rfl, h⟩
          ·
           obtain ⟨o13, h24, h⟩ := bS h
           replace h := sumE_some h
           rcases h with ⟨o14, rfl, h⟩ | ⟨o15, rfl, h⟩
           ·
            obtain ⟨o17, h28, h⟩ := bS h
            replace h := sumE_some h
            rcases h with ⟨o18, rfl, h⟩ | ⟨o19, rfl, h⟩
            ·
             obtain ⟨o21, h32, h⟩ := bS h
             replace h := sumE_some h
             rcases h with ⟨o22, rfl, h⟩ | ⟨o23, rfl, h⟩
             ·
              obtain ⟨o25, h36, h⟩ := bS h
              replace h := sumE_some h
              rcases h with ⟨o26, rfl, h⟩ | ⟨o27, rfl, h⟩
              ·
               obtain rfl := si h
               exact runF_call mixed [(11, .int (a0.decls.length : Int)), (13, .bit false), (16, .int (a0.quants.length : Int)), (19, .bit false), (22, .int (a0.frees.length : Int)), (25, .bit false), (28, .int (a0.states.length : Int)), (31, .bit false), (34, .int (a0.symbols.length : Int)), (37, .bit false), (40, .int (a0.trans.length : Int)), (43, .bit false), (46, .int (a0.nodes.length : Int)), (49, .bit false), (52, .int (a0.name.length : Int)), (54, .bit false)] [⟨[0, 1, 0, 1, 1], [.live [1, 3], .keep [1]], .exit 0, (ref13_Few_l1_O a0 (Sum.inl o4)).2⟩, ⟨[0, 1, 0, 1, 1, 1], [.live [1, 4], .keep [1]], .exit 2, (ref13_Few_l2_O a0 (Sum.inl o14)).2⟩, ⟨[0, 1, 0, 1, 1, 1, 1], [.live [1, 6], .keep [1]], .exit 6, (ref13_Few_l4_O a0 (Sum.inl o18)).2⟩, ⟨[0, 1, 0, 1, 1, 1, 1, 1], [.live [1, 7], .keep [1]], .exit 8, (ref13_Few_l5_O a0 (Sum.inl o22)).2⟩, ⟨[0, 1, 0, 1, 1, 1, 1, 1, 1], [.live [1, 8], .keep [1]], .exit 10, (ref13_Few_l6_O a0 (Sum.inl o26)).2⟩] [] (ai (len_map TDecl.D a0.decls) (ai h1 (ai (len_map TQuant.D a0.quants) (ai h2 (ai (len_map TFree.D a0.frees) (ai h3 (ai (len_map TState.D a0.states) (ai h4 (ai (len_map TSymbol.D a0.symbols) (ai h5 (ai (len_map TTrans.D a0.trans) (ai h6 (ai (len_map TNode.D a0.nodes) (ai h7 (ai (len_str a0.name) (ai h8 (ai (ref13_Few_l1_ok none a0 0 (Sum.inl o4) h14) (ai (ref13_Few_l2_ok none a0 0 (Sum.inl o14) h24) (ai (ref13_Few_l4_ok none a0 0 (Sum.inl o18) h28) (ai (ref13_Few_l5_ok none a0 0 (Sum.inl o22) h32) (ai (ref13_Few_l6_ok none a0 0 (Sum.inl o26) h36) (ti)))))))))))))))))))))) (by kernel_rfl)
              ·
               obtain rfl := si h
               exact runF_call mixed [(11, .int (a0.decls.length : Int)), (13, .bit false), (16, .int (a0.quants.length : Int)), (19, .bit false), (22, .int (a0.frees.length : Int)), (25, .bit false), (28, .int (a0.states.length : Int)), (31, .bit false), (34, .int (a0.symbols.length : Int)), (37, .bit false), (40, .int (a0.trans.length : Int)), (43, .bit false), (46, .int (a0.nodes.length : Int)), (49, .bit false), (52, .int (a0.name.length : Int)), (54, .bit false)] [⟨[0, 1, 0, 1, 1], [.live [1, 3], .keep [1]], .exit 0, (ref13_Few_l1_O a0 (Sum.inl o4)).2⟩, ⟨[0, 1, 0, 1, 1, 1], [.live [1, 4], .keep [1]], .exit 2, (ref13_Few_l2_O a0 (Sum.inl o14)).2⟩, ⟨[0, 1, 0, 1, 1, 1, 1], [.live [1, 6], .keep [1]], .exit 6, (ref13_Few_l4_O a0 (Sum.inl o18)).2⟩, ⟨[0, 1, 0, 1, 1, 1, 1, 1], [.live [1, 7], .keep [1]], .exit 8, (ref13_Few_l5_O a0 (Sum.inl o22)).2⟩, ⟨[0, 1, 0, 1, 1, 1, 1, 1, 1], [.live [1, 8], .keep [1]], .ret, (ref13_Few_l6_O a0 (Sum.inr o27)).2⟩] [] (ai (len_map TDecl.D a0.decls) (ai h1 (ai (len_map TQuant.D a0.quants) (ai h2 (ai (len_map TFree.D a0.frees) (ai h3 (ai (len_map TState.D a0.states) (ai h4 (ai (len_map TSymbol.D a0.symbols) (ai h5 (ai (len_map TTrans.D a0.trans) (ai h6 (ai (len_map TNode.D a0.nodes) (ai h7 (ai (len_str a0.name) (ai h8 (ai (ref13_Few_l1_ok none a0 0 (Sum.inl o4) h14) (ai (ref13_Few_l2_ok none a0 0 (Sum.inl o14) h24) (ai (ref13_Few_l4_ok none a0 0 (Sum.inl o18) h28) (ai (ref13_Few_l5_ok none a0 0 (Sum.inl o22) h32) (ai (ref13_Few_l6_ok none a0 0 (Sum.inr o27) h36) (ti)))))))))))))))))))))) (by kernel_rfl)
             ·
              obtain rfl := si h
              exact runF_call mixed [(11, .int (a0.decls.length : Int)), (13, .bit false), (16, .int (a0.quants.length : Int)), (19, .bit false), (22, .int (a0.frees.length : Int)), (25, .bit false), (28, .int (a0.states.length : Int)), (31, .bit false), (34, .int (a0.symbols.length : Int)), (37, .bit false), (40, .int (a0.trans.length : Int)), (43, .bit false), (46, .int (a0.nodes.length : Int)), (49, .bit false), (52, .int (a0.name.length : Int)), (54, .bit false)] [⟨[0, 1, 0, 1, 1], [.live [1, 3], .keep [1]], .exit 0, (ref13_Few_l1_O a0 (Sum.inl o4)).2⟩, ⟨[0, 1, 0, 1, 1, 1], [.live [1, 4], .keep [1]], .exit 2, (ref13_Few_l2_O a0 (Sum.inl o14)).2⟩, ⟨[0, 1, 0, 1, 1, 1, 1], [.live [1, 6], .keep [1]], .exit 6, (ref13_Few_l4_O a0 (Sum.inl o18)).2⟩, ⟨[0, 1, 0, 1, 1, 1, 1, 1], [.live [1, 7], .keep [1]], .ret, (ref13_Few_l5_O a0 (Sum.inr o23)).2⟩] [] (ai (len_map TDecl.D a0.decls) (ai h1 (ai (len_map TQuant.D a0.quants) (ai h2 (ai (len_map TFree.D a0.frees) (ai h3 (ai (len_map TState.D a0.states) (ai h4 (ai (len_map TSymbol.D a0.symbols) (ai h5 (ai (len_map TTrans.D a0.trans) (ai h6 (ai (len_map TNode.D a0.nodes) (ai h7 (ai (len_str a0.name) (ai h8 (ai (ref13_Few_l1_ok none a0 0 (Sum.inl o4) h14) (ai (ref13_Few_l2_ok none a0 0 (Sum.inl o14) h24) (ai (ref13_Few_l4_ok none a0 0 (Sum.inl o18) h28) (ai (ref13_Few_l5_ok none a0 0 (Sum.inr o23) h32) (ti))))))))))))))))))))) (by kernel_rfl)
            ·
             obtain rfl := si h
             exact runF_call mixed [(11, .int (a0.decls.length : Int)), (13, .bit false), (16, .int (a0.quants.length : Int)), (19, .bit false), (22, .int (a0.frees.length : Int)), (25, .bit false), (28, .int (a0.states.length : Int)), (31, .bit false), (34, .int (a0.symbols.length : Int)), (37, .bit false), (40, .int (a0.trans.length : Int)), (43, .bit false), (46, .int (a0.nodes.length : Int)), (49, .bit false), (52, .int (a0.name.length : Int)), (54, .bit false)] [⟨[0, 1, 0, 1, 1], [.live [1, 3], .keep [1]], .exit 0, (ref13_Few_l1_O a0 (Sum.inl o4)).2⟩, ⟨[0, 1, 0, 1, 1, 1], [.live [1, 4], .keep [1]], .exit 2, (ref13_Few_l2_O a0 (Sum.inl o14)).2⟩, ⟨[0, 1, 0, 1, 1, 1, 1], [.live [1, 6], .keep [1]], .ret, (ref13_Few_l4_O a0 (Sum.inr o19)).2⟩] [] (ai (len_map TDecl.D a0.decls) (ai h1 (ai (len_map TQuant.D a0.quants) (ai h2 (ai (len_map TFree.D a0.frees) (ai h3 (ai (len_map TState.D a0.states) (ai h4 (ai (len_map TSymbol.D a0.symbols) (ai h5 (ai (len_map TTrans.D a0.trans) (ai h6 (ai (len_map TNode.D a0.nodes) (ai h7 (ai (len_str a0.name) (ai h8 (ai (ref13_Few_l1_ok none a0 0 (Sum.inl o4) h14) (ai (ref13_Few_l2_ok none a0 0 (Sum.inl o14) h24) (ai (ref13_Few_l4_ok none a0 0 (Sum.inr o19) h28) (ti)))))))))))))))))))) (by kernel_rfl)
           ·
            obtain rfl := si h
            exact runF_call mixed [(11, .int (a0.decls.length : Int)), (13, .bit false), (16, .int (a0.quants.length : Int)), (19, .bit false), (22, .int (a0.frees.length : Int)), (25, .bit false), (28, .int (a0.states.length : Int)), (31, .bit false), (34, .int (a0.symbols.length : Int)), (37, .bit false), (40, .int (a0.trans.length : Int)), (43, .bit false), (46, .int (a0.nodes.length : Int)), (49, .bit false), (52, .int (a0.name.length : Int)), (54, .bit false)] [⟨[0, 1, 0, 1, 1], [.live [1, 3], .keep [1]], .exit 0, (ref13_Few_l1_O a0 (Sum.inl o4)).2⟩, ⟨[0, 1, 0, 1, 1, 1], [.live [1, 4], .keep [1]], .ret, (ref13_Few_l2_O a0 (Sum.inr o15)).2⟩] [] (ai (len_map TDecl.D a0.decls) (ai h1 (ai (len_map TQuant.D a0.quants) (ai h2 (ai (len_map TFree.D a0.frees) (ai h3 (ai (len_map TState.D a0.states) (ai h4 (ai (len_map TSymbol.D a0.symbols) (ai h5 (ai (len_map TTrans.D a0.trans) (ai h6 (ai (len_map TNode.D a0.nodes) (ai h7 (ai (len_str a0.name) (ai h8 (ai (ref13_Few_l1_ok none a0 0 (Sum.inl o4) h14) (ai (ref13_Few_l2_ok none a0 0 (Sum.inr o15) h24) (ti))))))))))))))))))) (by kernel_rfl)
          ·
           obtain rfl := si h
           exact runF_call mixed [(11, .int (a0.decls.length : Int)), (13, .bit false), (16, .int (a0.quants.length : Int)), (19, .bit false), (22, .int (a0.frees.length : Int)), (25, .bit false), (28, .int (a0.states.length : Int)), (31, .bit false), (34, .int (a0.symbols.length : Int)), (37, .bit false), (40, .int (a0.trans.length : Int)), (43, .bit false), (46, .int (a0.nodes.length : Int)), (49, .bit false), (52, .int (a0.name.length : Int)), (54, .bit false)] [⟨[0, 1, 0, 1, 1], [.live [1, 3], .keep [1]], .ret, (ref13_Few_l1_O a0 (Sum.inr o5)).2⟩] [] (ai (len_map TDecl.D a0.decls) (ai h1 (ai (len_map TQuant.D a0.quants) (ai h2 (ai (len_map TFree.D a0.frees) (ai h3 (ai (len_map TState.D a0.states) (ai h4 (ai (len_map TSymbol.D a0.symbols) (ai h5 (ai (len_map TTrans.D a0.trans) (ai h6 (ai (len_map TNode.D a0.nodes) (ai h7 (ai (len_str a0.name) (ai h8 (ai (ref13_Few_l1_ok none a0 0 (Sum.inr o5) h14) (ti)))))))))))))))))) (by kernel_rfl)
theorem law22_number_ok (a0 : Int) (r : TValue) (h : law22_number a0 = some r) : ACall Try.prog 20 [.d ((D.i .i64) a0)] [] (.d (TValue.D r)) [] := by
  unfold law22_number at h
  obtain rfl := si h
  exact runF_call mixed [] [] [] (ti) (by kernel_rfl)
def joint_own_b3_I (s1 : Int) (s5 : Int) (s6 : Int) (s9 : List TSymbol) (s10 : Int) (s11 : Int) (s19 : Bool) : St := ⟨sp 27 0 [(1, .d ((D.i .i64) s1)), (5, .d ((D.i .u64) s5)), (6, .d ((D.i .i64) s6)), (9, .d ((D.l TSymbol.D) s9)), (10, .d ((D.i .i64) s10)), (11, .d ((D.i .i64) s11)), (19, .d (D.b s19))], [], []⟩
def joint_own_b3_O (s1 : Int) (s5 : Int) (s6 : Int) (s9 : List TSymbol) (s10 : Int) (s11 : Int) (s19 : Bool) (o : Int) : Ex × St := (.normal, ⟨sp 27 0 [(1, .d ((D.i .i64) s1)), (5, .d ((D.i .u64) o)), (9, .d ((D.l TSymbol.D) s9)), (10, .d ((D.i .i64) s10)), (11, .d ((D.i .i64) s11))], [], []⟩)
theorem joint_own_b3_ok (rd : Option Nat) (s1 : Int) (s5 : Int) (s6 : Int) (s9 : List TSymbol) (s10 : Int) (s11 : Int) (s19 : Bool) (o : Int) (h : joint_own_b3 s1 s5 s6 s9 s10 s11 s19 = some o) : LpOf Try.prog rd (fbody Try.prog 39) [1, 1, 0, 0, 1, 1, 0, 0, 1, 0, 1, 1] (joint_own_b3_I s1 s5 s6 s9 s10 s11 s19) (joint_own_b3_O s1 s5 s6 s9 s10 s11 s19 o).1 (joint_own_b3_O s1 s5 s6 s9 s10 s11 s19 o).2 := by
  unfold joint_own_b3 at h
  cases s19 with
  | true =>
   replace h := iteT h
   obtain ⟨h4, h⟩ := cS h
   obtain rfl := si h
   exact (runB_arr mixed [] [] [.live [1, 5, 9, 10, 11], .keep []] (ai h4 (ti)) (by kernel_rfl)).lp
  | false =>
   replace h := iteF h
   obtain rfl := si h
   exact (runB_arr mixed [] [] [.live [1, 5, 9, 10, 11], .keep []] (ti) (by kernel_rfl)).lp
def joint_own_b2_I (s1 : Int) (s5 : Int) (s9 : List TSymbol) (s10 : Int) (s11 : Int) : St := ⟨sp 27 0 [(1, .d ((D.i .i64) s1)), (5, .d ((D.i .u64) s5)), (9, .d ((D.l TSymbol.D) s9)), (10, .d ((D.i .i64) s10)), (11, .d ((D.i .i64) s11))], [], []⟩
def joint_own_b2_O (s1 : Int) (s5 : Int) (s9 : List TSymbol) (s10 : Int) (s11 : Int) (o : Int) : Ex × St := (.normal, ⟨sp 27 0 [(1, .d ((D.i .i64) s1)), (5, .d ((D.i .u64) o)), (9, .d ((D.l TSymbol.D) s9)), (10, .d ((D.i .i64) s10)), (11, .d ((D.i .i64) s11))], [], []⟩)
theorem joint_own_b2_ok (rd : Option Nat) (s1 : Int) (s5 : Int) (s9 : List TSymbol) (s10 : Int) (s11 : Int) (o : Int) (h : joint_own_b2 s1 s5 s9 s10 s11 = some o) : LpOf Try.prog rd (fbody Try.prog 39) [0, 1, 1, 0, 0, 1, 0, 1, 1] (joint_own_b2_I s1 s5 s9 s10 s11) (joint_own_b2_O s1 s5 s9 s10 s11 o).1 (joint_own_b2_O s1 s5 s9 s10 s11 o).2 := by
  unfold joint_own_b2 at h
  obtain ⟨x1, h2, h⟩ := xS h
  obtain ⟨o2, h5, h⟩ := bS h
  obtain rfl := si h
  exact (runB_arr mixed [(14, .el (TSymbol.D x1))] [⟨[1, 1, 0, 0, 1, 1, 0, 0, 1, 0, 1, 1], [.live [1, 5, 6, 9, 10, 11, 19], .keep []], .normal, (joint_own_b3_O s1 s5 s11 s9 s10 s11 (decide (x1.event = s1)) o2).2⟩] [.live [1, 5, 9, 10, 11], .keep []] (ai (elem_map TSymbol.D h2) (ai (joint_own_b3_ok rd s1 s5 s11 s9 s10 s11 (decide (x1.event = s1)) o2 h5) (ti))) (by kernel_rfl)).lp
def joint_own_l1_I (s1 : Int) (s9 : List TSymbol) (s10 : Int) (s5 : Int) (s11 : Int) : St := ⟨sp 27 0 [(1, .d ((D.i .i64) s1)), (5, .d ((D.i .u64) s5)), (9, .d ((D.l TSymbol.D) s9)), (10, .d ((D.i .i64) s10)), (11, .d ((D.i .i64) s11))], [], []⟩
def joint_own_l1_O (s1 : Int) (s9 : List TSymbol) (s10 : Int) (o : Int) : Ex × St := (.exit 0, ⟨sp 27 0 [(5, .d ((D.i .u64) o))], [], []⟩)
theorem joint_own_l1_rnd (rd : Option Nat) (s1 : Int) (s9 : List TSymbol) (s10 : Int) (s5 : Int) (s11 : Int) (o : (Int × Int) ⊕ (Int)) (h : joint_own_l1_s s1 s9 s10 s5 s11 = some o) : Arr Try.prog rd (fbody Try.prog 39) (0 :: [0, 1, 0, 1, 1]) (joint_own_l1_I s1 s9 s10 s5 s11) (rR (fun s : Int × Int => joint_own_l1_I s1 s9 s10 s.1 s.2) (joint_own_l1_O s1 s9 s10) o).1 (rR (fun s : Int × Int => joint_own_l1_I s1 s9 s10 s.1 s.2) (joint_own_l1_O s1 s9 s10) o).2 := by
  unfold joint_own_l1_s at h
  rcases iS h with ⟨h1, h⟩ | ⟨h1, h⟩
  ·
   obtain ⟨o3, h6, h⟩ := bS h
   obtain rfl := si h
   exact runB_arr mixed [(12, .bit true)] [⟨[0, 1, 1, 0, 0, 1, 0, 1, 1], [.live [1, 5, 9, 10, 11], .keep []], .normal, (joint_own_b2_O s1 s5 s9 s10 s11 o3).2⟩] [.live [1, 5, 9, 10, 11], .keep []] (ai h1 (ai (joint_own_b2_ok rd s1 s5 s9 s10 s11 o3 h6) (ti))) (by kernel_rfl)
  ·
   obtain rfl := si h
   exact runB_arr mixed [(12, .bit false)] [] [.live [5], .keep []] (ai h1 (ti)) (by kernel_rfl)
theorem joint_own_l1_ok (rd : Option Nat) (s1 : Int) (s9 : List TSymbol) (s10 : Int) (s5 : Int) (s11 : Int) (t : Int) (h : joint_own_l1 s1 s9 s10 s5 s11 = some t) : LpOf Try.prog rd (fbody Try.prog 39) [0, 1, 0, 1, 1] (joint_own_l1_I s1 s9 s10 s5 s11) ((joint_own_l1_O s1 s9 s10) t).1 ((joint_own_l1_O s1 s9 s10) t).2 :=
  loopE_lpR (fun s : Int × Int => joint_own_l1_I s1 s9 s10 s.1 s.2) (joint_own_l1_O s1 s9 s10) (by kernel_rfl) (fun t => isN_ne (by rfl)) (fun s o h => joint_own_l1_rnd rd s1 s9 s10 s.1 s.2 o h) (s := (s5, s11)) (t := t) h
theorem joint_own_ok (a0 : TQea) (a1 : Int) (r : Int) (h : joint_own a0 a1 = some r) : ACall Try.prog 39 [.d (TQea.D a0), .d ((D.i .i64) a1)] [] (.d ((D.i .u64) r)) [] := by
  unfold joint_own at h
  obtain ⟨o4, h7, h⟩ := bS h
  obtain rfl := si h
  exact runF_call mixed [(10, .int (a0.symbols.length : Int))] [⟨[0, 1, 0, 1, 1], [.live [1, 5, 9, 10, 11], .keep []], .exit 0, (joint_own_l1_O a1 a0.symbols (a0.symbols.length : Int) o4).2⟩] [] (ai (len_map TSymbol.D a0.symbols) (ai (joint_own_l1_ok none a1 a0.symbols (a0.symbols.length : Int) 0 0 o4 h7) (ti))) (by kernel_rfl)
theorem domain_NewSet_Value_v2_ok (r : Unit) (h : domain_NewSet_Value_v2 = some r) : ACall Try.prog 24 [.clo (.func 25) [] []] [] (.box 0 0) [(0, .cells ([.nil, .clo (.func 25) [] []]))] := by
  unfold domain_NewSet_Value_v2 at h
  obtain rfl := si h
  exact runX_call mixed (fun us => []) (fun us => []) [.live [2], .keep [5, 997], .ren 5 0, .sort] [] (fun us => ti) (by kernel_rfl)
theorem value_Bool_ok (a0 : Bool) (r : TValue) (h : value_Bool a0 = some r) : ACall Try.prog 27 [.d (D.b a0)] [] (.d (TValue.D r)) [] := by
  unfold value_Bool at h
  obtain rfl := si h
  exact runF_call mixed [] [] [] (ti) (by kernel_rfl)
theorem value_Less_ok (a0 : TValue) (a1 : TValue) (r : Bool) (h : value_Less a0 a1 = some r) : ACall Try.prog 25 [.d (TValue.D a0), .d (TValue.D a1)] [] (.d (D.b r)) [] := by
  unfold value_Less at h
  rcases iS h with ⟨h1, h⟩ | ⟨h1, h⟩
  ·
   obtain rfl := si h
   exact runF_call mixed [(5, .bit true)] [] [] (ai h1 (ti)) (by kernel_rfl)
  ·
   rcases iS h with ⟨h2, h⟩ | ⟨h2, h⟩
   ·
    obtain rfl := si h
    exact runF_call mixed [(5, .bit false), (16, .bit true)] [] [] (ai h1 (ai h2 (ti))) (by kernel_rfl)
   ·
    rcases iS h with ⟨h3, h⟩ | ⟨h3, h⟩
    ·
     obtain rfl := si h
     exact runF_call mixed [(5, .bit false), (16, .bit false), (25, .bit true)] [] [] (ai h1 (ai h2 (ai h3 (ti)))) (by kernel_rfl)
    ·
     rcases iS h with ⟨h4, h⟩ | ⟨h4, h⟩
     ·
      obtain rfl := si h
      exact runF_call mixed [(5, .bit false), (16, .bit false), (25, .bit false), (37, .bit true)] [] [] (ai h1 (ai h2 (ai h3 (ai h4 (ti))))) (by kernel_rfl)
     ·
      obtain rfl := si h
      exact runF_call mixed [(5, .bit false), (16, .bit false), (25, .bit false), (37, .bit false)] [] [] (ai h1 (ai h2 (ai h3 (ai h4 (ti))))) (by kernel_rfl)
theorem domain_Set_Value_Put_1_ok (a0 : TValue) (a1 : TValue) (a2 : List TValue) (r : Int) (h : domain_Set_Value_Put_1 a0 a1 a2 = some r) : ACall Try.prog 46 [.d (TValue.D a0), .d (TValue.D a1), .eptr [.ptr ((D.cells ((D.l TValue.D) a2)) ++ [.v (.func (.func 25) #[] #[])])]] [] (.d ((D.i .i64) r)) [] := by
  unfold domain_Set_Value_Put_1 at h
  obtain ⟨r1, h1, h⟩ := bS h
  cases r1 with
  | true =>
   replace h := iteT h
   obtain rfl := si h
   exact runF_call mixed [(13, .ret (.d (D.b true)))] [] [] (ai (value_Less_ok a0 a1 true h1) (ti)) (by kernel_rfl)
  | false =>
   replace h := iteF h
   obtain ⟨r2, h3, h⟩ := bS h
   cases r2 with
   | true =>
    replace h := iteT h
    obtain rfl := si h
    exact runF_call mixed [(13, .ret (.d (D.b false))), (21, .ret (.d (D.b true)))] [] [] (ai (value_Less_ok a0 a1 false h1) (ai (value_Less_ok a1 a0 true h3) (ti))) (by kernel_rfl)
   | false =>
    replace h := iteF h
    obtain rfl := si h
    exact runF_call mixed [(13, .ret (.d (D.b false))), (21, .ret (.d (D.b false)))] [] [] (ai (value_Less_ok a0 a1 false h1) (ai (value_Less_ok a1 a0 false h3) (ti))) (by kernel_rfl)
def slices_BinarySearchFunc_Value_Value_Value_b3_I (s0 : List TValue) (s2 : List TValue) (s8 : Int) (s9 : Int) (s10 : Int) (s11 : Int) (s31 : Bool) (w4 : TValue) : St := ⟨sp 49 0 [(0, .d ((D.l TValue.D) s0)), (2, .clo (.func 46) [] [.eptr [.ptr ((D.cells ((D.l TValue.D) s2)) ++ [.v (.func (.func 25) #[] #[])])]]), (4, .box 4 0), (8, .d ((D.i .i64) s8)), (9, .d ((D.i .i64) s9)), (10, .d ((D.i .i64) s10)), (11, .d ((D.i .i64) s11)), (31, .d (D.b s31))], [(4, .cells ((cellsA (TValue.D w4))))], []⟩
def slices_BinarySearchFunc_Value_Value_Value_b3_O (s0 : List TValue) (s2 : List TValue) (s8 : Int) (s9 : Int) (s10 : Int) (s11 : Int) (s31 : Bool) (w4 : TValue) (o : (Int × Int)) : Ex × St := (.normal, ⟨sp 49 0 [(0, .d ((D.l TValue.D) s0)), (2, .clo (.func 46) [] [.eptr [.ptr ((D.cells ((D.l TValue.D) s2)) ++ [.v (.func (.func 25) #[] #[])])]]), (4, .box 4 0), (8, .d ((D.i .i64) s8)), (9, .d ((D.i .i64) o.1)), (10, .d ((D.i .i64) o.2))], [(4, .cells ((cellsA (TValue.D w4))))], []⟩)
theorem slices_BinarySearchFunc_Value_Value_Value_b3_ok (rd : Option Nat) (s0 : List TValue) (s2 : List TValue) (s8 : Int) (s9 : Int) (s10 : Int) (s11 : Int) (s31 : Bool) (w4 : TValue) (o : (Int × Int)) (h : slices_BinarySearchFunc_Value_Value_Value_b3 s0 s2 s8 s9 s10 s11 s31 w4 = some o) : LpOf Try.prog rd (fbody Try.prog 45) [1, 1, 0, 1, 0, 0, 0, 1, 1, 1] (slices_BinarySearchFunc_Value_Value_Value_b3_I s0 s2 s8 s9 s10 s11 s31 w4) (slices_BinarySearchFunc_Value_Value_Value_b3_O s0 s2 s8 s9 s10 s11 s31 w4 o).1 (slices_BinarySearchFunc_Value_Value_Value_b3_O s0 s2 s8 s9 s10 s11 s31 w4 o).2 := by
  unfold slices_BinarySearchFunc_Value_Value_Value_b3 at h
  cases s31 with
  | true =>
   replace h := iteT h
   obtain rfl := si h
   exact (runB_arr mixed [] [] [.live [0, 2, 4, 8, 9, 10], .keep [4]] (ti) (by kernel_rfl)).lp
  | false =>
   replace h := iteF h
   obtain rfl := si h
   exact (runB_arr mixed [] [] [.live [0, 2, 4, 8, 9, 10], .keep [4]] (ti) (by kernel_rfl)).lp
def slices_BinarySearchFunc_Value_Value_Value_b2_I (s0 : List TValue) (s2 : List TValue) (s8 : Int) (s9 : Int) (s10 : Int) (w4 : TValue) : St := ⟨sp 49 0 [(0, .d ((D.l TValue.D) s0)), (2, .clo (.func 46) [] [.eptr [.ptr ((D.cells ((D.l TValue.D) s2)) ++ [.v (.func (.func 25) #[] #[])])]]), (4, .box 4 0), (8, .d ((D.i .i64) s8)), (9, .d ((D.i .i64) s9)), (10, .d ((D.i .i64) s10))], [(4, .cells ((cellsA (TValue.D w4))))], []⟩
def slices_BinarySearchFunc_Value_Value_Value_b2_O (s0 : List TValue) (s2 : List TValue) (s8 : Int) (s9 : Int) (s10 : Int) (w4 : TValue) (o : (Int × Int)) : Ex × St := (.normal, ⟨sp 49 0 [(0, .d ((D.l TValue.D) s0)), (2, .clo (.func 46) [] [.eptr [.ptr ((D.cells ((D.l TValue.D) s2)) ++ [.v (.func (.func 25) #[] #[])])]]), (4, .box 4 0), (8, .d ((D.i .i64) s8)), (9, .d ((D.i .i64) o.1)), (10, .d ((D.i .i64) o.2))], [(4, .cells ((cellsA (TValue.D w4))))], []⟩)
theorem slices_BinarySearchFunc_Value_Value_Value_b2_ok (rd : Option Nat) (s0 : List TValue) (s2 : List TValue) (s8 : Int) (s9 : Int) (s10 : Int) (w4 : TValue) (o : (Int × Int)) (h : slices_BinarySearchFunc_Value_Value_Value_b2 s0 s2 s8 s9 s10 w4 = some o) : LpOf Try.prog rd (fbody Try.prog 45) [1, 0, 0, 0, 1, 1, 1] (slices_BinarySearchFunc_Value_Value_Value_b2_I s0 s2 s8 s9 s10 w4) (slices_BinarySearchFunc_Value_Value_Value_b2_O s0 s2 s8 s9 s10 w4 o).1 (slices_BinarySearchFunc_Value_Value_Value_b2_O s0 s2 s8 s9 s10 w4 o).2 := by
  unfold slices_BinarySearchFunc_Value_Value_Value_b2 at h
  obtain ⟨x1, h2, h⟩ := xS h
  obtain ⟨r2, h3, h⟩ := bS h
  obtain ⟨o3, h5, h⟩ := bS h
  obtain rfl := si h
  exact (runB_arr mixed [(27, .el (TValue.D x1)), (30, .ret (.d ((D.i .i64) r2)))] [⟨[1, 1, 0, 1, 0, 0, 0, 1, 1, 1], [.live [0, 2, 4, 8, 9, 10, 11, 31], .keep [4]], .normal, (slices_BinarySearchFunc_Value_Value_Value_b3_O s0 s2 s8 s9 s10 (IntKind.wrap .i64 (intVal .shr .u64 (IntKind.wrap .u64 (intVal .add .i64 s9 s10)) 1)) (decide (r2 < 0)) w4 o3).2⟩] [.live [0, 2, 4, 8, 9, 10], .keep [4]] (ai (of_decide_eq_true rfl : (0 : Int) ≤ 1) (ai (elem_map TValue.D h2) (ai (domain_Set_Value_Put_1_ok x1 w4 s2 r2 h3) (ai (slices_BinarySearchFunc_Value_Value_Value_b3_ok rd s0 s2 s8 s9 s10 (IntKind.wrap .i64 (intVal .shr .u64 (IntKind.wrap .u64 (intVal .add .i64 s9 s10)) 1)) (decide (r2 < 0)) w4 o3 h5) (ti))))) (by kernel_rfl)).lp
def slices_BinarySearchFunc_Value_Value_Value_l1_I (s0 : List TValue) (s2 : List TValue) (s8 : Int) (w4 : TValue) (s9 : Int) (s10 : Int) : St := ⟨sp 49 0 [(0, .d ((D.l TValue.D) s0)), (2, .clo (.func 46) [] [.eptr [.ptr ((D.cells ((D.l TValue.D) s2)) ++ [.v (.func (.func 25) #[] #[])])]]), (4, .box 4 0), (8, .d ((D.i .i64) s8)), (9, .d ((D.i .i64) s9)), (10, .d ((D.i .i64) s10))], [(4, .cells ((cellsA (TValue.D w4))))], []⟩
def slices_BinarySearchFunc_Value_Value_Value_l1_O (s0 : List TValue) (s2 : List TValue) (s8 : Int) (w4 : TValue) (o : Int) : Ex × St := (.exit 0, ⟨sp 49 0 [(0, .d ((D.l TValue.D) s0)), (2, .clo (.func 46) [] [.eptr [.ptr ((D.cells ((D.l TValue.D) s2)) ++ [.v (.func (.func 25) #[] #[])])]]), (4, .box 4 0), (8, .d ((D.i .i64) s8)), (9, .d ((D.i .i64) o))], [(4, .cells ((cellsA (TValue.D w4))))], []⟩)
theorem slices_BinarySearchFunc_Value_Value_Value_l1_rnd (rd : Option Nat) (s0 : List TValue) (s2 : List TValue) (s8 : Int) (w4 : TValue) (s9 : Int) (s10 : Int) (o : (Int × Int) ⊕ (Int)) (h : slices_BinarySearchFunc_Value_Value_Value_l1_s s0 s2 s8 w4 s9 s10 = some o) : Arr Try.prog rd (fbody Try.prog 45) (0 :: [0, 0, 1, 1, 1]) (slices_BinarySearchFunc_Value_Value_Value_l1_I s0 s2 s8 w4 s9 s10) (rR (fun s : Int × Int => slices_BinarySearchFunc_Value_Value_Value_l1_I s0 s2 s8 w4 s.1 s.2) (slices_BinarySearchFunc_Value_Value_Value_l1_O s0 s2 s8 w4) o).1 (rR (fun s : Int × Int => slices_BinarySearchFunc_Value_Value_Value_l1_I s0 s2 s8 w4 s.1 s.2) (slices_BinarySearchFunc_Value_Value_Value_l1_O s0 s2 s8 w4) o).2 := by
  unfold slices_BinarySearchFunc_Value_Value_Value_l1_s at h
  rcases iS h with ⟨h1, h⟩ | ⟨h1, h⟩
  ·
   obtain ⟨o4, h6, h⟩ := bS h
   obtain rfl := si h
   exact runB_arr mixed [(17, .bit true)] [⟨[1, 0, 0, 0, 1, 1, 1], [.live [0, 2, 4, 8, 9, 10], .keep [4]], .normal, (slices_BinarySearchFunc_Value_Value_Value_b2_O s0 s2 s8 s9 s10 w4 o4).2⟩] [.live [0, 2, 4, 8, 9, 10], .keep [4]] (ai h1 (ai (slices_BinarySearchFunc_Value_Value_Value_b2_ok rd s0 s2 s8 s9 s10 w4 o4 h6) (ti))) (by kernel_rfl)
  ·
   obtain rfl := si h
   exact runB_arr mixed [(17, .bit false)] [] [.live [0, 2, 4, 8, 9], .keep [4]] (ai h1 (ti)) (by kernel_rfl)
theorem slices_BinarySearchFunc_Value_Value_Value_l1_ok (rd : Option Nat) (s0 : List TValue) (s2 : List TValue) (s8 : Int) (w4 : TValue) (s9 : Int) (s10 : Int) (t : Int) (h : slices_BinarySearchFunc_Value_Value_Value_l1 s0 s2 s8 w4 s9 s10 = some t) : LpOf Try.prog rd (fbody Try.prog 45) [0, 0, 1, 1, 1] (slices_BinarySearchFunc_Value_Value_Value_l1_I s0 s2 s8 w4 s9 s10) ((slices_BinarySearchFunc_Value_Value_Value_l1_O s0 s2 s8 w4) t).1 ((slices_BinarySearchFunc_Value_Value_Value_l1_O s0 s2 s8 w4) t).2 :=
  loopE_lpR (fun s : Int × Int => slices_BinarySearchFunc_Value_Value_Value_l1_I s0 s2 s8 w4 s.1 s.2) (slices_BinarySearchFunc_Value_Value_Value_l1_O s0 s2 s8 w4) (by kernel_rfl) (fun t => isN_ne (by rfl)) (fun s o h => slices_BinarySearchFunc_Value_Value_Value_l1_rnd rd s0 s2 s8 w4 s.1 s.2 o h) (s := (s9, s10)) (t := t) h
theorem slices_BinarySearchFunc_Value_Value_Value_ok (a0 : List TValue) (a1 : TValue) (a2 : List TValue) (r : Int × Bool) (h : slices_BinarySearchFunc_Value_Value_Value a0 a1 a2 = some r) : ACall Try.prog 45 [.d ((D.l TValue.D) a0), .d (TValue.D a1), .clo (.func 46) [] [.eptr [.ptr ((D.cells ((D.l TValue.D) a2)) ++ [.v (.func (.func 25) #[] #[])])]]] [] (.tup [.d ((D.i .i64) r.1), .d (D.b r.2)]) [] := by
  unfold slices_BinarySearchFunc_Value_Value_Value at h
  obtain ⟨o5, h7, h⟩ := bS h
  rcases iS h with ⟨h8, h⟩ | ⟨h8, h⟩
  ·
   obtain ⟨x6, h9, h⟩ := xS h
   obtain ⟨r7, h10, h⟩ := bS h
   obtain rfl := si h
   exact runF_call mixed [(13, .int (a0.length : Int)), (39, .bit true), (43, .el (TValue.D x6)), (46, .ret (.d ((D.i .i64) r7)))] [⟨[0, 0, 1, 1, 1], [.live [0, 2, 4, 8, 9, 10], .keep [4]], .exit 0, (slices_BinarySearchFunc_Value_Value_Value_l1_O a0 a2 (a0.length : Int) a1 o5).2⟩] [] (ai (len_map TValue.D a0) (ai (slices_BinarySearchFunc_Value_Value_Value_l1_ok none a0 a2 (a0.length : Int) a1 0 (a0.length : Int) o5 h7) (ai h8 (ai (elem_map TValue.D h9) (ai (domain_Set_Value_Put_1_ok x6 a1 a2 r7 h10) (ti)))))) (by kernel_rfl)
  ·
   obtain rfl := si h
   exact runF_call mixed [(13, .int (a0.length : Int)), (39, .bit false)] [⟨[0, 0, 1, 1, 1], [.live [0, 2, 4, 8, 9, 10], .keep [4]], .exit 0, (slices_BinarySearchFunc_Value_Value_Value_l1_O a0 a2 (a0.length : Int) a1 o5).2⟩] [] (ai (len_map TValue.D a0) (ai (slices_BinarySearchFunc_Value_Value_Value_l1_ok none a0 a2 (a0.length : Int) a1 0 (a0.length : Int) o5 h7) (ai h8 (ti)))) (by kernel_rfl)
theorem slices_Insert_Value_Value_ok (i : Int) (ys r : List TValue) (h : slices_Insert_Value_Value i ys = some r) : ACall Try.prog 47 [.nil, .d (D.i .i64 i), .row 0] [(0, .row 36 4 (ys.map TValue.D))] (.row 1) [(1, .rw 36 4 (r.map TValue.D))] :=
  insN_ok (ρ := ⟨fun n => if n = 22 then 47 else if n = 29 then 59 else 60, fun n => if n = 0 then 0 else if n = 3 then 3 else if n = 4 then 4 else if n = 24 then 31 else 36, id⟩) (by_ := 40) TValue.D mixed rfl ⟨ "slices.Insert[[]proctor/api.Value,proctor/api.Value]", by decide, (Try.func47).trans (by kernel_rfl)⟩ Try.underlying3 Try.underlying4 Try.underlying31 (by kernel_rfl) (by decide) i ys r h
def domain_Set_Value_Put_v2_b1_I (us : List Value) (s5 : Int) (s6 : Bool) (s20 : Bool) (w3 : TValue) : St := ⟨sp 34 0 [(2, .box 2 0), (3, .box 3 0), (5, .d ((D.i .i64) s5)), (6, .d (D.b s6)), (20, .d (D.b s20))], [(0, .cells ([.nil, .clo (.func 25) [] []])), (2, .cells ([.box 0 0])), (3, .cells ((cellsA (TValue.D w3)))), (997, .vals [.box 0 0] us)], []⟩
def domain_Set_Value_Put_v2_b1_O (us : List Value) (s5 : Int) (s6 : Bool) (s20 : Bool) (w3 : TValue) (o : (List TValue)) : Ex × St := (.normal, ⟨sp 34 0 [(6, .d (D.b s6))], [(0, .cells ([.row 529, .clo (.func 25) [] []])), (529, .rw 36 4 (o.map TValue.D)), (997, .vals [.box 0 0] us)], []⟩)
theorem domain_Set_Value_Put_v2_b1_ok (rd : Option Nat) (us : List Value) (s5 : Int) (s6 : Bool) (s20 : Bool) (w3 : TValue) (o : (List TValue)) (h : domain_Set_Value_Put_v2_b1 s5 s6 s20 w3 = some o) : LpOf Try.prog rd (fbody Try.prog 26) [1, 0, 1, 1, 1] (domain_Set_Value_Put_v2_b1_I us s5 s6 s20 w3) (domain_Set_Value_Put_v2_b1_O us s5 s6 s20 w3 o).1 (domain_Set_Value_Put_v2_b1_O us s5 s6 s20 w3 o).2 := by
  unfold domain_Set_Value_Put_v2_b1 at h
  cases s20 with
  | true =>
   replace h := iteT h
   obtain ⟨r2, h3, h⟩ := bS h
   obtain rfl := si h
   exact (runB_arr mixed [(29, .cx true [(0, 28)] [(1, 29)] (.row 1) [(1, .rw 36 4 (r2.map TValue.D))])] [] [.live [6], .keep [0, 29, 997], .ren 29 529, .sort] (ai (nc_ok TValue.D [w3]) (ai (slices_Insert_Value_Value_ok s5 [w3] r2 h3) (ti))) (by kernel_rfl)).lp
  | false =>
   replace h := iteF h
   obtain rfl := si h
   exact (runB_arr mixed [] [] [.live [6], .keep [0, 997], .nilc 0 0 529 36 4, .sort] (ti) (by kernel_rfl)).lp
theorem domain_Set_Value_Put_v2_ok (a1 : TValue) (r : Bool × List TValue) (h : domain_Set_Value_Put_v2 a1 = some r) : ACall Try.prog 26 [.box 0 0, .d (TValue.D a1)] [(0, .cells ([.nil, .clo (.func 25) [] []]))] (.d (D.b r.1)) [(0, .cells ([.row 1, .clo (.func 25) [] []])), (1, .rw 36 4 (r.2.map TValue.D))] := by
  unfold domain_Set_Value_Put_v2 at h
  obtain ⟨r1, h1, h⟩ := bS h
  obtain ⟨o3, h4, h⟩ := bS h
  obtain rfl := si h
  exact runX_call mixed (fun us => [(16, .lend [0, 2] (.tup [.d ((D.i .i64) r1.1), .d (D.b r1.2)]))]) (fun us => [⟨[1, 0, 1, 1, 1], [.live [2, 3, 5, 6, 20], .keep [0, 2, 3, 997]], .normal, (domain_Set_Value_Put_v2_b1_O us r1.1 r1.2 (!r1.2) a1 o3).2⟩]) [.live [4], .keep [0, 529, 997], .ren 529 1, .sort] [0] (fun us => ai (slices_BinarySearchFunc_Value_Value_Value_ok ([] : List TValue) a1 ([] : List TValue) r1 h1) (ai (domain_Set_Value_Put_v2_b1_ok none us r1.1 r1.2 (!r1.2) a1 o3 h4) (ti))) (by kernel_rfl)
theorem slices_Insert_Value_Value_v2_ok (i : Int) (xs ys r : List TValue) (h : slices_Insert_Value_Value_v2 i xs ys = some r) : ACall Try.prog 47 [.row 0, .d (D.i .i64 i), .row 1] [(0, .rw 36 4 (xs.map TValue.D)), (1, .row 36 4 (ys.map TValue.D))] (.row 2) [(2, .rw 36 4 (r.map TValue.D))] :=
  insE_ok (ρ := ⟨fun n => if n = 22 then 47 else if n = 29 then 59 else 60, fun n => if n = 0 then 0 else if n = 3 then 3 else if n = 4 then 4 else if n = 24 then 31 else 36, id⟩) (by_ := 40) TValue.D mixed rfl ⟨ "slices.Insert[[]proctor/api.Value,proctor/api.Value]", by decide, (Try.func47).trans (by kernel_rfl)⟩ Try.underlying3 Try.underlying4 Try.underlying31 (by kernel_rfl) (by decide) (by decide)
    (fun args w => run_callFunc_extern Try.func59 (by kernel_rfl) (by kernel_rfl) (by kernel_rfl) (e := Go.Extern.SlicesOverlaps.overlaps #[31, 31] #[4]) (by kernel_rfl) args w) i xs ys r h
def domain_Set_Value_Put_v3_b1_I (us : List Value) (s5 : Int) (s6 : Bool) (s20 : Bool) (w3 : TValue) (w501 : List TValue) : St := ⟨sp 34 0 [(2, .box 2 0), (3, .box 3 0), (5, .d ((D.i .i64) s5)), (6, .d (D.b s6)), (20, .d (D.b s20))], [(0, .cells ([.row 501, .clo (.func 25) [] []])), (2, .cells ([.box 0 0])), (3, .cells ((cellsA (TValue.D w3)))), (501, .rw 36 4 (w501.map TValue.D)), (997, .vals [.box 0 0] us)], []⟩
def domain_Set_Value_Put_v3_b1_O (us : List Value) (s5 : Int) (s6 : Bool) (s20 : Bool) (w3 : TValue) (w501 : List TValue) (o : (List TValue)) : Ex × St := (.normal, ⟨sp 34 0 [(6, .d (D.b s6))], [(0, .cells ([.row 529, .clo (.func 25) [] []])), (529, .rw 36 4 (o.map TValue.D)), (997, .vals [.box 0 0] us)], []⟩)
theorem domain_Set_Value_Put_v3_b1_ok (rd : Option Nat) (us : List Value) (s5 : Int) (s6 : Bool) (s20 : Bool) (w3 : TValue) (w501 : List TValue) (o : (List TValue)) (h : domain_Set_Value_Put_v3_b1 s5 s6 s20 w3 w501 = some o) : LpOf Try.prog rd (fbody Try.prog 26) [1, 0, 1, 1, 1] (domain_Set_Value_Put_v3_b1_I us s5 s6 s20 w3 w501) (domain_Set_Value_Put_v3_b1_O us s5 s6 s20 w3 w501 o).1 (domain_Set_Value_Put_v3_b1_O us s5 s6 s20 w3 w501 o).2 := by
  unfold domain_Set_Value_Put_v3_b1 at h
  cases s20 with
  | true =>
   replace h := iteT h
   obtain ⟨r2, h3, h⟩ := bS h
   obtain rfl := si h
   exact (runB_arr mixed [(29, .cx true [(0, 501), (1, 28)] [(2, 29)] (.row 2) [(2, .rw 36 4 (r2.map TValue.D))])] [] [.live [6], .keep [0, 29, 997], .ren 29 529, .sort] (ai (nc_ok TValue.D [w3]) (ai (slices_Insert_Value_Value_v2_ok s5 w501 [w3] r2 h3) (ti))) (by kernel_rfl)).lp
  | false =>
   replace h := iteF h
   obtain rfl := si h
   exact (runB_arr mixed [] [] [.live [6], .keep [0, 501, 997], .ren 501 529, .sort] (ti) (by kernel_rfl)).lp
theorem domain_Set_Value_Put_v3_ok (a1 : TValue) (w1 : List TValue) (r : Bool × List TValue) (h : domain_Set_Value_Put_v3 a1 w1 = some r) : ACall Try.prog 26 [.box 0 0, .d (TValue.D a1)] [(0, .cells ([.row 1, .clo (.func 25) [] []])), (1, .rw 36 4 (w1.map TValue.D))] (.d (D.b r.1)) [(0, .cells ([.row 2, .clo (.func 25) [] []])), (2, .rw 36 4 (r.2.map TValue.D))] := by
  unfold domain_Set_Value_Put_v3 at h
  obtain ⟨r1, h1, h⟩ := bS h
  obtain ⟨o3, h4, h⟩ := bS h
  obtain rfl := si h
  exact runX_call mixed (fun us => [(16, .lend [0, 1, 2] (.tup [.d ((D.i .i64) r1.1), .d (D.b r1.2)]))]) (fun us => [⟨[1, 0, 1, 1, 1], [.live [2, 3, 5, 6, 20], .keep [0, 1, 2, 3, 997], .ren 1 501, .sort], .normal, (domain_Set_Value_Put_v3_b1_O us r1.1 r1.2 (!r1.2) a1 w1 o3).2⟩]) [.live [4], .keep [0, 529, 997], .ren 529 2, .sort] [0] (fun us => ai (slices_BinarySearchFunc_Value_Value_Value_ok w1 a1 w1 r1 h1) (ai (domain_Set_Value_Put_v3_b1_ok none us r1.1 r1.2 (!r1.2) a1 w1 o3 h4) (ti))) (by kernel_rfl)
theorem slices_Clone_Value_Value_ok (l r : List TValue) (h : slices_Clone_Value_Value l = some r) : ACall Try.prog 48 [.row 0] [(0, .rw 36 4 (l.map TValue.D))] (.row 1) [(0, .rw 36 4 (l.map TValue.D)), (1, .rw 36 4 (r.map TValue.D))] :=
  cloneE_ko (ρ := ⟨fun _ => 48, fun n => if n = 4 then 4 else if n = 22 then 31 else 36, id⟩) (by_ := 40) TValue.D rfl rfl (cloneL mixed ⟨ "slices.Clone[[]proctor/api.Value,proctor/api.Value]", by decide, (Try.func48).trans (by kernel_rfl)⟩ Try.underlying4 Try.underlying31 (by kernel_rfl) (by kernel_rfl) (by kernel_rfl) (by kernel_rfl)) (by kernel_rfl) (by decide) l r h
theorem domain_Set_Value_All_ok (w1 : List TValue) (r : List TValue × List TValue) (h : domain_Set_Value_All w1 = some r) : ACall Try.prog 28 [.box 0 0] [(0, .cells ([.row 1, .clo (.func 25) [] []])), (1, .rw 36 4 (w1.map TValue.D))] (.row 2) [(0, .cells ([.row 3, .clo (.func 25) [] []])), (2, .rw 36 4 (r.1.map TValue.D)), (3, .rw 36 4 (r.2.map TValue.D))] := by
  unfold domain_Set_Value_All at h
  obtain ⟨r1, h1, h⟩ := bS h
  obtain rfl := si h
  exact runX_call mixed (fun us => [(9, .cx true [(0, 1)] [(1, 9)] (.row 1) [(0, .rw 36 4 (w1.map TValue.D)), (1, .rw 36 4 (r1.map TValue.D))])]) (fun us => []) [.live [2], .keep [0, 1, 9, 997], .ren 1 3, .ren 9 2, .sort] [0] (fun us => ai (slices_Clone_Value_Value_ok w1 r1 h1) (ti)) (by kernel_rfl)
def joint_Consts_b1_I (us : List Value) (s1 : Int) (s12 : Bool) (w2 : TQea) : St := ⟨sp 51 0 [(1, .d ((D.i .i64) s1)), (2, .box 2 0), (5, .box 5 0), (12, .d (D.b s12))], [(2, .cells ((cellsA (TQea.D w2)))), (5, .cells ([.nil, .clo (.func 25) [] []])), (997, .vals [] us)], []⟩
def joint_Consts_b1_O (us : List Value) (s1 : Int) (s12 : Bool) (w2 : TQea) (o : (List TValue)) : Ex × St := (.normal, ⟨sp 51 0 [(1, .d ((D.i .i64) s1)), (2, .box 2 0), (5, .box 5 0)], [(2, .cells ((cellsA (TQea.D w2)))), (5, .cells ([.row 518, .clo (.func 25) [] []])), (518, .rw 36 4 (o.map TValue.D)), (997, .vals [] us)], []⟩)
theorem joint_Consts_b1_ok (rd : Option Nat) (us : List Value) (s1 : Int) (s12 : Bool) (w2 : TQea) (o : (List TValue)) (h : joint_Consts_b1 s1 s12 w2 = some o) : LpOf Try.prog rd (fbody Try.prog 12) [1, 0, 1, 1] (joint_Consts_b1_I us s1 s12 w2) (joint_Consts_b1_O us s1 s12 w2 o).1 (joint_Consts_b1_O us s1 s12 w2 o).2 := by
  unfold joint_Consts_b1 at h
  cases s12 with
  | true =>
   replace h := iteT h
   obtain ⟨r2, h3, h⟩ := bS h
   obtain ⟨r3, h4, h⟩ := bS h
   obtain ⟨r4, h5, h⟩ := bS h
   obtain ⟨r5, h6, h⟩ := bS h
   obtain rfl := si h
   exact (runB_arr mixed [(14, .ret (.d (TValue.D r2))), (15, .cx false [(0, 5)] [(1, 15)] (.d (D.b r3.1)) [(0, .cells ([.row 1, .clo (.func 25) [] []])), (1, .rw 36 4 (r3.2.map TValue.D))]), (17, .ret (.d (TValue.D r4))), (18, .cx false [(0, 5), (1, 15)] [(2, 18)] (.d (D.b r5.1)) [(0, .cells ([.row 2, .clo (.func 25) [] []])), (2, .rw 36 4 (r5.2.map TValue.D))])] [] [.live [1, 2, 5], .keep [2, 5, 18, 997], .ren 18 518, .sort] (ai (value_Bool_ok false r2 h3) (ai (domain_Set_Value_Put_v2_ok r2 r3 h4) (ai (value_Bool_ok true r4 h5) (ai (domain_Set_Value_Put_v3_ok r4 r3.2 r5 h6) (ti))))) (by kernel_rfl)).lp
  | false =>
   replace h := iteF h
   obtain rfl := si h
   exact (runB_arr mixed [] [] [.live [1, 2, 5], .keep [2, 5, 997], .nilc 5 0 518 36 4, .sort] (ti) (by kernel_rfl)).lp
def joint_Consts_b5_I (us : List Value) (s1 : Int) (s20 : List TSymbol) (s21 : Int) (s22 : Int) (s27 : List TArg) (s28 : Int) (s29 : Int) (s42 : Bool) (w9 : TArg) (w518 : List TValue) : St := ⟨sp 51 0 [(1, .d ((D.i .i64) s1)), (5, .box 5 0), (9, .box 9 0), (20, .d ((D.l TSymbol.D) s20)), (21, .d ((D.i .i64) s21)), (22, .d ((D.i .i64) s22)), (27, .d ((D.l TArg.D) s27)), (28, .d ((D.i .i64) s28)), (29, .d ((D.i .i64) s29)), (42, .d (D.b s42))], [(5, .cells ([.row 518, .clo (.func 25) [] []])), (9, .cells ((cellsA (TArg.D w9)))), (518, .rw 36 4 (w518.map TValue.D)), (997, .vals [] us)], []⟩
def joint_Consts_b5_O (us : List Value) (s1 : Int) (s20 : List TSymbol) (s21 : Int) (s22 : Int) (s27 : List TArg) (s28 : Int) (s29 : Int) (s42 : Bool) (w9 : TArg) (w518 : List TValue) (o : (List TValue)) : Ex × St := (.normal, ⟨sp 51 0 [(1, .d ((D.i .i64) s1)), (5, .box 5 0), (20, .d ((D.l TSymbol.D) s20)), (21, .d ((D.i .i64) s21)), (22, .d ((D.i .i64) s22)), (27, .d ((D.l TArg.D) s27)), (28, .d ((D.i .i64) s28)), (29, .d ((D.i .i64) s29))], [(5, .cells ([.row 546, .clo (.func 25) [] []])), (546, .rw 36 4 (o.map TValue.D)), (997, .vals [] us)], []⟩)
theorem joint_Consts_b5_ok (rd : Option Nat) (us : List Value) (s1 : Int) (s20 : List TSymbol) (s21 : Int) (s22 : Int) (s27 : List TArg) (s28 : Int) (s29 : Int) (s42 : Bool) (w9 : TArg) (w518 : List TValue) (o : (List TValue)) (h : joint_Consts_b5 s1 s20 s21 s22 s27 s28 s29 s42 w9 w518 = some o) : LpOf Try.prog rd (fbody Try.prog 12) [1, 1, 0, 0, 1, 1, 0, 0, 1, 1, 0, 0, 1, 1, 0, 0, 1, 0, 1, 1, 1] (joint_Consts_b5_I us s1 s20 s21 s22 s27 s28 s29 s42 w9 w518) (joint_Consts_b5_O us s1 s20 s21 s22 s27 s28 s29 s42 w9 w518 o).1 (joint_Consts_b5_O us s1 s20 s21 s22 s27 s28 s29 s42 w9 w518 o).2 := by
  unfold joint_Consts_b5 at h
  cases s42 with
  | true =>
   replace h := iteT h
   obtain ⟨r9, h14, h⟩ := bS h
   obtain rfl := si h
   exact (runB_arr mixed [(46, .cx false [(0, 5), (1, 518)] [(2, 46)] (.d (D.b r9.1)) [(0, .cells ([.row 2, .clo (.func 25) [] []])), (2, .rw 36 4 (r9.2.map TValue.D))])] [] [.live [1, 5, 20, 21, 22, 27, 28, 29], .keep [5, 46, 997], .ren 46 546, .sort] (ai (domain_Set_Value_Put_v3_ok w9.value w518 r9 h14) (ti)) (by kernel_rfl)).lp
  | false =>
   replace h := iteF h
   obtain rfl := si h
   exact (runB_arr mixed [] [] [.live [1, 5, 20, 21, 22, 27, 28, 29], .keep [5, 518, 997], .ren 518 546, .sort] (ti) (by kernel_rfl)).lp
def joint_Consts_b4_I (us : List Value) (s1 : Int) (s20 : List TSymbol) (s21 : Int) (s22 : Int) (s27 : List TArg) (s28 : Int) (s29 : Int) (w518 : List TValue) : St := ⟨sp 51 0 [(1, .d ((D.i .i64) s1)), (5, .box 5 0), (20, .d ((D.l TSymbol.D) s20)), (21, .d ((D.i .i64) s21)), (22, .d ((D.i .i64) s22)), (27, .d ((D.l TArg.D) s27)), (28, .d ((D.i .i64) s28)), (29, .d ((D.i .i64) s29))], [(5, .cells ([.row 518, .clo (.func 25) [] []])), (518, .rw 36 4 (w518.map TValue.D)), (997, .vals [] us)], []⟩
def joint_Consts_b4_O (us : List Value) (s1 : Int) (s20 : List TSymbol) (s21 : Int) (s22 : Int) (s27 : List TArg) (s28 : Int) (s29 : Int) (w518 : List TValue) (o : (List TValue)) : Ex × St := (.normal, ⟨sp 51 0 [(1, .d ((D.i .i64) s1)), (5, .box 5 0), (20, .d ((D.l TSymbol.D) s20)), (21, .d ((D.i .i64) s21)), (22, .d ((D.i .i64) s22)), (27, .d ((D.l TArg.D) s27)), (28, .d ((D.i .i64) s28)), (29, .d ((D.i .i64) s29))], [(5, .cells ([.row 546, .clo (.func 25) [] []])), (546, .rw 36 4 (o.map TValue.D)), (997, .vals [] us)], []⟩)
theorem joint_Consts_b4_ok (rd : Option Nat) (us : List Value) (s1 : Int) (s20 : List TSymbol) (s21 : Int) (s22 : Int) (s27 : List TArg) (s28 : Int) (s29 : Int) (w518 : List TValue) (o : (List TValue)) (h : joint_Consts_b4 s1 s20 s21 s22 s27 s28 s29 w518 = some o) : LpOf Try.prog rd (fbody Try.prog 12) [0, 1, 1, 0, 0, 1, 1, 0, 0, 1, 1, 0, 0, 1, 0, 1, 1, 1] (joint_Consts_b4_I us s1 s20 s21 s22 s27 s28 s29 w518) (joint_Consts_b4_O us s1 s20 s21 s22 s27 s28 s29 w518 o).1 (joint_Consts_b4_O us s1 s20 s21 s22 s27 s28 s29 w518 o).2 := by
  unfold joint_Consts_b4 at h
  obtain ⟨x8, h11, h⟩ := xS h
  rcases iS h with ⟨h12, h⟩ | ⟨h12, h⟩
  ·
   obtain ⟨o10, h15, h⟩ := bS h
   obtain rfl := si h
   exact (runB_arr mixed [(31, .el (TArg.D x8)), (36, .bit true)] [⟨[1, 1, 0, 0, 1, 1, 0, 0, 1, 1, 0, 0, 1, 1, 0, 0, 1, 0, 1, 1, 1], [.live [1, 5, 9, 20, 21, 22, 27, 28, 29, 42], .keep [5, 9, 518, 997]], .normal, (joint_Consts_b5_O us s1 s20 s21 s22 s27 s28 s29 (decide (x8.value.kind = s1)) x8 w518 o10).2⟩] [.live [1, 5, 20, 21, 22, 27, 28, 29], .keep [5, 546, 997]] (ai (elem_map TArg.D h11) (ai h12 (ai (joint_Consts_b5_ok rd us s1 s20 s21 s22 s27 s28 s29 (decide (x8.value.kind = s1)) x8 w518 o10 h15) (ti)))) (by kernel_rfl)).lp
  ·
   obtain ⟨o11, h16, h⟩ := bS h
   obtain rfl := si h
   exact (runB_arr mixed [(31, .el (TArg.D x8)), (36, .bit false)] [⟨[1, 1, 0, 0, 1, 1, 0, 0, 1, 1, 0, 0, 1, 1, 0, 0, 1, 0, 1, 1, 1], [.live [1, 5, 9, 20, 21, 22, 27, 28, 29, 42], .keep [5, 9, 518, 997]], .normal, (joint_Consts_b5_O us s1 s20 s21 s22 s27 s28 s29 false x8 w518 o11).2⟩] [.live [1, 5, 20, 21, 22, 27, 28, 29], .keep [5, 546, 997]] (ai (elem_map TArg.D h11) (ai h12 (ai (joint_Consts_b5_ok rd us s1 s20 s21 s22 s27 s28 s29 false x8 w518 o11 h16) (ti)))) (by kernel_rfl)).lp
def joint_Consts_l3_I (us : List Value) (s1 : Int) (s20 : List TSymbol) (s21 : Int) (s22 : Int) (s27 : List TArg) (s28 : Int) (s29 : Int) (w518 : List TValue) : St := ⟨sp 51 0 [(1, .d ((D.i .i64) s1)), (5, .box 5 0), (20, .d ((D.l TSymbol.D) s20)), (21, .d ((D.i .i64) s21)), (22, .d ((D.i .i64) s22)), (27, .d ((D.l TArg.D) s27)), (28, .d ((D.i .i64) s28)), (29, .d ((D.i .i64) s29))], [(5, .cells ([.row 518, .clo (.func 25) [] []])), (518, .rw 36 4 (w518.map TValue.D)), (997, .vals [] us)], []⟩
def joint_Consts_l3_O (us : List Value) (s1 : Int) (s20 : List TSymbol) (s21 : Int) (s22 : Int) (s27 : List TArg) (s28 : Int) (o : (List TValue)) : Ex × St := (.exit 2, ⟨sp 51 0 [(1, .d ((D.i .i64) s1)), (5, .box 5 0), (20, .d ((D.l TSymbol.D) s20)), (21, .d ((D.i .i64) s21)), (22, .d ((D.i .i64) s22))], [(5, .cells ([.row 518, .clo (.func 25) [] []])), (518, .rw 36 4 (o.map TValue.D)), (997, .vals [] us)], []⟩)
theorem joint_Consts_l3_rnd (rd : Option Nat) (us : List Value) (s1 : Int) (s20 : List TSymbol) (s21 : Int) (s22 : Int) (s27 : List TArg) (s28 : Int) (s29 : Int) (w518 : List TValue) (o : (Int × List TValue) ⊕ ((List TValue))) (h : joint_Consts_l3_s s1 s20 s21 s22 s27 s28 s29 w518 = some o) : Arr Try.prog rd (fbody Try.prog 12) (0 :: [0, 1, 1, 0, 0, 1, 1, 0, 0, 1, 0, 1, 1, 1]) (joint_Consts_l3_I us s1 s20 s21 s22 s27 s28 s29 w518) (rR (fun s : Int × List TValue => joint_Consts_l3_I us s1 s20 s21 s22 s27 s28 s.1 s.2) (joint_Consts_l3_O us s1 s20 s21 s22 s27 s28) o).1 (rR (fun s : Int × List TValue => joint_Consts_l3_I us s1 s20 s21 s22 s27 s28 s.1 s.2) (joint_Consts_l3_O us s1 s20 s21 s22 s27 s28) o).2 := by
  unfold joint_Consts_l3_s at h
  rcases iS h with ⟨h10, h⟩ | ⟨h10, h⟩
  ·
   obtain ⟨o12, h17, h⟩ := bS h
   obtain rfl := si h
   exact runB_arr mixed [(30, .bit true)] [⟨[0, 1, 1, 0, 0, 1, 1, 0, 0, 1, 1, 0, 0, 1, 0, 1, 1, 1], [.live [1, 5, 20, 21, 22, 27, 28, 29], .keep [5, 518, 997]], .normal, (joint_Consts_b4_O us s1 s20 s21 s22 s27 s28 s29 w518 o12).2⟩] [.live [1, 5, 20, 21, 22, 27, 28, 29], .keep [5, 546, 997], .ren 546 518, .sort] (ai h10 (ai (joint_Consts_b4_ok rd us s1 s20 s21 s22 s27 s28 s29 w518 o12 h17) (ti))) (by kernel_rfl)
  ·
   obtain rfl := si h
   exact runB_arr mixed [(30, .bit false)] [] [.live [1, 5, 20, 21, 22], .keep [5, 518, 997]] (ai h10 (ti)) (by kernel_rfl)
theorem joint_Consts_l3_ok (rd : Option Nat) (us : List Value) (s1 : Int) (s20 : List TSymbol) (s21 : Int) (s22 : Int) (s27 : List TArg) (s28 : Int) (s29 : Int) (w518 : List TValue) (t : (List TValue)) (h : joint_Consts_l3 s1 s20 s21 s22 s27 s28 s29 w518 = some t) : LpOf Try.prog rd (fbody Try.prog 12) [0, 1, 1, 0, 0, 1, 1, 0, 0, 1, 0, 1, 1, 1] (joint_Consts_l3_I us s1 s20 s21 s22 s27 s28 s29 w518) ((joint_Consts_l3_O us s1 s20 s21 s22 s27 s28) t).1 ((joint_Consts_l3_O us s1 s20 s21 s22 s27 s28) t).2 :=
  loopE_lpR (fun s : Int × List TValue => joint_Consts_l3_I us s1 s20 s21 s22 s27 s28 s.1 s.2) (joint_Consts_l3_O us s1 s20 s21 s22 s27 s28) (by kernel_rfl) (fun t => isN_ne (by rfl)) (fun s o h => joint_Consts_l3_rnd rd us s1 s20 s21 s22 s27 s28 s.1 s.2 o h) (s := (s29, w518)) (t := t) h
def joint_Consts_l2_I (us : List Value) (s1 : Int) (s20 : List TSymbol) (s21 : Int) (s22 : Int) (w518 : List TValue) : St := ⟨sp 51 0 [(1, .d ((D.i .i64) s1)), (5, .box 5 0), (20, .d ((D.l TSymbol.D) s20)), (21, .d ((D.i .i64) s21)), (22, .d ((D.i .i64) s22))], [(5, .cells ([.row 518, .clo (.func 25) [] []])), (518, .rw 36 4 (w518.map TValue.D)), (997, .vals [] us)], []⟩
def joint_Consts_l2_O (us : List Value) (s1 : Int) (s20 : List TSymbol) (s21 : Int) (o : (List TValue)) : Ex × St := (.exit 0, ⟨sp 51 0 [(5, .box 5 0)], [(5, .cells ([.row 518, .clo (.func 25) [] []])), (518, .rw 36 4 (o.map TValue.D)), (997, .vals [] us)], []⟩)
theorem joint_Consts_l2_rnd (rd : Option Nat) (us : List Value) (s1 : Int) (s20 : List TSymbol) (s21 : Int) (s22 : Int) (w518 : List TValue) (o : (Int × List TValue) ⊕ ((List TValue))) (h : joint_Consts_l2_s s1 s20 s21 s22 w518 = some o) : Arr Try.prog rd (fbody Try.prog 12) (0 :: [0, 1, 0, 1, 1, 1]) (joint_Consts_l2_I us s1 s20 s21 s22 w518) (rR (fun s : Int × List TValue => joint_Consts_l2_I us s1 s20 s21 s.1 s.2) (joint_Consts_l2_O us s1 s20 s21) o).1 (rR (fun s : Int × List TValue => joint_Consts_l2_I us s1 s20 s21 s.1 s.2) (joint_Consts_l2_O us s1 s20 s21) o).2 := by
  unfold joint_Consts_l2_s at h
  rcases iS h with ⟨h8, h⟩ | ⟨h8, h⟩
  ·
   obtain ⟨x7, h9, h⟩ := xS h
   obtain ⟨o13, h18, h⟩ := bS h
   obtain rfl := si h
   exact runB_arr mixed [(23, .bit true), (24, .el (TSymbol.D x7)), (28, .int (x7.args.length : Int))] [⟨[0, 1, 1, 0, 0, 1, 1, 0, 0, 1, 0, 1, 1, 1], [.live [1, 5, 20, 21, 22, 27, 28, 29], .keep [5, 518, 997]], .exit 2, (joint_Consts_l3_O us s1 s20 s21 s22 x7.args (x7.args.length : Int) o13).2⟩] [.live [1, 5, 20, 21, 22], .keep [5, 518, 997]] (ai h8 (ai (elem_map TSymbol.D h9) (ai (len_map TArg.D x7.args) (ai (joint_Consts_l3_ok rd us s1 s20 s21 s22 x7.args (x7.args.length : Int) 0 w518 o13 h18) (ti))))) (by kernel_rfl)
  ·
   obtain rfl := si h
   exact runB_arr mixed [(23, .bit false)] [] [.live [5], .keep [5, 518, 997]] (ai h8 (ti)) (by kernel_rfl)
theorem joint_Consts_l2_ok (rd : Option Nat) (us : List Value) (s1 : Int) (s20 : List TSymbol) (s21 : Int) (s22 : Int) (w518 : List TValue) (t : (List TValue)) (h : joint_Consts_l2 s1 s20 s21 s22 w518 = some t) : LpOf Try.prog rd (fbody Try.prog 12) [0, 1, 0, 1, 1, 1] (joint_Consts_l2_I us s1 s20 s21 s22 w518) ((joint_Consts_l2_O us s1 s20 s21) t).1 ((joint_Consts_l2_O us s1 s20 s21) t).2 :=
  loopE_lpR (fun s : Int × List TValue => joint_Consts_l2_I us s1 s20 s21 s.1 s.2) (joint_Consts_l2_O us s1 s20 s21) (by kernel_rfl) (fun t => isN_ne (by rfl)) (fun s o h => joint_Consts_l2_rnd rd us s1 s20 s21 s.1 s.2 o h) (s := (s22, w518)) (t := t) h
theorem joint_Consts_ok (a0 : TQea) (a1 : Int) (r : List TValue) (h : joint_Consts a0 a1 = some r) : ACall Try.prog 12 [.d (TQea.D a0), .d ((D.i .i64) a1)] [] (.row 0) [(0, .rw 36 4 (r.map TValue.D))] := by
  unfold joint_Consts at h
  obtain ⟨r1, h1, h⟩ := bS h
  obtain ⟨o6, h7, h⟩ := bS h
  obtain ⟨o14, h19, h⟩ := bS h
  obtain ⟨r15, h20, h⟩ := bS h
  obtain rfl := si h
  exact runX_call mixed (fun us => [(10, .cx false [] [(0, 417)] (.box 0 0) [(0, .cells ([.nil, .clo (.func 25) [] []]))]), (21, .int (a0.symbols.length : Int)), (50, .cx false [(0, 5), (1, 518)] [(2, 50), (3, 457)] (.row 2) [(0, .cells ([.row 3, .clo (.func 25) [] []])), (2, .rw 36 4 (r15.1.map TValue.D)), (3, .rw 36 4 (r15.2.map TValue.D))])]) (fun us => [⟨[1, 0, 1, 1], [.live [1, 2, 5, 12], .keep [2, 417, 997], .ren 417 5, .sort], .normal, (joint_Consts_b1_O us a1 (decide (a1 = 3)) a0 o6).2⟩, ⟨[0, 1, 0, 1, 1, 1], [.live [1, 5, 20, 21, 22], .keep [5, 518, 997]], .exit 0, (joint_Consts_l2_O us a1 a0.symbols (a0.symbols.length : Int) o14).2⟩]) [.live [4], .keep [50, 997], .ren 50 0, .sort] [] (fun us => ai (domain_NewSet_Value_v2_ok r1 h1) (ai (joint_Consts_b1_ok none us a1 (decide (a1 = 3)) a0 o6 h7) (ai (len_map TSymbol.D a0.symbols) (ai (joint_Consts_l2_ok none us a1 a0.symbols (a0.symbols.length : Int) 0 o6 o14 h19) (ai (domain_Set_Value_All_ok o14 r15 h20) (ti)))))) (by kernel_rfl)
def slices_Index_Value_Value_l1_I (s0 : List TValue) (s7 : Int) (w3 : TValue) (s8 : Int) : St := ⟨sp 19 0 [(0, .d ((D.l TValue.D) s0)), (3, .box 3 0), (7, .d ((D.i .i64) s7)), (8, .d ((D.i .i64) s8))], [(3, .cells ((cellsA (TValue.D w3))))], []⟩
def slices_Index_Value_Value_l1_O (s0 : List TValue) (s7 : Int) (w3 : TValue) (o : Unit ⊕ Int) : Ex × St := match o with
  | .inl o => (.exit 0, ⟨sp 19 0 [], [], []⟩)
  | .inr o => (.ret, ⟨sp 19 0 [(4, .d ((D.i .i64) o))], [], []⟩)
theorem slices_Index_Value_Value_l1_rnd (rd : Option Nat) (s0 : List TValue) (s7 : Int) (w3 : TValue) (s8 : Int) (o : (Int) ⊕ (Unit ⊕ Int)) (h : slices_Index_Value_Value_l1_s s0 s7 w3 s8 = some o) : Arr Try.prog rd (fbody Try.prog 49) (0 :: [0, 1, 0, 1]) (slices_Index_Value_Value_l1_I s0 s7 w3 s8) (rR (fun s : Int => slices_Index_Value_Value_l1_I s0 s7 w3 s) (slices_Index_Value_Value_l1_O s0 s7 w3) o).1 (rR (fun s : Int => slices_Index_Value_Value_l1_I s0 s7 w3 s) (slices_Index_Value_Value_l1_O s0 s7 w3) o).2 := by
  unfold slices_Index_Value_Value_l1_s at h
  rcases iS h with ⟨h1, h⟩ | ⟨h1, h⟩
  ·
   obtain ⟨x1, h2, h⟩ := xS h
   rcases iS h with ⟨h3, h⟩ | ⟨h3, h⟩
   ·
    obtain rfl := si h
    exact runB_arr mixed [(9, .bit true), (14, .el (TValue.D x1)), (16, .bit true)] [] [.live [4], .keep []] (ai h1 (ai (elem_map TValue.D h2) (ai h3 (ti)))) (by kernel_rfl)
   ·
    obtain rfl := si h
    exact runB_arr mixed [(9, .bit true), (14, .el (TValue.D x1)), (16, .bit false)] [] [.live [0, 3, 7, 8], .keep [3]] (ai h1 (ai (elem_map TValue.D h2) (ai h3 (ti)))) (by kernel_rfl)
  ·
   obtain rfl := si h
   exact runB_arr mixed [(9, .bit false)] [] [.live [], .keep []] (ai h1 (ti)) (by kernel_rfl)
theorem slices_Index_Value_Value_l1_ok (rd : Option Nat) (s0 : List TValue) (s7 : Int) (w3 : TValue) (s8 : Int) (t : Unit ⊕ Int) (h : slices_Index_Value_Value_l1 s0 s7 w3 s8 = some t) : LpOf Try.prog rd (fbody Try.prog 49) [0, 1, 0, 1] (slices_Index_Value_Value_l1_I s0 s7 w3 s8) ((slices_Index_Value_Value_l1_O s0 s7 w3) t).1 ((slices_Index_Value_Value_l1_O s0 s7 w3) t).2 :=
  loopE_lpR (fun s : Int => slices_Index_Value_Value_l1_I s0 s7 w3 s) (slices_Index_Value_Value_l1_O s0 s7 w3) (by kernel_rfl) (fun t => isN_ne (by rcases t with (_ | _) <;> rfl)) (fun s o h => slices_Index_Value_Value_l1_rnd rd s0 s7 w3 s o h) (s := s8) (t := t) h
theorem slices_Index_Value_Value_ok (a0 : List TValue) (a1 : TValue) (r : Int) (h : slices_Index_Value_Value a0 a1 = some r) : ACall Try.prog 49 [.d ((D.l TValue.D) a0), .d (TValue.D a1)] [] (.d ((D.i .i64) r)) [] := by
  unfold slices_Index_Value_Value at h
  obtain ⟨o2, h4, h⟩ := bS h
  replace h := sumE_some h
  rcases h with ⟨o3, rfl, h⟩ | ⟨o4, rfl, h⟩
  ·
   obtain rfl := si h
   exact runF_call mixed [(7, .int (a0.length : Int))] [⟨[0, 1, 0, 1], [.live [0, 3, 7, 8], .keep [3]], .exit 0, (slices_Index_Value_Value_l1_O a0 (a0.length : Int) a1 (Sum.inl o3)).2⟩] [] (ai (len_map TValue.D a0) (ai (slices_Index_Value_Value_l1_ok none a0 (a0.length : Int) a1 0 (Sum.inl o3) h4) (ti))) (by kernel_rfl)
  ·
   obtain rfl := si h
   exact runF_call mixed [(7, .int (a0.length : Int))] [⟨[0, 1, 0, 1], [.live [0, 3, 7, 8], .keep [3]], .ret, (slices_Index_Value_Value_l1_O a0 (a0.length : Int) a1 (Sum.inr o4)).2⟩] [] (ai (len_map TValue.D a0) (ai (slices_Index_Value_Value_l1_ok none a0 (a0.length : Int) a1 0 (Sum.inr o4) h4) (ti))) (by kernel_rfl)
theorem slices_Contains_Value_Value_ok (a0 : List TValue) (a1 : TValue) (r : Bool) (h : slices_Contains_Value_Value a0 a1 = some r) : ACall Try.prog 29 [.d ((D.l TValue.D) a0), .d (TValue.D a1)] [] (.d (D.b r)) [] := by
  unfold slices_Contains_Value_Value at h
  obtain ⟨r1, h1, h⟩ := bS h
  obtain rfl := si h
  exact runF_call mixed [(7, .ret (.d ((D.i .i64) r1)))] [] [] (ai (slices_Index_Value_Value_ok a0 a1 r1 h1) (ti)) (by kernel_rfl)
theorem slices_Grow_Value_Value_ok (n : Int) (r : List TValue) (h : slices_Grow_Value_Value n = some r) : ACall Try.prog 77 [.nil, .d (D.i .i64 n)] [] (.row 0) [(0, .rw 36 4 (r.map TValue.D))] :=
  growE_ok (ρ := ⟨fun _ => 77, fun n => if n = 0 then 0 else if n = 3 then 3 else if n = 4 then 4 else if n = 9 then 9 else if n = 20 then 20 else if n = 22 then 31 else 36, id⟩) (by_ := 40) TValue.D rfl rfl (growL mixed ⟨ "slices.Grow[[]proctor/api.Value,proctor/api.Value]", by decide, (Try.func77).trans (by kernel_rfl)⟩ Try.underlying0 Try.underlying3 Try.underlying4 Try.underlying9 Try.underlying20 Try.underlying31 (by kernel_rfl) (by kernel_rfl) (by kernel_rfl) (by kernel_rfl) (by kernel_rfl) (by kernel_rfl) (by kernel_rfl) (by kernel_rfl) (by kernel_rfl) (by kernel_rfl) (by kernel_rfl) (by kernel_rfl)) (by kernel_rfl) (by decide) n r h
def slices_Concat_Value_Value_b3_I (s0 : List (List TValue)) (s3 : Int) (s9 : List (List TValue)) (s10 : Int) (s11 : Int) (s20 : Bool) : St := ⟨sp 36 0 [(0, .d ((D.l (D.l TValue.D)) s0)), (3, .d ((D.i .i64) s3)), (9, .d ((D.l (D.l TValue.D)) s9)), (10, .d ((D.i .i64) s10)), (11, .d ((D.i .i64) s11)), (20, .d (D.b s20))], [], []⟩
def slices_Concat_Value_Value_b3_O (s0 : List (List TValue)) (s3 : Int) (s9 : List (List TValue)) (s10 : Int) (s11 : Int) (s20 : Bool) (o : Unit) : Ex × St := (.normal, ⟨sp 36 0 [(0, .d ((D.l (D.l TValue.D)) s0)), (3, .d ((D.i .i64) s3)), (9, .d ((D.l (D.l TValue.D)) s9)), (10, .d ((D.i .i64) s10)), (11, .d ((D.i .i64) s11))], [], []⟩)
theorem slices_Concat_Value_Value_b3_ok (rd : Option Nat) (s0 : List (List TValue)) (s3 : Int) (s9 : List (List TValue)) (s10 : Int) (s11 : Int) (s20 : Bool) (o : Unit) (h : slices_Concat_Value_Value_b3 s0 s3 s9 s10 s11 s20 = some o) : LpOf Try.prog rd (fbody Try.prog 62) [1, 1, 1, 0, 0, 1, 1, 0, 0, 1, 0, 1, 1] (slices_Concat_Value_Value_b3_I s0 s3 s9 s10 s11 s20) (slices_Concat_Value_Value_b3_O s0 s3 s9 s10 s11 s20 o).1 (slices_Concat_Value_Value_b3_O s0 s3 s9 s10 s11 s20 o).2 := by
  unfold slices_Concat_Value_Value_b3 at h
  cases s20 with
  | true =>
   replace h := iteT h
   cases h
  | false =>
   replace h := iteF h
   obtain rfl := si h
   exact (runB_arr mixed [] [] [.live [0, 3, 9, 10, 11], .keep []] (ti) (by kernel_rfl)).lp
def slices_Concat_Value_Value_b2_I (s0 : List (List TValue)) (s3 : Int) (s9 : List (List TValue)) (s10 : Int) (s11 : Int) : St := ⟨sp 36 0 [(0, .d ((D.l (D.l TValue.D)) s0)), (3, .d ((D.i .i64) s3)), (9, .d ((D.l (D.l TValue.D)) s9)), (10, .d ((D.i .i64) s10)), (11, .d ((D.i .i64) s11))], [], []⟩
def slices_Concat_Value_Value_b2_O (s0 : List (List TValue)) (s3 : Int) (s9 : List (List TValue)) (s10 : Int) (s11 : Int) (o : Int) : Ex × St := (.normal, ⟨sp 36 0 [(0, .d ((D.l (D.l TValue.D)) s0)), (3, .d ((D.i .i64) o)), (9, .d ((D.l (D.l TValue.D)) s9)), (10, .d ((D.i .i64) s10)), (11, .d ((D.i .i64) s11))], [], []⟩)
theorem slices_Concat_Value_Value_b2_ok (rd : Option Nat) (s0 : List (List TValue)) (s3 : Int) (s9 : List (List TValue)) (s10 : Int) (s11 : Int) (o : Int) (h : slices_Concat_Value_Value_b2 s0 s3 s9 s10 s11 = some o) : LpOf Try.prog rd (fbody Try.prog 62) [0, 1, 1, 0, 0, 1, 0, 1, 1] (slices_Concat_Value_Value_b2_I s0 s3 s9 s10 s11) (slices_Concat_Value_Value_b2_O s0 s3 s9 s10 s11 o).1 (slices_Concat_Value_Value_b2_O s0 s3 s9 s10 s11 o).2 := by
  unfold slices_Concat_Value_Value_b2 at h
  obtain ⟨x1, h2, h⟩ := xS h
  obtain ⟨o2, h4, h⟩ := bS h
  obtain rfl := si h
  exact (runB_arr mixed [(13, .el ((D.l TValue.D) x1)), (17, .int (x1.length : Int))] [⟨[1, 1, 1, 0, 0, 1, 1, 0, 0, 1, 0, 1, 1], [.live [0, 3, 9, 10, 11, 20], .keep []], .normal, (slices_Concat_Value_Value_b3_O s0 (intVal .add .i64 s3 (x1.length : Int)) s9 s10 s11 (decide ((intVal .add .i64 s3 (x1.length : Int)) < 0)) o2).2⟩] [.live [0, 3, 9, 10, 11], .keep []] (ai (elem_map (D.l TValue.D) h2) (ai (len_map TValue.D x1) (ai (slices_Concat_Value_Value_b3_ok rd s0 (intVal .add .i64 s3 (x1.length : Int)) s9 s10 s11 (decide ((intVal .add .i64 s3 (x1.length : Int)) < 0)) o2 h4) (ti)))) (by kernel_rfl)).lp
def slices_Concat_Value_Value_l1_I (s0 : List (List TValue)) (s9 : List (List TValue)) (s10 : Int) (s3 : Int) (s11 : Int) : St := ⟨sp 36 0 [(0, .d ((D.l (D.l TValue.D)) s0)), (3, .d ((D.i .i64) s3)), (9, .d ((D.l (D.l TValue.D)) s9)), (10, .d ((D.i .i64) s10)), (11, .d ((D.i .i64) s11))], [], []⟩
def slices_Concat_Value_Value_l1_O (s0 : List (List TValue)) (s9 : List (List TValue)) (s10 : Int) (o : Int) : Ex × St := (.exit 0, ⟨sp 36 0 [(0, .d ((D.l (D.l TValue.D)) s0)), (3, .d ((D.i .i64) o))], [], []⟩)
theorem slices_Concat_Value_Value_l1_rnd (rd : Option Nat) (s0 : List (List TValue)) (s9 : List (List TValue)) (s10 : Int) (s3 : Int) (s11 : Int) (o : (Int × Int) ⊕ (Int)) (h : slices_Concat_Value_Value_l1_s s0 s9 s10 s3 s11 = some o) : Arr Try.prog rd (fbody Try.prog 62) (0 :: [0, 1, 0, 1, 1]) (slices_Concat_Value_Value_l1_I s0 s9 s10 s3 s11) (rR (fun s : Int × Int => slices_Concat_Value_Value_l1_I s0 s9 s10 s.1 s.2) (slices_Concat_Value_Value_l1_O s0 s9 s10) o).1 (rR (fun s : Int × Int => slices_Concat_Value_Value_l1_I s0 s9 s10 s.1 s.2) (slices_Concat_Value_Value_l1_O s0 s9 s10) o).2 := by
  unfold slices_Concat_Value_Value_l1_s at h
  rcases iS h with ⟨h1, h⟩ | ⟨h1, h⟩
  ·
   obtain ⟨o3, h5, h⟩ := bS h
   obtain rfl := si h
   exact runB_arr mixed [(12, .bit true)] [⟨[0, 1, 1, 0, 0, 1, 0, 1, 1], [.live [0, 3, 9, 10, 11], .keep []], .normal, (slices_Concat_Value_Value_b2_O s0 s3 s9 s10 s11 o3).2⟩] [.live [0, 3, 9, 10, 11], .keep []] (ai h1 (ai (slices_Concat_Value_Value_b2_ok rd s0 s3 s9 s10 s11 o3 h5) (ti))) (by kernel_rfl)
  ·
   obtain rfl := si h
   exact runB_arr mixed [(12, .bit false)] [] [.live [0, 3], .keep []] (ai h1 (ti)) (by kernel_rfl)
theorem slices_Concat_Value_Value_l1_ok (rd : Option Nat) (s0 : List (List TValue)) (s9 : List (List TValue)) (s10 : Int) (s3 : Int) (s11 : Int) (t : Int) (h : slices_Concat_Value_Value_l1 s0 s9 s10 s3 s11 = some t) : LpOf Try.prog rd (fbody Try.prog 62) [0, 1, 0, 1, 1] (slices_Concat_Value_Value_l1_I s0 s9 s10 s3 s11) ((slices_Concat_Value_Value_l1_O s0 s9 s10) t).1 ((slices_Concat_Value_Value_l1_O s0 s9 s10) t).2 :=
  loopE_lpR (fun s : Int × Int => slices_Concat_Value_Value_l1_I s0 s9 s10 s.1 s.2) (slices_Concat_Value_Value_l1_O s0 s9 s10) (by kernel_rfl) (fun t => isN_ne (by rfl)) (fun s o h => slices_Concat_Value_Value_l1_rnd rd s0 s9 s10 s.1 s.2 o h) (s := (s3, s11)) (t := t) h
def slices_Concat_Value_Value_l4_I (s25 : List (List TValue)) (s26 : Int) (s27 : Int) (w6 : List TValue) : St := ⟨sp 36 0 [(6, .row 6), (25, .d ((D.l (D.l TValue.D)) s25)), (26, .d ((D.i .i64) s26)), (27, .d ((D.i .i64) s27))], [(6, .rw 36 4 (w6.map TValue.D))], []⟩
def slices_Concat_Value_Value_l4_O (s25 : List (List TValue)) (s26 : Int) (o : (List TValue)) : Ex × St := (.exit 2, ⟨sp 36 0 [(6, .row 6)], [(6, .rw 36 4 (o.map TValue.D))], []⟩)
theorem slices_Concat_Value_Value_l4_rnd (rd : Option Nat) (s25 : List (List TValue)) (s26 : Int) (s27 : Int) (w6 : List TValue) (o : (Int × List TValue) ⊕ ((List TValue))) (h : slices_Concat_Value_Value_l4_s s25 s26 s27 w6 = some o) : Arr Try.prog rd (fbody Try.prog 62) (0 :: [0, 1, 0, 1, 1, 1, 1]) (slices_Concat_Value_Value_l4_I s25 s26 s27 w6) (rR (fun s : Int × List TValue => slices_Concat_Value_Value_l4_I s25 s26 s.1 s.2) (slices_Concat_Value_Value_l4_O s25 s26) o).1 (rR (fun s : Int × List TValue => slices_Concat_Value_Value_l4_I s25 s26 s.1 s.2) (slices_Concat_Value_Value_l4_O s25 s26) o).2 := by
  unfold slices_Concat_Value_Value_l4_s at h
  rcases iS h with ⟨h8, h⟩ | ⟨h8, h⟩
  ·
   obtain ⟨x6, h9, h⟩ := xS h
   obtain ⟨h10, h⟩ := cS h
   obtain rfl := si h
   exact runB_arr mixed [(28, .bit true), (29, .el ((D.l TValue.D) x6)), (33, .rwl ((w6 ++ x6).map TValue.D))] [] [.live [6, 25, 26, 27], .keep [33], .ren 33 6, .sort] (ai h8 (ai (elem_map (D.l TValue.D) h9) (ai (nc_ok TValue.D x6) (ai (fit_map TValue.D h10) (ai (app_map TValue.D w6 x6) (ti)))))) (by kernel_rfl)
  ·
   obtain rfl := si h
   exact runB_arr mixed [(28, .bit false)] [] [.live [6], .keep [6]] (ai h8 (ti)) (by kernel_rfl)
theorem slices_Concat_Value_Value_l4_ok (rd : Option Nat) (s25 : List (List TValue)) (s26 : Int) (s27 : Int) (w6 : List TValue) (t : (List TValue)) (h : slices_Concat_Value_Value_l4 s25 s26 s27 w6 = some t) : LpOf Try.prog rd (fbody Try.prog 62) [0, 1, 0, 1, 1, 1, 1] (slices_Concat_Value_Value_l4_I s25 s26 s27 w6) ((slices_Concat_Value_Value_l4_O s25 s26) t).1 ((slices_Concat_Value_Value_l4_O s25 s26) t).2 :=
  loopE_lpR (fun s : Int × List TValue => slices_Concat_Value_Value_l4_I s25 s26 s.1 s.2) (slices_Concat_Value_Value_l4_O s25 s26) (by kernel_rfl) (fun t => isN_ne (by rfl)) (fun s o h => slices_Concat_Value_Value_l4_rnd rd s25 s26 s.1 s.2 o h) (s := (s27, w6)) (t := t) h
theorem slices_Concat_Value_Value_ok (a0 : List (List TValue)) (r : List TValue) (h : slices_Concat_Value_Value a0 = some r) : ACall Try.prog 62 [.d ((D.l (D.l TValue.D)) a0)] [] (.d ((D.l TValue.D) r)) [] := by
  unfold slices_Concat_Value_Value at h
  obtain ⟨o4, h6, h⟩ := bS h
  obtain ⟨r5, h7, h⟩ := bS h
  obtain ⟨o7, h11, h⟩ := bS h
  obtain rfl := si h
  exact runF_call mixed [(10, .int (a0.length : Int)), (24, .cx true [] [(0, 24)] (.row 0) [(0, .rw 36 4 (r5.map TValue.D))]), (26, .int (a0.length : Int))] [⟨[0, 1, 0, 1, 1], [.live [0, 3, 9, 10, 11], .keep []], .exit 0, (slices_Concat_Value_Value_l1_O a0 a0 (a0.length : Int) o4).2⟩, ⟨[0, 1, 0, 1, 1, 1, 1], [.live [6, 25, 26, 27], .keep [24], .ren 24 6, .sort], .exit 2, (slices_Concat_Value_Value_l4_O a0 (a0.length : Int) o7).2⟩] [.frz 6] (ai (len_map (D.l TValue.D) a0) (ai (slices_Concat_Value_Value_l1_ok none a0 a0 (a0.length : Int) 0 0 o4 h6) (ai (slices_Grow_Value_Value_ok o4 r5 h7) (ai (len_map (D.l TValue.D) a0) (ai (slices_Concat_Value_Value_l4_ok none a0 (a0.length : Int) 0 r5 o7 h11) (ti)))))) (by kernel_rfl)
def joint_New_b3_I (s0 : Int) (s1 : List TValue) (s20 : Bool) (w4 : TValue) (w6 : TValue) : St := ⟨sp 30 0 [(0, .d ((D.i .i64) s0)), (1, .d ((D.l TValue.D) s1)), (4, .box 4 0), (6, .box 6 0), (20, .d (D.b s20))], [(4, .cells ((cellsA (TValue.D w4)))), (6, .cells ((cellsA (TValue.D w6))))], []⟩
def joint_New_b3_O (s0 : Int) (s1 : List TValue) (s20 : Bool) (w4 : TValue) (w6 : TValue) (o : TValue) : Ex × St := (.normal, ⟨sp 30 0 [(0, .d ((D.i .i64) s0)), (1, .d ((D.l TValue.D) s1)), (4, .box 4 0), (6, .box 6 0)], [(4, .cells ((cellsA (TValue.D w4)))), (6, .cells ((cellsA (TValue.D o))))], []⟩)
theorem joint_New_b3_ok (rd : Option Nat) (s0 : Int) (s1 : List TValue) (s20 : Bool) (w4 : TValue) (w6 : TValue) (o : TValue) (h : joint_New_b3 s0 s1 s20 w4 w6 = some o) : LpOf Try.prog rd (fbody Try.prog 14) [1, 0, 1, 0, 0, 0, 1, 1, 1] (joint_New_b3_I s0 s1 s20 w4 w6) (joint_New_b3_O s0 s1 s20 w4 w6 o).1 (joint_New_b3_O s0 s1 s20 w4 w6 o).2 := by
  unfold joint_New_b3 at h
  cases s20 with
  | true =>
   replace h := iteT h
   obtain rfl := si h
   exact (runB_arr mixed [] [] [.live [0, 1, 4, 6], .keep [4, 6]] (ti) (by kernel_rfl)).lp
  | false =>
   replace h := iteF h
   obtain ⟨h6, h⟩ := cS h
   obtain rfl := si h
   exact (runB_arr mixed [(27, .str (w6.str ++ ([97] : List UInt8)))] [] [.live [0, 1, 4, 6], .keep [4, 6]] (ai (sapp_ok h6) (ti)) (by kernel_rfl)).lp
def joint_New_b2_I (s0 : Int) (s1 : List TValue) (w4 : TValue) (w6 : TValue) : St := ⟨sp 30 0 [(0, .d ((D.i .i64) s0)), (1, .d ((D.l TValue.D) s1)), (4, .box 4 0), (6, .box 6 0)], [(4, .cells ((cellsA (TValue.D w4)))), (6, .cells ((cellsA (TValue.D w6))))], []⟩
def joint_New_b2_O (s0 : Int) (s1 : List TValue) (w4 : TValue) (w6 : TValue) (o : TValue) : Ex × St := (.normal, ⟨sp 30 0 [(0, .d ((D.i .i64) s0)), (1, .d ((D.l TValue.D) s1)), (4, .box 4 0), (6, .box 6 0)], [(4, .cells ((cellsA (TValue.D w4)))), (6, .cells ((cellsA (TValue.D o))))], []⟩)
theorem joint_New_b2_ok (rd : Option Nat) (s0 : Int) (s1 : List TValue) (w4 : TValue) (w6 : TValue) (o : TValue) (h : joint_New_b2 s0 s1 w4 w6 = some o) : LpOf Try.prog rd (fbody Try.prog 14) [1, 0, 0, 0, 1, 1, 1] (joint_New_b2_I s0 s1 w4 w6) (joint_New_b2_O s0 s1 w4 w6 o).1 (joint_New_b2_O s0 s1 w4 w6 o).2 := by
  unfold joint_New_b2 at h
  obtain ⟨o2, h7, h⟩ := bS h
  obtain rfl := si h
  exact (runB_arr mixed [] [⟨[1, 0, 1, 0, 0, 0, 1, 1, 1], [.live [0, 1, 4, 6, 20], .keep [4, 6]], .normal, (joint_New_b3_O s0 s1 (decide (s0 = 1)) w4 w6 o2).2⟩] [.live [0, 1, 4, 6], .keep [4, 6]] (ai (joint_New_b3_ok rd s0 s1 (decide (s0 = 1)) w4 w6 o2 h7) (ti)) (by kernel_rfl)).lp
def joint_New_l1_I (s0 : Int) (s1 : List TValue) (w4 : TValue) (w6 : TValue) : St := ⟨sp 30 0 [(0, .d ((D.i .i64) s0)), (1, .d ((D.l TValue.D) s1)), (4, .box 4 0), (6, .box 6 0)], [(4, .cells ((cellsA (TValue.D w4)))), (6, .cells ((cellsA (TValue.D w6))))], []⟩
def joint_New_l1_O (s0 : Int) (s1 : List TValue) (w4 : TValue) (o : TValue) : Ex × St := (.exit 0, ⟨sp 30 0 [(4, .box 4 0), (6, .box 6 0)], [(4, .cells ((cellsA (TValue.D w4)))), (6, .cells ((cellsA (TValue.D o))))], []⟩)
theorem joint_New_l1_rnd (rd : Option Nat) (s0 : Int) (s1 : List TValue) (w4 : TValue) (w6 : TValue) (o : (TValue) ⊕ (TValue)) (h : joint_New_l1_s s0 s1 w4 w6 = some o) : Arr Try.prog rd (fbody Try.prog 14) (0 :: [0, 0, 1, 1, 1]) (joint_New_l1_I s0 s1 w4 w6) (rR (fun s : TValue => joint_New_l1_I s0 s1 w4 s) (joint_New_l1_O s0 s1 w4) o).1 (rR (fun s : TValue => joint_New_l1_I s0 s1 w4 s) (joint_New_l1_O s0 s1 w4) o).2 := by
  unfold joint_New_l1_s at h
  obtain ⟨r1, h3, h⟩ := bS h
  cases r1 with
  | true =>
   replace h := iteT h
   obtain ⟨o3, h8, h⟩ := bS h
   obtain rfl := si h
   exact runB_arr mixed [(18, .ret (.d (D.b true)))] [⟨[1, 0, 0, 0, 1, 1, 1], [.live [0, 1, 4, 6], .keep [4, 6]], .normal, (joint_New_b2_O s0 s1 w4 w6 o3).2⟩] [.live [0, 1, 4, 6], .keep [4, 6]] (ai (slices_Contains_Value_Value_ok s1 w6 true h3) (ai (joint_New_b2_ok rd s0 s1 w4 w6 o3 h8) (ti))) (by kernel_rfl)
  | false =>
   replace h := iteF h
   obtain rfl := si h
   exact runB_arr mixed [(18, .ret (.d (D.b false)))] [] [.live [4, 6], .keep [4, 6]] (ai (slices_Contains_Value_Value_ok s1 w6 false h3) (ti)) (by kernel_rfl)
theorem joint_New_l1_ok (rd : Option Nat) (s0 : Int) (s1 : List TValue) (w4 : TValue) (w6 : TValue) (t : TValue) (h : joint_New_l1 s0 s1 w4 w6 = some t) : LpOf Try.prog rd (fbody Try.prog 14) [0, 0, 1, 1, 1] (joint_New_l1_I s0 s1 w4 w6) ((joint_New_l1_O s0 s1 w4) t).1 ((joint_New_l1_O s0 s1 w4) t).2 :=
  loopE_lpR (fun s : TValue => joint_New_l1_I s0 s1 w4 s) (joint_New_l1_O s0 s1 w4) (by kernel_rfl) (fun t => isN_ne (by rfl)) (fun s o h => joint_New_l1_rnd rd s0 s1 w4 s o h) (s := w6) (t := t) h
theorem joint_New_ok (a0 : Int) (a1 : List TValue) (r : TValue × Bool) (h : joint_New a0 a1 = some r) : ACall Try.prog 14 [.d ((D.i .i64) a0), .d ((D.l TValue.D) a1)] [] (.tup [.d (TValue.D r.1), .d (D.b r.2)]) [] := by
  unfold joint_New at h
  rcases iS h with ⟨h1, h⟩ | ⟨h1, h⟩
  ·
   rcases iS h with ⟨h2, h⟩ | ⟨h2, h⟩
   ·
    obtain rfl := si h
    exact runF_call mixed [(9, .bit true), (12, .bit true)] [] [] (ai h1 (ai h2 (ti))) (by kernel_rfl)
   ·
    obtain ⟨o4, h9, h⟩ := bS h
    obtain rfl := si h
    exact runF_call mixed [(9, .bit true), (12, .bit false)] [⟨[0, 0, 1, 1, 1], [.live [0, 1, 4, 6], .keep [4, 6]], .exit 0, (joint_New_l1_O a0 a1 (TValue.mk 0 0 ([] : List UInt8) false) o4).2⟩] [] (ai h1 (ai h2 (ai (joint_New_l1_ok none a0 a1 (TValue.mk 0 0 ([] : List UInt8) false) (TValue.mk a0 0 ([] : List UInt8) false) o4 h9) (ti)))) (by kernel_rfl)
  ·
   obtain ⟨o5, h10, h⟩ := bS h
   obtain rfl := si h
   exact runF_call mixed [(9, .bit false)] [⟨[0, 0, 1, 1, 1], [.live [0, 1, 4, 6], .keep [4, 6]], .exit 0, (joint_New_l1_O a0 a1 (TValue.mk 0 0 ([] : List UInt8) false) o5).2⟩] [] (ai h1 (ai (joint_New_l1_ok none a0 a1 (TValue.mk 0 0 ([] : List UInt8) false) (TValue.mk a0 0 ([] : List UInt8) false) o5 h10) (ti))) (by kernel_rfl)
def joint_place_values_b3_I (s1 : List TValue) (s5 : Int) (s28 : List TSlot) (s29 : Int) (s30 : Int) (s45 : Bool) (w6 : List TValue) (w8 : TSlot) : St := ⟨sp 67 0 [(1, .d ((D.l TValue.D) s1)), (5, .d ((D.i .i64) s5)), (6, .row 6), (8, .box 8 0), (28, .d ((D.l TSlot.D) s28)), (29, .d ((D.i .i64) s29)), (30, .d ((D.i .i64) s30)), (45, .d (D.b s45))], [(6, .rw 36 4 (w6.map TValue.D)), (8, .cells ((cellsA (TSlot.D w8))))], []⟩
def joint_place_values_b3_O (s1 : List TValue) (s5 : Int) (s28 : List TSlot) (s29 : Int) (s30 : Int) (s45 : Bool) (w6 : List TValue) (w8 : TSlot) (o : (List TValue)) : Ex × St := (.normal, ⟨sp 67 0 [(1, .d ((D.l TValue.D) s1)), (5, .d ((D.i .i64) s5)), (6, .row 6), (28, .d ((D.l TSlot.D) s28)), (29, .d ((D.i .i64) s29)), (30, .d ((D.i .i64) s30))], [(6, .rw 36 4 (o.map TValue.D))], []⟩)
theorem joint_place_values_b3_ok (rd : Option Nat) (s1 : List TValue) (s5 : Int) (s28 : List TSlot) (s29 : Int) (s30 : Int) (s45 : Bool) (w6 : List TValue) (w8 : TSlot) (o : (List TValue)) (h : joint_place_values_b3 s1 s5 s28 s29 s30 s45 w6 w8 = some o) : LpOf Try.prog rd (fbody Try.prog 54) [1, 1, 0, 0, 1, 1, 0, 0, 1, 0, 1, 1, 1] (joint_place_values_b3_I s1 s5 s28 s29 s30 s45 w6 w8) (joint_place_values_b3_O s1 s5 s28 s29 s30 s45 w6 w8 o).1 (joint_place_values_b3_O s1 s5 s28 s29 s30 s45 w6 w8 o).2 := by
  unfold joint_place_values_b3 at h
  cases s45 with
  | true =>
   replace h := iteT h
   obtain ⟨h9, h⟩ := cS h
   obtain rfl := si h
   exact (runB_arr mixed [(50, .rwl ((w6 ++ [w8.value]).map TValue.D))] [] [.live [1, 5, 6, 28, 29, 30], .keep [50], .ren 50 6, .sort] (ai (nc_ok TValue.D [w8.value]) (ai (nc_ok TValue.D [w8.value]) (ai (fit_map TValue.D h9) (ai (app_map TValue.D w6 [w8.value]) (ti))))) (by kernel_rfl)).lp
  | false =>
   replace h := iteF h
   obtain rfl := si h
   exact (runB_arr mixed [] [] [.live [1, 5, 6, 28, 29, 30], .keep [6]] (ti) (by kernel_rfl)).lp
def joint_place_values_b2_I (s1 : List TValue) (s5 : Int) (s28 : List TSlot) (s29 : Int) (s30 : Int) (w6 : List TValue) : St := ⟨sp 67 0 [(1, .d ((D.l TValue.D) s1)), (5, .d ((D.i .i64) s5)), (6, .row 6), (28, .d ((D.l TSlot.D) s28)), (29, .d ((D.i .i64) s29)), (30, .d ((D.i .i64) s30))], [(6, .rw 36 4 (w6.map TValue.D))], []⟩
def joint_place_values_b2_O (s1 : List TValue) (s5 : Int) (s28 : List TSlot) (s29 : Int) (s30 : Int) (w6 : List TValue) (o : (List TValue)) : Ex × St := (.normal, ⟨sp 67 0 [(1, .d ((D.l TValue.D) s1)), (5, .d ((D.i .i64) s5)), (6, .row 6), (28, .d ((D.l TSlot.D) s28)), (29, .d ((D.i .i64) s29)), (30, .d ((D.i .i64) s30))], [(6, .rw 36 4 (o.map TValue.D))], []⟩)
theorem joint_place_values_b2_ok (rd : Option Nat) (s1 : List TValue) (s5 : Int) (s28 : List TSlot) (s29 : Int) (s30 : Int) (w6 : List TValue) (o : (List TValue)) (h : joint_place_values_b2 s1 s5 s28 s29 s30 w6 = some o) : LpOf Try.prog rd (fbody Try.prog 54) [0, 1, 1, 0, 0, 1, 0, 1, 1, 1] (joint_place_values_b2_I s1 s5 s28 s29 s30 w6) (joint_place_values_b2_O s1 s5 s28 s29 s30 w6 o).1 (joint_place_values_b2_O s1 s5 s28 s29 s30 w6 o).2 := by
  unfold joint_place_values_b2 at h
  obtain ⟨x4, h5, h⟩ := xS h
  rcases iS h with ⟨h6, h⟩ | ⟨h6, h⟩
  ·
   obtain ⟨r5, h7, h⟩ := bS h
   obtain ⟨o6, h10, h⟩ := bS h
   obtain rfl := si h
   exact (runB_arr mixed [(32, .el (TSlot.D x4)), (39, .bit true), (43, .lend [6] (.d (D.b r5)))] [⟨[1, 1, 0, 0, 1, 1, 0, 0, 1, 0, 1, 1, 1], [.live [1, 5, 6, 8, 28, 29, 30, 45], .keep [6, 8]], .normal, (joint_place_values_b3_O s1 s5 s28 s29 s30 (!r5) w6 x4 o6).2⟩] [.live [1, 5, 6, 28, 29, 30], .keep [6]] (ai (elem_map TSlot.D h5) (ai h6 (ai (slices_Contains_Value_Value_ok w6 x4.value r5 h7) (ai (joint_place_values_b3_ok rd s1 s5 s28 s29 s30 (!r5) w6 x4 o6 h10) (ti))))) (by kernel_rfl)).lp
  ·
   obtain ⟨o7, h11, h⟩ := bS h
   obtain rfl := si h
   exact (runB_arr mixed [(32, .el (TSlot.D x4)), (39, .bit false)] [⟨[1, 1, 0, 0, 1, 1, 0, 0, 1, 0, 1, 1, 1], [.live [1, 5, 6, 8, 28, 29, 30, 45], .keep [6, 8]], .normal, (joint_place_values_b3_O s1 s5 s28 s29 s30 false w6 x4 o7).2⟩] [.live [1, 5, 6, 28, 29, 30], .keep [6]] (ai (elem_map TSlot.D h5) (ai h6 (ai (joint_place_values_b3_ok rd s1 s5 s28 s29 s30 false w6 x4 o7 h11) (ti)))) (by kernel_rfl)).lp
def joint_place_values_l1_I (s1 : List TValue) (s5 : Int) (s28 : List TSlot) (s29 : Int) (s30 : Int) (w6 : List TValue) : St := ⟨sp 67 0 [(1, .d ((D.l TValue.D) s1)), (5, .d ((D.i .i64) s5)), (6, .row 6), (28, .d ((D.l TSlot.D) s28)), (29, .d ((D.i .i64) s29)), (30, .d ((D.i .i64) s30))], [(6, .rw 36 4 (w6.map TValue.D))], []⟩
def joint_place_values_l1_O (s1 : List TValue) (s5 : Int) (s28 : List TSlot) (s29 : Int) (o : (List TValue)) : Ex × St := (.exit 0, ⟨sp 67 0 [(1, .d ((D.l TValue.D) s1)), (5, .d ((D.i .i64) s5)), (6, .row 6)], [(6, .rw 36 4 (o.map TValue.D))], []⟩)
theorem joint_place_values_l1_rnd (rd : Option Nat) (s1 : List TValue) (s5 : Int) (s28 : List TSlot) (s29 : Int) (s30 : Int) (w6 : List TValue) (o : (Int × List TValue) ⊕ ((List TValue))) (h : joint_place_values_l1_s s1 s5 s28 s29 s30 w6 = some o) : Arr Try.prog rd (fbody Try.prog 54) (0 :: [0, 1, 0, 1, 1, 1]) (joint_place_values_l1_I s1 s5 s28 s29 s30 w6) (rR (fun s : Int × List TValue => joint_place_values_l1_I s1 s5 s28 s29 s.1 s.2) (joint_place_values_l1_O s1 s5 s28 s29) o).1 (rR (fun s : Int × List TValue => joint_place_values_l1_I s1 s5 s28 s29 s.1 s.2) (joint_place_values_l1_O s1 s5 s28 s29) o).2 := by
  unfold joint_place_values_l1_s at h
  rcases iS h with ⟨h4, h⟩ | ⟨h4, h⟩
  ·
   obtain ⟨o8, h12, h⟩ := bS h
   obtain rfl := si h
   exact runB_arr mixed [(31, .bit true)] [⟨[0, 1, 1, 0, 0, 1, 0, 1, 1, 1], [.live [1, 5, 6, 28, 29, 30], .keep [6]], .normal, (joint_place_values_b2_O s1 s5 s28 s29 s30 w6 o8).2⟩] [.live [1, 5, 6, 28, 29, 30], .keep [6]] (ai h4 (ai (joint_place_values_b2_ok rd s1 s5 s28 s29 s30 w6 o8 h12) (ti))) (by kernel_rfl)
  ·
   obtain rfl := si h
   exact runB_arr mixed [(31, .bit false)] [] [.live [1, 5, 6], .keep [6]] (ai h4 (ti)) (by kernel_rfl)
theorem joint_place_values_l1_ok (rd : Option Nat) (s1 : List TValue) (s5 : Int) (s28 : List TSlot) (s29 : Int) (s30 : Int) (w6 : List TValue) (t : (List TValue)) (h : joint_place_values_l1 s1 s5 s28 s29 s30 w6 = some t) : LpOf Try.prog rd (fbody Try.prog 54) [0, 1, 0, 1, 1, 1] (joint_place_values_l1_I s1 s5 s28 s29 s30 w6) ((joint_place_values_l1_O s1 s5 s28 s29) t).1 ((joint_place_values_l1_O s1 s5 s28 s29) t).2 :=
  loopE_lpR (fun s : Int × List TValue => joint_place_values_l1_I s1 s5 s28 s29 s.1 s.2) (joint_place_values_l1_O s1 s5 s28 s29) (by kernel_rfl) (fun t => isN_ne (by rfl)) (fun s o h => joint_place_values_l1_rnd rd s1 s5 s28 s29 s.1 s.2 o h) (s := (s30, w6)) (t := t) h
def joint_place_values_b4_I (s61 : Bool) (w6 : List TValue) (w9 : TValue) : St := ⟨sp 67 0 [(6, .row 6), (9, .box 9 0), (61, .d (D.b s61))], [(6, .row 36 4 (w6.map TValue.D)), (9, .cells ((cellsA (TValue.D w9))))], []⟩
def joint_place_values_b4_O (s61 : Bool) (w6 : List TValue) (w9 : TValue) (o : (List TValue)) : Ex × St := (.normal, ⟨sp 67 0 [(6, .row 6)], [(6, .row 36 4 (o.map TValue.D))], []⟩)
theorem joint_place_values_b4_ok (rd : Option Nat) (s61 : Bool) (w6 : List TValue) (w9 : TValue) (o : (List TValue)) (h : joint_place_values_b4 s61 w6 w9 = some o) : LpOf Try.prog rd (fbody Try.prog 54) [1, 1, 0, 1, 1, 1, 1] (joint_place_values_b4_I s61 w6 w9) (joint_place_values_b4_O s61 w6 w9 o).1 (joint_place_values_b4_O s61 w6 w9 o).2 := by
  unfold joint_place_values_b4 at h
  cases s61 with
  | true =>
   replace h := iteT h
   obtain ⟨h17, h⟩ := cS h
   obtain rfl := si h
   exact (runB_arr mixed [(65, .sl ((w6 ++ [w9]).map TValue.D))] [] [.live [6], .keep [65], .ren 65 6, .sort] (ai (nc_ok TValue.D [w9]) (ai (nc_ok TValue.D [w9]) (ai (fit_map TValue.D h17) (ai (app_map TValue.D w6 [w9]) (ti))))) (by kernel_rfl)).lp
  | false =>
   replace h := iteF h
   obtain rfl := si h
   exact (runB_arr mixed [] [] [.live [6], .keep [6]] (ti) (by kernel_rfl)).lp
theorem joint_place_values_ok (a0 : Tjoint_place) (a1 : List TValue) (r : List TValue) (h : joint_place_values a0 a1 = some r) : ACall Try.prog 54 [.d (Tjoint_place.D a0), .d ((D.l TValue.D) a1)] [] (.d ((D.l TValue.D) r)) [] := by
  unfold joint_place_values at h
  obtain ⟨x1, h1, h⟩ := xS h
  obtain ⟨x2, h2, h⟩ := xS h
  obtain ⟨r3, h3, h⟩ := bS h
  obtain ⟨o9, h13, h⟩ := bS h
  obtain ⟨r10, h14, h⟩ := bS h
  obtain ⟨r11, h15, h⟩ := bS h
  obtain ⟨o12, h18, h⟩ := bS h
  obtain rfl := si h
  exact runF_call mixed [(16, .el (TDecl.D x1)), (21, .el ((D.i .i64) x2)), (26, .cx false [] [(0, 26)] (.row 0) [(0, .rw 36 4 (r3.map TValue.D))]), (29, .int (a0.b.length : Int)), (54, .fzn 6), (57, .ret (.d ((D.l TValue.D) r10))), (58, .ret (.tup [.d (TValue.D r11.1), .d (D.b r11.2)]))] [⟨[0, 1, 0, 1, 1, 1], [.live [1, 5, 6, 28, 29, 30], .keep [26], .ren 26 6, .sort], .exit 0, (joint_place_values_l1_O a1 x2 a0.b (a0.b.length : Int) o9).2⟩, ⟨[1, 1, 0, 1, 1, 1, 1], [.live [6, 9, 61], .keep [6, 9]], .normal, (joint_place_values_b4_O r11.2 o9 r11.1 o12).2⟩] [] (ai (elem_map TDecl.D h1) (ai (elem_map (D.i .i64) h2) (ai (joint_Consts_ok a0.q x2 r3 h3) (ai (len_map TSlot.D a0.b) (ai (joint_place_values_l1_ok none a1 x2 a0.b (a0.b.length : Int) 0 r3 o9 h13) (ai (nc_ok (D.l TValue.D) [o9, a1]) (ai (slices_Concat_Value_Value_ok [o9, a1] r10 h14) (ai (joint_New_ok x2 r10 r11 h15) (ai (joint_place_values_b4_ok none r11.2 o9 r11.1 o12 h18) (ti)))))))))) (by kernel_rfl)
def binding_Get_l1_I (s1 : Int) (s8 : List TSlot) (s9 : Int) (w4 : TValue) (s10 : Int) : St := ⟨sp 22 0 [(1, .d ((D.i .i64) s1)), (4, .box 4 0), (8, .d ((D.l TSlot.D) s8)), (9, .d ((D.i .i64) s9)), (10, .d ((D.i .i64) s10))], [(4, .cells ((cellsA (TValue.D w4))))], []⟩
def binding_Get_l1_O (s1 : Int) (s8 : List TSlot) (s9 : Int) (w4 : TValue) (o : Unit ⊕ TValue) : Ex × St := match o with
  | .inl o => (.exit 0, ⟨sp 22 0 [(4, .box 4 0)], [(4, .cells ((cellsA (TValue.D w4))))], []⟩)
  | .inr o => (.ret, ⟨sp 22 0 [(4, .box 4 0), (5, .d (D.b true))], [(4, .cells ((cellsA (TValue.D o))))], []⟩)
theorem binding_Get_l1_rnd (rd : Option Nat) (s1 : Int) (s8 : List TSlot) (s9 : Int) (w4 : TValue) (s10 : Int) (o : (Int) ⊕ (Unit ⊕ TValue)) (h : binding_Get_l1_s s1 s8 s9 w4 s10 = some o) : Arr Try.prog rd (fbody Try.prog 78) (0 :: [0, 1, 0, 1]) (binding_Get_l1_I s1 s8 s9 w4 s10) (rR (fun s : Int => binding_Get_l1_I s1 s8 s9 w4 s) (binding_Get_l1_O s1 s8 s9 w4) o).1 (rR (fun s : Int => binding_Get_l1_I s1 s8 s9 w4 s) (binding_Get_l1_O s1 s8 s9 w4) o).2 := by
  unfold binding_Get_l1_s at h
  rcases iS h with ⟨h1, h⟩ | ⟨h1, h⟩
  ·
   obtain ⟨x1, h2, h⟩ := xS h
   rcases iS h with ⟨h3, h⟩ | ⟨h3, h⟩
   ·
    obtain rfl := si h
    exact runB_arr mixed [(11, .bit true), (12, .el (TSlot.D x1)), (17, .bit true)] [] [.live [4, 5], .keep [4]] (ai h1 (ai (elem_map TSlot.D h2) (ai h3 (ti)))) (by kernel_rfl)
   ·
    obtain rfl := si h
    exact runB_arr mixed [(11, .bit true), (12, .el (TSlot.D x1)), (17, .bit false)] [] [.live [1, 4, 8, 9, 10], .keep [4]] (ai h1 (ai (elem_map TSlot.D h2) (ai h3 (ti)))) (by kernel_rfl)
  ·
   obtain rfl := si h
   exact runB_arr mixed [(11, .bit false)] [] [.live [4], .keep [4]] (ai h1 (ti)) (by kernel_rfl)
theorem binding_Get_l1_ok (rd : Option Nat) (s1 : Int) (s8 : List TSlot) (s9 : Int) (w4 : TValue) (s10 : Int) (t : Unit ⊕ TValue) (h : binding_Get_l1 s1 s8 s9 w4 s10 = some t) : LpOf Try.prog rd (fbody Try.prog 78) [0, 1, 0, 1] (binding_Get_l1_I s1 s8 s9 w4 s10) ((binding_Get_l1_O s1 s8 s9 w4) t).1 ((binding_Get_l1_O s1 s8 s9 w4) t).2 :=
  loopE_lpR (fun s : Int => binding_Get_l1_I s1 s8 s9 w4 s) (binding_Get_l1_O s1 s8 s9 w4) (by kernel_rfl) (fun t => isN_ne (by rcases t with (_ | _) <;> rfl)) (fun s o h => binding_Get_l1_rnd rd s1 s8 s9 w4 s o h) (s := s10) (t := t) h
theorem binding_Get_ok (a0 : List TSlot) (a1 : Int) (r : TValue × Bool) (h : binding_Get a0 a1 = some r) : ACall Try.prog 78 [.d ((D.l TSlot.D) a0), .d ((D.i .i64) a1)] [] (.tup [.d (TValue.D r.1), .d (D.b r.2)]) [] := by
  unfold binding_Get at h
  obtain ⟨o2, h4, h⟩ := bS h
  replace h := sumE_some h
  rcases h with ⟨o3, rfl, h⟩ | ⟨o4, rfl, h⟩
  ·
   obtain rfl := si h
   exact runF_call mixed [(9, .int (a0.length : Int))] [⟨[0, 1, 0, 1], [.live [1, 4, 8, 9, 10], .keep [4]], .exit 0, (binding_Get_l1_O a1 a0 (a0.length : Int) (TValue.mk 0 0 ([] : List UInt8) false) (Sum.inl o3)).2⟩] [] (ai (len_map TSlot.D a0) (ai (binding_Get_l1_ok none a1 a0 (a0.length : Int) (TValue.mk 0 0 ([] : List UInt8) false) 0 (Sum.inl o3) h4) (ti))) (by kernel_rfl)
  ·
   obtain rfl := si h
   exact runF_call mixed [(9, .int (a0.length : Int))] [⟨[0, 1, 0, 1], [.live [1, 4, 8, 9, 10], .keep [4]], .ret, (binding_Get_l1_O a1 a0 (a0.length : Int) (TValue.mk 0 0 ([] : List UInt8) false) (Sum.inr o4)).2⟩] [] (ai (len_map TSlot.D a0) (ai (binding_Get_l1_ok none a1 a0 (a0.length : Int) (TValue.mk 0 0 ([] : List UInt8) false) 0 (Sum.inr o4) h4) (ti))) (by kernel_rfl)
theorem joint_place_fits_ok (a0 : Tjoint_place) (a1 : TArg) (a2 : TValue) (r : Bool) (h : joint_place_fits a0 a1 a2 = some r) : ACall Try.prog 63 [.d (Tjoint_place.D a0), .d (TArg.D a1), .d (TValue.D a2)] [] (.d (D.b r)) [] := by
  unfold joint_place_fits at h
  rcases iS h with ⟨h1, h⟩ | ⟨h1, h⟩
  ·
   obtain rfl := si h
   exact runF_call mixed [(11, .bit true)] [] [] (ai h1 (ti)) (by kernel_rfl)
  ·
   rcases iS h with ⟨h2, h⟩ | ⟨h2, h⟩
   ·
    obtain ⟨r1, h3, h⟩ := bS h
    rcases iS h with ⟨h4, h⟩ | ⟨h4, h⟩
    ·
     obtain rfl := si h
     exact runF_call mixed [(11, .bit false), (17, .bit true), (24, .ret (.tup [.d (TValue.D r1.1), .d (D.b r1.2)])), (28, .bit true)] [] [] (ai h1 (ai h2 (ai (binding_Get_ok a0.b a1.n r1 h3) (ai h4 (ti))))) (by kernel_rfl)
    ·
     obtain rfl := si h
     exact runF_call mixed [(11, .bit false), (17, .bit true), (24, .ret (.tup [.d (TValue.D r1.1), .d (D.b r1.2)])), (28, .bit false)] [] [] (ai h1 (ai h2 (ai (binding_Get_ok a0.b a1.n r1 h3) (ai h4 (ti))))) (by kernel_rfl)
   ·
    obtain rfl := si h
    exact runF_call mixed [(11, .bit false), (17, .bit false)] [] [] (ai h1 (ai h2 (ti))) (by kernel_rfl)
def joint_place_with_b3_I (s6 : Int) (s7 : Int) (s11 : List TSymbol) (s12 : Int) (s13 : Int) (s34 : Bool) (w2 : Tjoint_place) (w3 : TValue) : St := ⟨sp 42 0 [(2, .box 2 0), (3, .box 3 0), (5, .clo (.func 63) [] []), (6, .d ((D.i .u64) s6)), (7, .d ((D.i .i64) s7)), (11, .d ((D.l TSymbol.D) s11)), (12, .d ((D.i .i64) s12)), (13, .d ((D.i .i64) s13)), (34, .d (D.b s34))], [(2, .cells ((cellsA (Tjoint_place.D w2)))), (3, .cells ((cellsA (TValue.D w3))))], []⟩
def joint_place_with_b3_O (s6 : Int) (s7 : Int) (s11 : List TSymbol) (s12 : Int) (s13 : Int) (s34 : Bool) (w2 : Tjoint_place) (w3 : TValue) (o : Int) : Ex × St := (.normal, ⟨sp 42 0 [(2, .box 2 0), (3, .box 3 0), (5, .clo (.func 63) [] []), (6, .d ((D.i .u64) o)), (11, .d ((D.l TSymbol.D) s11)), (12, .d ((D.i .i64) s12)), (13, .d ((D.i .i64) s13))], [(2, .cells ((cellsA (Tjoint_place.D w2)))), (3, .cells ((cellsA (TValue.D w3))))], []⟩)
theorem joint_place_with_b3_ok (rd : Option Nat) (s6 : Int) (s7 : Int) (s11 : List TSymbol) (s12 : Int) (s13 : Int) (s34 : Bool) (w2 : Tjoint_place) (w3 : TValue) (o : Int) (h : joint_place_with_b3 s6 s7 s11 s12 s13 s34 w2 w3 = some o) : LpOf Try.prog rd (fbody Try.prog 55) [1, 1, 0, 0, 1, 1, 0, 0, 1, 0, 1, 1, 1] (joint_place_with_b3_I s6 s7 s11 s12 s13 s34 w2 w3) (joint_place_with_b3_O s6 s7 s11 s12 s13 s34 w2 w3 o).1 (joint_place_with_b3_O s6 s7 s11 s12 s13 s34 w2 w3 o).2 := by
  unfold joint_place_with_b3 at h
  cases s34 with
  | true =>
   replace h := iteT h
   obtain ⟨h7, h⟩ := cS h
   obtain rfl := si h
   exact (runB_arr mixed [] [] [.live [2, 3, 5, 6, 11, 12, 13], .keep [2, 3]] (ai h7 (ti)) (by kernel_rfl)).lp
  | false =>
   replace h := iteF h
   obtain rfl := si h
   exact (runB_arr mixed [] [] [.live [2, 3, 5, 6, 11, 12, 13], .keep [2, 3]] (ti) (by kernel_rfl)).lp
def joint_place_with_b2_I (s6 : Int) (s11 : List TSymbol) (s12 : Int) (s13 : Int) (w2 : Tjoint_place) (w3 : TValue) : St := ⟨sp 42 0 [(2, .box 2 0), (3, .box 3 0), (5, .clo (.func 63) [] []), (6, .d ((D.i .u64) s6)), (11, .d ((D.l TSymbol.D) s11)), (12, .d ((D.i .i64) s12)), (13, .d ((D.i .i64) s13))], [(2, .cells ((cellsA (Tjoint_place.D w2)))), (3, .cells ((cellsA (TValue.D w3))))], []⟩
def joint_place_with_b2_O (s6 : Int) (s11 : List TSymbol) (s12 : Int) (s13 : Int) (w2 : Tjoint_place) (w3 : TValue) (o : Int) : Ex × St := (.normal, ⟨sp 42 0 [(2, .box 2 0), (3, .box 3 0), (5, .clo (.func 63) [] []), (6, .d ((D.i .u64) o)), (11, .d ((D.l TSymbol.D) s11)), (12, .d ((D.i .i64) s12)), (13, .d ((D.i .i64) s13))], [(2, .cells ((cellsA (Tjoint_place.D w2)))), (3, .cells ((cellsA (TValue.D w3))))], []⟩)
theorem joint_place_with_b2_ok (rd : Option Nat) (s6 : Int) (s11 : List TSymbol) (s12 : Int) (s13 : Int) (w2 : Tjoint_place) (w3 : TValue) (o : Int) (h : joint_place_with_b2 s6 s11 s12 s13 w2 w3 = some o) : LpOf Try.prog rd (fbody Try.prog 55) [0, 1, 1, 0, 0, 1, 0, 1, 1, 1] (joint_place_with_b2_I s6 s11 s12 s13 w2 w3) (joint_place_with_b2_O s6 s11 s12 s13 w2 w3 o).1 (joint_place_with_b2_O s6 s11 s12 s13 w2 w3 o).2 := by
  unfold joint_place_with_b2 at h
  obtain ⟨x1, h2, h⟩ := xS h
  rcases iS h with ⟨h3, h⟩ | ⟨h3, h⟩
  ·
   obtain ⟨x2, h4, h⟩ := xS h
   obtain ⟨r3, h5, h⟩ := bS h
   obtain ⟨o4, h8, h⟩ := bS h
   obtain rfl := si h
   exact (runB_arr mixed [(16, .el (TSymbol.D x1)), (23, .bit true), (30, .el (TArg.D x2)), (33, .ret (.d (D.b r3)))] [⟨[1, 1, 0, 0, 1, 1, 0, 0, 1, 0, 1, 1, 1], [.live [2, 3, 5, 6, 7, 11, 12, 13, 34], .keep [2, 3]], .normal, (joint_place_with_b3_O s6 s13 s11 s12 s13 r3 w2 w3 o4).2⟩] [.live [2, 3, 5, 6, 11, 12, 13], .keep [2, 3]] (ai (elem_map TSymbol.D h2) (ai h3 (ai (elem_map TArg.D h4) (ai (joint_place_fits_ok w2 x2 w3 r3 h5) (ai (joint_place_with_b3_ok rd s6 s13 s11 s12 s13 r3 w2 w3 o4 h8) (ti)))))) (by kernel_rfl)).lp
  ·
   obtain ⟨o5, h9, h⟩ := bS h
   obtain rfl := si h
   exact (runB_arr mixed [(16, .el (TSymbol.D x1)), (23, .bit false)] [⟨[1, 1, 0, 0, 1, 1, 0, 0, 1, 0, 1, 1, 1], [.live [2, 3, 5, 6, 7, 11, 12, 13, 34], .keep [2, 3]], .normal, (joint_place_with_b3_O s6 s13 s11 s12 s13 false w2 w3 o5).2⟩] [.live [2, 3, 5, 6, 11, 12, 13], .keep [2, 3]] (ai (elem_map TSymbol.D h2) (ai h3 (ai (joint_place_with_b3_ok rd s6 s13 s11 s12 s13 false w2 w3 o5 h9) (ti)))) (by kernel_rfl)).lp
def joint_place_with_l1_I (s11 : List TSymbol) (s12 : Int) (w2 : Tjoint_place) (w3 : TValue) (s6 : Int) (s13 : Int) : St := ⟨sp 42 0 [(2, .box 2 0), (3, .box 3 0), (5, .clo (.func 63) [] []), (6, .d ((D.i .u64) s6)), (11, .d ((D.l TSymbol.D) s11)), (12, .d ((D.i .i64) s12)), (13, .d ((D.i .i64) s13))], [(2, .cells ((cellsA (Tjoint_place.D w2)))), (3, .cells ((cellsA (TValue.D w3))))], []⟩
def joint_place_with_l1_O (s11 : List TSymbol) (s12 : Int) (w2 : Tjoint_place) (w3 : TValue) (o : Int) : Ex × St := (.exit 0, ⟨sp 42 0 [(6, .d ((D.i .u64) o))], [], []⟩)
theorem joint_place_with_l1_rnd (rd : Option Nat) (s11 : List TSymbol) (s12 : Int) (w2 : Tjoint_place) (w3 : TValue) (s6 : Int) (s13 : Int) (o : (Int × Int) ⊕ (Int)) (h : joint_place_with_l1_s s11 s12 w2 w3 s6 s13 = some o) : Arr Try.prog rd (fbody Try.prog 55) (0 :: [0, 1, 0, 1, 1, 1]) (joint_place_with_l1_I s11 s12 w2 w3 s6 s13) (rR (fun s : Int × Int => joint_place_with_l1_I s11 s12 w2 w3 s.1 s.2) (joint_place_with_l1_O s11 s12 w2 w3) o).1 (rR (fun s : Int × Int => joint_place_with_l1_I s11 s12 w2 w3 s.1 s.2) (joint_place_with_l1_O s11 s12 w2 w3) o).2 := by
  unfold joint_place_with_l1_s at h
  rcases iS h with ⟨h1, h⟩ | ⟨h1, h⟩
  ·
   obtain ⟨o6, h10, h⟩ := bS h
   obtain rfl := si h
   exact runB_arr mixed [(14, .bit true)] [⟨[0, 1, 1, 0, 0, 1, 0, 1, 1, 1], [.live [2, 3, 5, 6, 11, 12, 13], .keep [2, 3]], .normal, (joint_place_with_b2_O s6 s11 s12 s13 w2 w3 o6).2⟩] [.live [2, 3, 5, 6, 11, 12, 13], .keep [2, 3]] (ai h1 (ai (joint_place_with_b2_ok rd s6 s11 s12 s13 w2 w3 o6 h10) (ti))) (by kernel_rfl)
  ·
   obtain rfl := si h
   exact runB_arr mixed [(14, .bit false)] [] [.live [6], .keep []] (ai h1 (ti)) (by kernel_rfl)
theorem joint_place_with_l1_ok (rd : Option Nat) (s11 : List TSymbol) (s12 : Int) (w2 : Tjoint_place) (w3 : TValue) (s6 : Int) (s13 : Int) (t : Int) (h : joint_place_with_l1 s11 s12 w2 w3 s6 s13 = some t) : LpOf Try.prog rd (fbody Try.prog 55) [0, 1, 0, 1, 1, 1] (joint_place_with_l1_I s11 s12 w2 w3 s6 s13) ((joint_place_with_l1_O s11 s12 w2 w3) t).1 ((joint_place_with_l1_O s11 s12 w2 w3) t).2 :=
  loopE_lpR (fun s : Int × Int => joint_place_with_l1_I s11 s12 w2 w3 s.1 s.2) (joint_place_with_l1_O s11 s12 w2 w3) (by kernel_rfl) (fun t => isN_ne (by rfl)) (fun s o h => joint_place_with_l1_rnd rd s11 s12 w2 w3 s.1 s.2 o h) (s := (s6, s13)) (t := t) h
theorem joint_place_with_ok (a0 : Tjoint_place) (a1 : TValue) (r : Int) (h : joint_place_with a0 a1 = some r) : ACall Try.prog 55 [.d (Tjoint_place.D a0), .d (TValue.D a1)] [] (.d ((D.i .u64) r)) [] := by
  unfold joint_place_with at h
  obtain ⟨o7, h11, h⟩ := bS h
  obtain rfl := si h
  exact runF_call mixed [(12, .int (a0.q.symbols.length : Int))] [⟨[0, 1, 0, 1, 1, 1], [.live [2, 3, 5, 6, 11, 12, 13], .keep [2, 3]], .exit 0, (joint_place_with_l1_O a0.q.symbols (a0.q.symbols.length : Int) a0 a1 o7).2⟩] [] (ai (len_map TSymbol.D a0.q.symbols) (ai (joint_place_with_l1_ok none a0.q.symbols (a0.q.symbols.length : Int) a0 a1 0 0 o7 h11) (ti))) (by kernel_rfl)
def joint_narrow_m3_I (clk : Nat) (es : List (Nat × Int × Bool)) (us : List Value) (s8 : Int) (s12 : List TValue) (s13 : Int) (s14 : Int) (w0 : List (Int × Bool)) (w3 : Tjoint_place) (w5 : List (Int × Bool)) (sn : List Nat) : St := ⟨sp 33 0 [(0, .row 0), (3, .box 3 0), (5, .row 5), (8, .d ((D.i .u64) s8)), (12, .d ((D.l TValue.D) s12)), (13, .d ((D.i .i64) s13)), (14, .d ((D.i .i64) s14)), (22, .box 22 0)], [(0, .map clk (dl (D.i .u64) D.b es)), (3, .cells ((cellsA (Tjoint_place.D w3)))), (5, .mapS (ms (D.i .u64) D.b w5)), (22, .mit 0 clk sn), (997, .vals [] us)], []⟩
def joint_narrow_m3_O (clk : Nat) (es : List (Nat × Int × Bool)) (us : List Value) (s8 : Int) (s12 : List TValue) (s13 : Int) (s14 : Int) (w0 : List (Int × Bool)) (w3 : Tjoint_place) (o : (List (Int × Bool))) : Ex × St := (.exit 2, ⟨sp 33 0 [(0, .row 0), (3, .box 3 0), (5, .row 5), (12, .d ((D.l TValue.D) s12)), (13, .d ((D.i .i64) s13)), (14, .d ((D.i .i64) s14))], [(0, .map clk (dl (D.i .u64) D.b es)), (3, .cells ((cellsA (Tjoint_place.D w3)))), (5, .mapS (ms (D.i .u64) D.b o)), (997, .vals [] us)], []⟩)
def joint_narrow_m3_Q (clk : Nat) (es : List (Nat × Int × Bool)) (us : List Value) (s8 : Int) (s12 : List TValue) (s13 : Int) (s14 : Int) (w0 : List (Int × Bool)) (w3 : Tjoint_place) (w5 : List (Int × Bool)) : St := ⟨sp 33 0 [(0, .row 0), (3, .box 3 0), (5, .row 5), (12, .d ((D.l TValue.D) s12)), (13, .d ((D.i .i64) s13)), (14, .d ((D.i .i64) s14))], [(0, .map clk (dl (D.i .u64) D.b es)), (3, .cells ((cellsA (Tjoint_place.D w3)))), (5, .mapS (ms (D.i .u64) D.b w5)), (997, .vals [] us)], []⟩
set_option maxRecDepth 100000 in
theorem joint_narrow_m3_rnd (rd : Option Nat) (us : List Value) (clk : Nat) (es : List (Nat × Int × Bool)) (s8 : Int) (s12 : List TValue) (s13 : Int) (s14 : Int) (w0 : List (Int × Bool)) (w3 : Tjoint_place) (k : Int) (v : Bool) (w5 : List (Int × Bool)) (sn : List Nat) (st : Nat) (hm : (st, k, v) ∈ es) (o : (List (Int × Bool))) (h : joint_narrow_m3_s s8 s12 s13 s14 w0 w3 k v w5 = some o) : ACNa Try.prog rd (fbody Try.prog 40) [0, 1, 1, 1, 0, 0, 1, 1, 0, 0, 1, 0, 1, 1] ((⟨(joint_narrow_m3_I clk es us s8 s12 s13 s14 w0 w3 w5 sn).E, updB (joint_narrow_m3_I clk es us s8 s12 s13 s14 w0 w3 w5 sn).B 22 (.mit 0 clk (sn ++ [st])), []⟩ : St).put (some 23) (.tup [bo true, .d ((D.i .u64) k), .d (D.b v)])) fun zx zs => zx = .normal ∧ Wk zs ((fun s : (List (Int × Bool)) => joint_narrow_m3_I clk es us s8 s12 s13 s14 w0 w3 s (sn ++ [st])) o) := by
  unfold joint_narrow_m3_s at h
  obtain rfl := si h
  exact runN_acn mixed [(25, .en ((D.i .u64) k) (D.b v)), (10027, .ms (ms (D.i .u64) D.b (putS (intVal .and .u64 k s8) true w5)))] [] [.live [0, 3, 5, 8, 12, 13, 14, 22], .keep [0, 3, 5, 22, 997]] (ai (menr_ok (fk := (D.i .u64)) (fv := D.b) (clk := clk) (sn := sn) hm) (ai (putS_ok (keyI Try.underlying75) D.b w5 (intVal .and .u64 k s8) true) (ti))) (by kernel_rfl)
set_option maxRecDepth 100000 in
theorem joint_narrow_m3_end (rd : Option Nat) (us : List Value) (clk : Nat) (es : List (Nat × Int × Bool)) (s8 : Int) (s12 : List TValue) (s13 : Int) (s14 : Int) (w0 : List (Int × Bool)) (w3 : Tjoint_place) (w5 : List (Int × Bool)) (sn : List Nat) : ACNa Try.prog rd (fbody Try.prog 40) [0, 1, 1, 1, 0, 0, 1, 1, 0, 0, 1, 0, 1, 1] ((joint_narrow_m3_I clk es us s8 s12 s13 s14 w0 w3 w5 sn).put (some 23) (.tup [bo false])) fun zx zs => zx = (joint_narrow_m3_O clk es us s8 s12 s13 s14 w0 w3 (joint_narrow_m3_c s8 s12 s13 s14 w0 w3 w5)).1 ∧ Wk zs (joint_narrow_m3_O clk es us s8 s12 s13 s14 w0 w3 (joint_narrow_m3_c s8 s12 s13 s14 w0 w3 w5)).2 := by
  refine ACNa.wk (e := .exit 2) (s1 := joint_narrow_m3_Q clk es us s8 s12 s13 s14 w0 w3 w5) (runN_acn mixed [] [] [.live [0, 3, 5, 12, 13, 14], .keep [0, 3, 5, 997]] (ti) (by kernel_rfl)) ?_
  exact (Wk.canS 5 (by kernel_rfl) rfl)
set_option maxRecDepth 100000 in
theorem joint_narrow_m3_ok (rd : Option Nat) (us : List Value) (clk : Nat) (es : List (Nat × Int × Bool)) (s8 : Int) (s12 : List TValue) (s13 : Int) (s14 : Int) (w0 : List (Int × Bool)) (w3 : Tjoint_place) (w5 : List (Int × Bool)) (hp : (es.map (·.2)).Perm w0) (o : (List (Int × Bool))) (h : joint_narrow_m3 s8 s12 s13 s14 w0 w3 w5 = some o) : LpOf Try.prog rd (fbody Try.prog 40) [0, 1, 1, 1, 0, 0, 1, 1, 0, 0, 1, 0, 1, 1] (joint_narrow_m3_I clk es us s8 s12 s13 s14 w0 w3 w5 []) ((joint_narrow_m3_O clk es us s8 s12 s13 s14 w0 w3) o).1 ((joint_narrow_m3_O clk es us s8 s12 s13 s14 w0 w3) o).2 :=
  mapLoop (fk := (D.i .u64)) (fv := D.b) (step := (fun (x : Int × Bool) (s : (List (Int × Bool))) => joint_narrow_m3_s s8 s12 s13 s14 w0 w3 x.1 x.2 s)) (s0 := w5) 22 23 22 0 clk es (fun (sn : List Nat) (s : (List (Int × Bool))) => joint_narrow_m3_I clk es us s8 s12 s13 s14 w0 w3 s sn) (joint_narrow_m3_O clk es us s8 s12 s13 s14 w0 w3) (by kernel_rfl) (isN_ne (by rfl)) (fun _ _ => by kernel_rfl) (fun _ _ => by kernel_rfl) (fun _ _ => by kernel_rfl) hp
    (fun sn s k v st a hm h => joint_narrow_m3_rnd rd us clk es s8 s12 s13 s14 w0 w3 k v s sn st hm a h) (fun sn s hc => hc ▸ joint_narrow_m3_end rd us clk es s8 s12 s13 s14 w0 w3 s sn) h
def joint_narrow_b2_I (us : List Value) (s8 : Int) (s12 : List TValue) (s13 : Int) (s14 : Int) (w0 : List (Int × Bool)) (w3 : Tjoint_place) (w5 : List (Int × Bool)) : St := ⟨sp 33 0 [(0, .row 0), (3, .box 3 0), (5, .row 5), (8, .d ((D.i .u64) s8)), (12, .d ((D.l TValue.D) s12)), (13, .d ((D.i .i64) s13)), (14, .d ((D.i .i64) s14))], [(0, .mapS (ms (D.i .u64) D.b w0)), (3, .cells ((cellsA (Tjoint_place.D w3)))), (5, .mapS (ms (D.i .u64) D.b w5)), (997, .vals [] us)], []⟩
def joint_narrow_b2_O (us : List Value) (s8 : Int) (s12 : List TValue) (s13 : Int) (s14 : Int) (w0 : List (Int × Bool)) (w3 : Tjoint_place) (w5 : List (Int × Bool)) (o : (List (Int × Bool))) : Ex × St := (.normal, ⟨sp 33 0 [(0, .row 0), (3, .box 3 0), (5, .row 5), (12, .d ((D.l TValue.D) s12)), (13, .d ((D.i .i64) s13)), (14, .d ((D.i .i64) s14))], [(0, .mapS (ms (D.i .u64) D.b w0)), (3, .cells ((cellsA (Tjoint_place.D w3)))), (5, .mapS (ms (D.i .u64) D.b o)), (997, .vals [] us)], []⟩)
theorem joint_narrow_b2_ok (rd : Option Nat) (us : List Value) (s8 : Int) (s12 : List TValue) (s13 : Int) (s14 : Int) (w0 : List (Int × Bool)) (w3 : Tjoint_place) (w5 : List (Int × Bool)) (o : (List (Int × Bool))) (h : joint_narrow_b2 s8 s12 s13 s14 w0 w3 w5 = some o) : LpOf Try.prog rd (fbody Try.prog 40) [1, 1, 0, 0, 1, 1, 0, 0, 1, 0, 1, 1] (joint_narrow_b2_I us s8 s12 s13 s14 w0 w3 w5) (joint_narrow_b2_O us s8 s12 s13 s14 w0 w3 w5 o).1 (joint_narrow_b2_O us s8 s12 s13 s14 w0 w3 w5 o).2 := by
  unfold joint_narrow_b2 at h
  obtain ⟨o4, h5, h⟩ := bS h
  obtain rfl := si h
  exact Arr.lp (Arr.exact (fk := (D.i .u64)) (fv := D.b) (S := w0) 0 (by kernel_rfl) fun clk es hp => Arr.setm (fk := (D.i .u64)) (fv := D.b) (S := w0) (clk := clk) (es := es) 0 hp (by kernel_rfl) (by kernel_rfl) (runB_arr mixed [] [⟨[0, 1, 1, 1, 0, 0, 1, 1, 0, 0, 1, 0, 1, 1], [.live [0, 3, 5, 8, 12, 13, 14, 22], .keep [0, 3, 5, 22, 997]], .exit 2, (joint_narrow_m3_O clk es us s8 s12 s13 s14 w0 w3 o4).2⟩] [.live [0, 3, 5, 12, 13, 14], .keep [0, 3, 5, 997]] (ai (joint_narrow_m3_ok rd us clk es s8 s12 s13 s14 w0 w3 w5 hp o4 h5) (ti)) (by kernel_rfl)))
def joint_narrow_l1_I (us : List Value) (s12 : List TValue) (s13 : Int) (w0 : List (Int × Bool)) (w3 : Tjoint_place) (s14 : Int) (w5 : List (Int × Bool)) : St := ⟨sp 33 0 [(0, .row 0), (3, .box 3 0), (5, .row 5), (12, .d ((D.l TValue.D) s12)), (13, .d ((D.i .i64) s13)), (14, .d ((D.i .i64) s14))], [(0, .mapS (ms (D.i .u64) D.b w0)), (3, .cells ((cellsA (Tjoint_place.D w3)))), (5, .mapS (ms (D.i .u64) D.b w5)), (997, .vals [] us)], []⟩
def joint_narrow_l1_O (us : List Value) (s12 : List TValue) (s13 : Int) (w0 : List (Int × Bool)) (w3 : Tjoint_place) (o : (List (Int × Bool))) : Ex × St := (.exit 0, ⟨sp 33 0 [(5, .row 5)], [(5, .mapS (ms (D.i .u64) D.b o)), (997, .vals [] us)], []⟩)
theorem joint_narrow_l1_rnd (rd : Option Nat) (us : List Value) (s12 : List TValue) (s13 : Int) (w0 : List (Int × Bool)) (w3 : Tjoint_place) (s14 : Int) (w5 : List (Int × Bool)) (o : (Int × (List (Int × Bool))) ⊕ ((List (Int × Bool)))) (h : joint_narrow_l1_s s12 s13 w0 w3 s14 w5 = some o) : Arr Try.prog rd (fbody Try.prog 40) (0 :: [0, 1, 0, 1, 1]) (joint_narrow_l1_I us s12 s13 w0 w3 s14 w5) (rR (fun s : Int × (List (Int × Bool)) => joint_narrow_l1_I us s12 s13 w0 w3 s.1 s.2) (joint_narrow_l1_O us s12 s13 w0 w3) o).1 (rR (fun s : Int × (List (Int × Bool)) => joint_narrow_l1_I us s12 s13 w0 w3 s.1 s.2) (joint_narrow_l1_O us s12 s13 w0 w3) o).2 := by
  unfold joint_narrow_l1_s at h
  rcases iS h with ⟨h2, h⟩ | ⟨h2, h⟩
  ·
   obtain ⟨x2, h3, h⟩ := xS h
   obtain ⟨r3, h4, h⟩ := bS h
   obtain ⟨o5, h6, h⟩ := bS h
   obtain rfl := si h
   exact runB_arr mixed [(15, .bit true), (16, .el (TValue.D x2)), (20, .ret (.d ((D.i .u64) r3)))] [⟨[1, 1, 0, 0, 1, 1, 0, 0, 1, 0, 1, 1], [.live [0, 3, 5, 8, 12, 13, 14], .keep [0, 3, 5, 997]], .normal, (joint_narrow_b2_O us r3 s12 s13 s14 w0 w3 w5 o5).2⟩] [.live [0, 3, 5, 12, 13, 14], .keep [0, 3, 5, 997]] (ai h2 (ai (elem_map TValue.D h3) (ai (joint_place_with_ok w3 x2 r3 h4) (ai (joint_narrow_b2_ok rd us r3 s12 s13 s14 w0 w3 w5 o5 h6) (ti))))) (by kernel_rfl)
  ·
   obtain rfl := si h
   exact runB_arr mixed [(15, .bit false)] [] [.live [5], .keep [5, 997]] (ai h2 (ti)) (by kernel_rfl)
theorem joint_narrow_l1_ok (rd : Option Nat) (us : List Value) (s12 : List TValue) (s13 : Int) (w0 : List (Int × Bool)) (w3 : Tjoint_place) (s14 : Int) (w5 : List (Int × Bool)) (t : (List (Int × Bool))) (h : joint_narrow_l1 s12 s13 w0 w3 s14 w5 = some t) : LpOf Try.prog rd (fbody Try.prog 40) [0, 1, 0, 1, 1] (joint_narrow_l1_I us s12 s13 w0 w3 s14 w5) ((joint_narrow_l1_O us s12 s13 w0 w3) t).1 ((joint_narrow_l1_O us s12 s13 w0 w3) t).2 :=
  loopE_lpR (fun s : Int × (List (Int × Bool)) => joint_narrow_l1_I us s12 s13 w0 w3 s.1 s.2) (joint_narrow_l1_O us s12 s13 w0 w3) (by kernel_rfl) (fun t => isN_ne (by rfl)) (fun s o h => joint_narrow_l1_rnd rd us s12 s13 w0 w3 s.1 s.2 o h) (s := (s14, w5)) (t := t) h
theorem joint_narrow_ok (a1 : Tjoint_place) (w0 : List (Int × Bool)) (r : (List (Int × Bool))) (h : joint_narrow a1 w0 = some r) : ACall Try.prog 40 [.row 0, .d (Tjoint_place.D a1)] [(0, .mapS (ms (D.i .u64) D.b w0))] (.row 1) [(1, .mapS (ms (D.i .u64) D.b r))] := by
  unfold joint_narrow at h
  obtain ⟨r1, h1, h⟩ := bS h
  obtain ⟨o6, h7, h⟩ := bS h
  obtain rfl := si h
  exact runX_call mixed (fun us => [(10, .frz), (12, .ret (.d ((D.l TValue.D) r1))), (13, .int (r1.length : Int))]) (fun us => [⟨[0, 1, 0, 1, 1], [.live [0, 3, 5, 12, 13, 14], .keep [0, 3, 10, 997], .ren 10 5, .sort], .exit 0, (joint_narrow_l1_O us r1 (r1.length : Int) w0 a1 o6).2⟩]) [.live [4], .keep [5, 997], .ren 5 1, .sort] [] (fun us => ai (joint_place_values_ok a1 ([] : List TValue) r1 h1) (ai (len_map TValue.D r1) (ai (joint_narrow_l1_ok none us r1 (r1.length : Int) w0 a1 0 ([] : List (Int × Bool)) o6 h7) (ti)))) (by kernel_rfl)
def math_bits_Len64_b1_I (s0 : Int) (s2 : Int) (s4 : Bool) : St := ⟨sp 25 0 [(0, .d ((D.i .u64) s0)), (2, .d ((D.i .i64) s2)), (4, .d (D.b s4))], [], []⟩
def math_bits_Len64_b1_O (s0 : Int) (s2 : Int) (s4 : Bool) (o : (Int × Int)) : Ex × St := (.normal, ⟨sp 25 0 [(0, .d ((D.i .u64) o.1)), (2, .d ((D.i .i64) o.2))], [], []⟩)
theorem math_bits_Len64_b1_ok (rd : Option Nat) (s0 : Int) (s2 : Int) (s4 : Bool) (o : (Int × Int)) (h : math_bits_Len64_b1 s0 s2 s4 = some o) : LpOf Try.prog rd (fbody Try.prog 74) [1, 0, 1] (math_bits_Len64_b1_I s0 s2 s4) (math_bits_Len64_b1_O s0 s2 s4 o).1 (math_bits_Len64_b1_O s0 s2 s4 o).2 := by
  unfold math_bits_Len64_b1 at h
  cases s4 with
  | true =>
   replace h := iteT h
   obtain rfl := si h
   exact (runB_arr mixed [] [] [.live [0, 2], .keep []] (ai (of_decide_eq_true rfl : (0 : Int) ≤ 32) (ti)) (by kernel_rfl)).lp
  | false =>
   replace h := iteF h
   obtain rfl := si h
   exact (runB_arr mixed [] [] [.live [0, 2], .keep []] (ti) (by kernel_rfl)).lp
def math_bits_Len64_b2_I (s0 : Int) (s2 : Int) (s8 : Bool) : St := ⟨sp 25 0 [(0, .d ((D.i .u64) s0)), (2, .d ((D.i .i64) s2)), (8, .d (D.b s8))], [], []⟩
def math_bits_Len64_b2_O (s0 : Int) (s2 : Int) (s8 : Bool) (o : (Int × Int)) : Ex × St := (.normal, ⟨sp 25 0 [(0, .d ((D.i .u64) o.1)), (2, .d ((D.i .i64) o.2))], [], []⟩)
theorem math_bits_Len64_b2_ok (rd : Option Nat) (s0 : Int) (s2 : Int) (s8 : Bool) (o : (Int × Int)) (h : math_bits_Len64_b2 s0 s2 s8 = some o) : LpOf Try.prog rd (fbody Try.prog 74) [1, 0, 1, 1] (math_bits_Len64_b2_I s0 s2 s8) (math_bits_Len64_b2_O s0 s2 s8 o).1 (math_bits_Len64_b2_O s0 s2 s8 o).2 := by
  unfold math_bits_Len64_b2 at h
  cases s8 with
  | true =>
   replace h := iteT h
   obtain rfl := si h
   exact (runB_arr mixed [] [] [.live [0, 2], .keep []] (ai (of_decide_eq_true rfl : (0 : Int) ≤ 16) (ti)) (by kernel_rfl)).lp
  | false =>
   replace h := iteF h
   obtain rfl := si h
   exact (runB_arr mixed [] [] [.live [0, 2], .keep []] (ti) (by kernel_rfl)).lp
def math_bits_Len64_b3_I (s0 : Int) (s2 : Int) (s14 : Bool) : St := ⟨sp 25 0 [(0, .d ((D.i .u64) s0)), (2, .d ((D.i .i64) s2)), (14, .d (D.b s14))], [], []⟩
def math_bits_Len64_b3_O (s0 : Int) (s2 : Int) (s14 : Bool) (o : (Int × Int)) : Ex × St := (.normal, ⟨sp 25 0 [(0, .d ((D.i .u64) o.1)), (2, .d ((D.i .i64) o.2))], [], []⟩)
theorem math_bits_Len64_b3_ok (rd : Option Nat) (s0 : Int) (s2 : Int) (s14 : Bool) (o : (Int × Int)) (h : math_bits_Len64_b3 s0 s2 s14 = some o) : LpOf Try.prog rd (fbody Try.prog 74) [1, 0, 1, 1, 1] (math_bits_Len64_b3_I s0 s2 s14) (math_bits_Len64_b3_O s0 s2 s14 o).1 (math_bits_Len64_b3_O s0 s2 s14 o).2 := by
  unfold math_bits_Len64_b3 at h
  cases s14 with
  | true =>
   replace h := iteT h
   obtain rfl := si h
   exact (runB_arr mixed [] [] [.live [0, 2], .keep []] (ai (of_decide_eq_true rfl : (0 : Int) ≤ 8) (ti)) (by kernel_rfl)).lp
  | false =>
   replace h := iteF h
   obtain rfl := si h
   exact (runB_arr mixed [] [] [.live [0, 2], .keep []] (ti) (by kernel_rfl)).lp
theorem math_bits_Len64_ok (a0 : Int) (r : Int) (h : math_bits_Len64 a0 = some r) : ACall Try.prog 74 [.d ((D.i .u64) a0)] [] (.d ((D.i .i64) r)) [] := by
  unfold math_bits_Len64 at h
  obtain ⟨o1, h2, h⟩ := bS h
  obtain ⟨o2, h4, h⟩ := bS h
  obtain ⟨o3, h6, h⟩ := bS h
  obtain ⟨x4, h7, h⟩ := xS h
  obtain rfl := si h
  exact runF_call mixed [(21, .int (u8w o3.1).toNat), (22, .int x4.toNat), (23, .int x4.toNat)] [⟨[1, 0, 1], [.live [0, 2, 4], .keep []], .normal, (math_bits_Len64_b1_O a0 0 (decide (4294967296 ≤ a0)) o1).2⟩, ⟨[1, 0, 1, 1], [.live [0, 2, 8], .keep []], .normal, (math_bits_Len64_b2_O o1.1 o1.2 (decide (65536 ≤ o1.1)) o2).2⟩, ⟨[1, 0, 1, 1, 1], [.live [0, 2, 14], .keep []], .normal, (math_bits_Len64_b3_O o2.1 o2.2 (decide (256 ≤ o2.1)) o3).2⟩] [] (ai (math_bits_Len64_b1_ok none a0 0 (decide (4294967296 ≤ a0)) o1 h2) (ai (math_bits_Len64_b2_ok none o1.1 o1.2 (decide (65536 ≤ o1.1)) o2 h4) (ai (math_bits_Len64_b3_ok none o2.1 o2.2 (decide (256 ≤ o2.1)) o3 h6) (ai (u8w_ok o3.1) (ai (byte_ok h7) (ai (wrap_u8_i64 x4) (ti))))))) (by kernel_rfl)
theorem math_bits_Len_ok (a0 : Int) (r : Int) (h : math_bits_Len a0 = some r) : ACall Try.prog 57 [.d ((D.i .u64) a0)] [] (.d ((D.i .i64) r)) [] := by
  unfold math_bits_Len at h
  obtain ⟨r1, h1, h⟩ := bS h
  obtain rfl := si h
  exact runF_call mixed [(7, .ret (.d ((D.i .i64) r1)))] [] [] (ai (math_bits_Len64_ok a0 r1 h1) (ti)) (by kernel_rfl)
theorem cmp_isNaN_uint64_ok (a0 : Int) (r : Bool) (h : cmp_isNaN_uint64 a0 = some r) : ACall Try.prog 84 [.d ((D.i .u64) a0)] [] (.d (D.b r)) [] := by
  unfold cmp_isNaN_uint64 at h
  obtain rfl := si h
  exact runF_call mixed [] [] [] (ti) (by kernel_rfl)
theorem cmp_Less_uint64_ok (a0 : Int) (a1 : Int) (r : Bool) (h : cmp_Less_uint64 a0 a1 = some r) : ACall Try.prog 70 [.d ((D.i .u64) a0), .d ((D.i .u64) a1)] [] (.d (D.b r)) [] := by
  unfold cmp_Less_uint64 at h
  obtain ⟨r1, h1, h⟩ := bS h
  cases r1 with
  | true =>
   replace h := iteT h
   obtain ⟨r2, h3, h⟩ := bS h
   rcases iS h with ⟨h4, h⟩ | ⟨h4, h⟩
   ·
    obtain rfl := si h
    exact runF_call mixed [(6, .ret (.d (D.b true))), (9, .ret (.d (D.b r2))), (12, .bit true)] [] [] (ai (cmp_isNaN_uint64_ok a0 true h1) (ai (cmp_isNaN_uint64_ok a1 r2 h3) (ai h4 (ti)))) (by kernel_rfl)
   ·
    obtain rfl := si h
    exact runF_call mixed [(6, .ret (.d (D.b true))), (9, .ret (.d (D.b r2))), (12, .bit false)] [] [] (ai (cmp_isNaN_uint64_ok a0 true h1) (ai (cmp_isNaN_uint64_ok a1 r2 h3) (ai h4 (ti)))) (by kernel_rfl)
  | false =>
   replace h := iteF h
   obtain rfl := si h
   exact runF_call mixed [(6, .ret (.d (D.b false)))] [] [] (ai (cmp_isNaN_uint64_ok a0 false h1) (ti)) (by kernel_rfl)
def slices_insertionSortOrdered_uint64_l2_I (us : List Value) (s1 : Int) (s2 : Int) (s6 : Int) (s7 : Int) (w0 : List Int) : St := ⟨sp 49 0 [(0, .row 0), (1, .d ((D.i .i64) s1)), (2, .d ((D.i .i64) s2)), (6, .d ((D.i .i64) s6)), (7, .d ((D.i .i64) s7))], [(0, .rw 75 1 (w0.map (D.i .u64))), (997, .vals [.row 0] us)], []⟩
def slices_insertionSortOrdered_uint64_l2_O (us : List Value) (s1 : Int) (s2 : Int) (s6 : Int) (o : (List Int)) : Ex × St := (.exit 2, ⟨sp 49 0 [(0, .row 0), (1, .d ((D.i .i64) s1)), (2, .d ((D.i .i64) s2)), (6, .d ((D.i .i64) s6))], [(0, .rw 75 1 (o.map (D.i .u64))), (997, .vals [.row 0] us)], []⟩)
theorem slices_insertionSortOrdered_uint64_l2_rnd (rd : Option Nat) (us : List Value) (s1 : Int) (s2 : Int) (s6 : Int) (s7 : Int) (w0 : List Int) (o : (Int × List Int) ⊕ ((List Int))) (h : slices_insertionSortOrdered_uint64_l2_s s1 s2 s6 s7 w0 = some o) : Arr Try.prog rd (fbody Try.prog 64) (0 :: [0, 1, 0, 0, 1, 0, 0, 1]) (slices_insertionSortOrdered_uint64_l2_I us s1 s2 s6 s7 w0) (rR (fun s : Int × List Int => slices_insertionSortOrdered_uint64_l2_I us s1 s2 s6 s.1 s.2) (slices_insertionSortOrdered_uint64_l2_O us s1 s2 s6) o).1 (rR (fun s : Int × List Int => slices_insertionSortOrdered_uint64_l2_I us s1 s2 s6 s.1 s.2) (slices_insertionSortOrdered_uint64_l2_O us s1 s2 s6) o).2 := by
  unfold slices_insertionSortOrdered_uint64_l2_s at h
  rcases iS h with ⟨h2, h⟩ | ⟨h2, h⟩
  ·
   obtain ⟨h3, h⟩ := cS h
   obtain ⟨x1, h4, h⟩ := xS h
   obtain ⟨h5, h⟩ := cS h
   obtain ⟨x2, h6, h⟩ := xS h
   obtain ⟨r3, h7, h⟩ := bS h
   cases r3 with
   | true =>
    replace h := iteT h
    obtain ⟨h9, h⟩ := cS h
    obtain ⟨x4, h10, h⟩ := xS h
    obtain ⟨h11, h⟩ := cS h
    obtain ⟨x5, h12, h⟩ := xS h
    obtain ⟨h13, h⟩ := cS h
    obtain ⟨h14, h⟩ := cS h
    obtain ⟨h15, h⟩ := cS h
    obtain ⟨h16, h⟩ := cS h
    obtain rfl := si h
    exact runB_arr mixed [(19, .bit true), (23, .el ((D.i .u64) x1)), (28, .el ((D.i .u64) x2)), (29, .ret (.d (D.b true))), (42, .el ((D.i .u64) x4)), (46, .el ((D.i .u64) x5)), (10047, .sl ((w0.set s7.toNat x4).map (D.i .u64))), (10048, .sl (((w0.set s7.toNat x4).set (intVal .sub .i64 s7 1).toNat x5).map (D.i .u64)))] [] [.live [0, 1, 2, 6, 7], .keep [0, 997]] (ai h2 (ai h3.1 (ai (le_map (D.i .u64) h3.2) (ai (elem_ep (D.i .u64) h4) (ai h5.1 (ai (le_map (D.i .u64) h5.2) (ai (elem_ep (D.i .u64) h6) (ai (cmp_Less_uint64_ok x1 x2 true h7) (ai h9.1 (ai (le_map (D.i .u64) h9.2) (ai (elem_ep (D.i .u64) h10) (ai h11.1 (ai (le_map (D.i .u64) h11.2) (ai (elem_ep (D.i .u64) h12) (ai h13.1 (ai (le_map (D.i .u64) h13.2) (ai (le_ep (D.i .u64) h14) (ai (upd_map (D.i .u64) w0 s7 x4) (ai h15.1 (ai (le_map (D.i .u64) h15.2) (ai (le_ep (D.i .u64) h16) (ai (upd_map (D.i .u64) (w0.set s7.toNat x4) (intVal .sub .i64 s7 1) x5) (ti))))))))))))))))))))))) (by kernel_rfl)
   | false =>
    replace h := iteF h
    obtain rfl := si h
    exact runB_arr mixed [(19, .bit true), (23, .el ((D.i .u64) x1)), (28, .el ((D.i .u64) x2)), (29, .ret (.d (D.b false)))] [] [.live [0, 1, 2, 6], .keep [0, 997]] (ai h2 (ai h3.1 (ai (le_map (D.i .u64) h3.2) (ai (elem_ep (D.i .u64) h4) (ai h5.1 (ai (le_map (D.i .u64) h5.2) (ai (elem_ep (D.i .u64) h6) (ai (cmp_Less_uint64_ok x1 x2 false h7) (ti))))))))) (by kernel_rfl)
  ·
   obtain rfl := si h
   exact runB_arr mixed [(19, .bit false)] [] [.live [0, 1, 2, 6], .keep [0, 997]] (ai h2 (ti)) (by kernel_rfl)
theorem slices_insertionSortOrdered_uint64_l2_ok (rd : Option Nat) (us : List Value) (s1 : Int) (s2 : Int) (s6 : Int) (s7 : Int) (w0 : List Int) (t : (List Int)) (h : slices_insertionSortOrdered_uint64_l2 s1 s2 s6 s7 w0 = some t) : LpOf Try.prog rd (fbody Try.prog 64) [0, 1, 0, 0, 1, 0, 0, 1] (slices_insertionSortOrdered_uint64_l2_I us s1 s2 s6 s7 w0) ((slices_insertionSortOrdered_uint64_l2_O us s1 s2 s6) t).1 ((slices_insertionSortOrdered_uint64_l2_O us s1 s2 s6) t).2 :=
  loopE_lpR (fun s : Int × List Int => slices_insertionSortOrdered_uint64_l2_I us s1 s2 s6 s.1 s.2) (slices_insertionSortOrdered_uint64_l2_O us s1 s2 s6) (by kernel_rfl) (fun t => isN_ne (by rfl)) (fun s o h => slices_insertionSortOrdered_uint64_l2_rnd rd us s1 s2 s6 s.1 s.2 o h) (s := (s7, w0)) (t := t) h
def slices_insertionSortOrdered_uint64_l1_I (us : List Value) (s1 : Int) (s2 : Int) (s6 : Int) (w0 : List Int) : St := ⟨sp 49 0 [(0, .row 0), (1, .d ((D.i .i64) s1)), (2, .d ((D.i .i64) s2)), (6, .d ((D.i .i64) s6))], [(0, .rw 75 1 (w0.map (D.i .u64))), (997, .vals [.row 0] us)], []⟩
def slices_insertionSortOrdered_uint64_l1_O (us : List Value) (s1 : Int) (s2 : Int) (o : (List Int)) : Ex × St := (.exit 0, ⟨sp 49 0 [], [(0, .rw 75 1 (o.map (D.i .u64))), (997, .vals [.row 0] us)], []⟩)
theorem slices_insertionSortOrdered_uint64_l1_rnd (rd : Option Nat) (us : List Value) (s1 : Int) (s2 : Int) (s6 : Int) (w0 : List Int) (o : (Int × List Int) ⊕ ((List Int))) (h : slices_insertionSortOrdered_uint64_l1_s s1 s2 s6 w0 = some o) : Arr Try.prog rd (fbody Try.prog 64) (0 :: [0, 1]) (slices_insertionSortOrdered_uint64_l1_I us s1 s2 s6 w0) (rR (fun s : Int × List Int => slices_insertionSortOrdered_uint64_l1_I us s1 s2 s.1 s.2) (slices_insertionSortOrdered_uint64_l1_O us s1 s2) o).1 (rR (fun s : Int × List Int => slices_insertionSortOrdered_uint64_l1_I us s1 s2 s.1 s.2) (slices_insertionSortOrdered_uint64_l1_O us s1 s2) o).2 := by
  unfold slices_insertionSortOrdered_uint64_l1_s at h
  rcases iS h with ⟨h1, h⟩ | ⟨h1, h⟩
  ·
   obtain ⟨o6, h17, h⟩ := bS h
   obtain rfl := si h
   exact runB_arr mixed [(12, .bit true)] [⟨[0, 1, 0, 0, 1, 0, 0, 1], [.live [0, 1, 2, 6, 7], .keep [0, 997]], .exit 2, (slices_insertionSortOrdered_uint64_l2_O us s1 s2 s6 o6).2⟩] [.live [0, 1, 2, 6], .keep [0, 997]] (ai h1 (ai (slices_insertionSortOrdered_uint64_l2_ok rd us s1 s2 s6 s6 w0 o6 h17) (ti))) (by kernel_rfl)
  ·
   obtain rfl := si h
   exact runB_arr mixed [(12, .bit false)] [] [.live [], .keep [0, 997]] (ai h1 (ti)) (by kernel_rfl)
theorem slices_insertionSortOrdered_uint64_l1_ok (rd : Option Nat) (us : List Value) (s1 : Int) (s2 : Int) (s6 : Int) (w0 : List Int) (t : (List Int)) (h : slices_insertionSortOrdered_uint64_l1 s1 s2 s6 w0 = some t) : LpOf Try.prog rd (fbody Try.prog 64) [0, 1] (slices_insertionSortOrdered_uint64_l1_I us s1 s2 s6 w0) ((slices_insertionSortOrdered_uint64_l1_O us s1 s2) t).1 ((slices_insertionSortOrdered_uint64_l1_O us s1 s2) t).2 :=
  loopE_lpR (fun s : Int × List Int => slices_insertionSortOrdered_uint64_l1_I us s1 s2 s.1 s.2) (slices_insertionSortOrdered_uint64_l1_O us s1 s2) (by kernel_rfl) (fun t => isN_ne (by rfl)) (fun s o h => slices_insertionSortOrdered_uint64_l1_rnd rd us s1 s2 s.1 s.2 o h) (s := (s6, w0)) (t := t) h
theorem slices_insertionSortOrdered_uint64_ok (a1 : Int) (a2 : Int) (w0 : List Int) (r : List Int) (h : slices_insertionSortOrdered_uint64 a1 a2 w0 = some r) : ACall Try.prog 64 [.row 0, .d ((D.i .i64) a1), .d ((D.i .i64) a2)] [(0, .rw 75 1 (w0.map (D.i .u64)))] (.tup []) [(0, .rw 75 1 (r.map (D.i .u64)))] := by
  unfold slices_insertionSortOrdered_uint64 at h
  obtain ⟨o7, h18, h⟩ := bS h
  obtain rfl := si h
  exact runX_call mixed (fun us => []) (fun us => [⟨[0, 1], [.live [0, 1, 2, 6], .keep [0, 997]], .exit 0, (slices_insertionSortOrdered_uint64_l1_O us a1 a2 o7).2⟩]) [.live [], .keep [0, 997]] [0] (fun us => ai (slices_insertionSortOrdered_uint64_l1_ok none us a1 a2 (intVal .add .i64 a1 1) w0 o7 h18) (ti)) (by kernel_rfl)
def slices_pdqsortOrdered_uint64_b3_I (us : List Value) (s1 : Int) (s2 : Int) (s3 : Int) (s8 : Bool) (s9 : Bool) (s10 : Int) (s35 : Bool) (w0 : List Int) : St := ⟨sp 134 0 [(0, .row 0), (1, .d ((D.i .i64) s1)), (2, .d ((D.i .i64) s2)), (3, .d ((D.i .i64) s3)), (8, .d (D.b s8)), (9, .d (D.b s9)), (10, .d ((D.i .i64) s10)), (35, .d (D.b s35))], [(0, .rw 75 1 (w0.map (D.i .u64))), (997, .vals [.row 0] us)], []⟩
def slices_pdqsortOrdered_uint64_b3_O (us : List Value) (s1 : Int) (s2 : Int) (s3 : Int) (s8 : Bool) (s9 : Bool) (s10 : Int) (s35 : Bool) (w0 : List Int) (o : Unit) : Ex × St := (.normal, ⟨sp 134 0 [(0, .row 0), (1, .d ((D.i .i64) s1)), (2, .d ((D.i .i64) s2)), (3, .d ((D.i .i64) s3)), (8, .d (D.b s8)), (9, .d (D.b s9)), (10, .d ((D.i .i64) s10))], [(0, .rw 75 1 (w0.map (D.i .u64))), (997, .vals [.row 0] us)], []⟩)
theorem slices_pdqsortOrdered_uint64_b3_ok (rd : Option Nat) (us : List Value) (s1 : Int) (s2 : Int) (s3 : Int) (s8 : Bool) (s9 : Bool) (s10 : Int) (s35 : Bool) (w0 : List Int) (o : Unit) (h : slices_pdqsortOrdered_uint64_b3 s1 s2 s3 s8 s9 s10 s35 w0 = some o) : LpOf Try.prog rd (fbody Try.prog 56) [1, 0, 1, 1, 1, 0, 0, 0, 1, 1] (slices_pdqsortOrdered_uint64_b3_I us s1 s2 s3 s8 s9 s10 s35 w0) (slices_pdqsortOrdered_uint64_b3_O us s1 s2 s3 s8 s9 s10 s35 w0 o).1 (slices_pdqsortOrdered_uint64_b3_O us s1 s2 s3 s8 s9 s10 s35 w0 o).2 := by
  unfold slices_pdqsortOrdered_uint64_b3 at h
  cases s35 with
  | true =>
   replace h := iteT h
   cases h
  | false =>
   replace h := iteF h
   obtain rfl := si h
   exact (runB_arr mixed [] [] [.live [0, 1, 2, 3, 8, 9, 10], .keep [0, 997]] (ti) (by kernel_rfl)).lp
def slices_pdqsortOrdered_uint64_b2_I (us : List Value) (s1 : Int) (s2 : Int) (s3 : Int) (s8 : Bool) (s9 : Bool) (w0 : List Int) : St := ⟨sp 134 0 [(0, .row 0), (1, .d ((D.i .i64) s1)), (2, .d ((D.i .i64) s2)), (3, .d ((D.i .i64) s3)), (8, .d (D.b s8)), (9, .d (D.b s9))], [(0, .rw 75 1 (w0.map (D.i .u64))), (997, .vals [.row 0] us)], []⟩
def slices_pdqsortOrdered_uint64_b2_O (us : List Value) (s1 : Int) (s2 : Int) (s3 : Int) (s8 : Bool) (s9 : Bool) (w0 : List Int) (o : (List Int)) : Ex × St := (.ret, ⟨sp 134 0 [], [(0, .rw 75 1 (o.map (D.i .u64))), (997, .vals [.row 0] us)], []⟩)
theorem slices_pdqsortOrdered_uint64_b2_ok (rd : Option Nat) (us : List Value) (s1 : Int) (s2 : Int) (s3 : Int) (s8 : Bool) (s9 : Bool) (w0 : List Int) (o : (List Int)) (h : slices_pdqsortOrdered_uint64_b2 s1 s2 s3 s8 s9 w0 = some o) : LpOf Try.prog rd (fbody Try.prog 56) [0, 0, 1, 1] (slices_pdqsortOrdered_uint64_b2_I us s1 s2 s3 s8 s9 w0) (slices_pdqsortOrdered_uint64_b2_O us s1 s2 s3 s8 s9 w0 o).1 (slices_pdqsortOrdered_uint64_b2_O us s1 s2 s3 s8 s9 w0 o).2 := by
  unfold slices_pdqsortOrdered_uint64_b2 at h
  rcases iS h with ⟨h1, h⟩ | ⟨h1, h⟩
  ·
   obtain ⟨r1, h2, h⟩ := bS h
   obtain rfl := si h
   exact (runB_arr mixed [(23, .bit true), (27, .cx false [(0, 0)] [] (.tup []) [(0, .rw 75 1 (r1.map (D.i .u64)))])] [] [.live [], .keep [0, 997]] (ai h1 (ai (slices_insertionSortOrdered_uint64_ok s1 s2 w0 r1 h2) (ti))) (by kernel_rfl)).lp
  ·
   rcases iS h with ⟨h3, h⟩ | ⟨h3, h⟩
   ·
    cases h
   ·
    obtain ⟨o2, h5, h⟩ := bS h
    cases h
def slices_pdqsortOrdered_uint64_l1_I (us : List Value) (s1 : Int) (s2 : Int) (s3 : Int) (s8 : Bool) (s9 : Bool) (w0 : List Int) : St := ⟨sp 134 0 [(0, .row 0), (1, .d ((D.i .i64) s1)), (2, .d ((D.i .i64) s2)), (3, .d ((D.i .i64) s3)), (8, .d (D.b s8)), (9, .d (D.b s9))], [(0, .rw 75 1 (w0.map (D.i .u64))), (997, .vals [.row 0] us)], []⟩
def slices_pdqsortOrdered_uint64_l1_O (us : List Value) (s1 : Int) (s2 : Int) (s3 : Int) (s8 : Bool) (s9 : Bool) (w0 : List Int) (o : (List Int)) : Ex × St := (.ret, ⟨sp 134 0 [], [(0, .rw 75 1 (o.map (D.i .u64))), (997, .vals [.row 0] us)], []⟩)
theorem slices_pdqsortOrdered_uint64_l1_rnd (rd : Option Nat) (us : List Value) (s1 : Int) (s2 : Int) (s3 : Int) (s8 : Bool) (s9 : Bool) (w0 : List Int) (o : (Unit) ⊕ ((List Int))) (h : slices_pdqsortOrdered_uint64_l1_s s1 s2 s3 s8 s9 w0 = some o) : Arr Try.prog rd (fbody Try.prog 56) (0 :: [0, 1, 1]) (slices_pdqsortOrdered_uint64_l1_I us s1 s2 s3 s8 s9 w0) (rR (fun s : Unit => slices_pdqsortOrdered_uint64_l1_I us s1 s2 s3 s8 s9 w0) (slices_pdqsortOrdered_uint64_l1_O us s1 s2 s3 s8 s9 w0) o).1 (rR (fun s : Unit => slices_pdqsortOrdered_uint64_l1_I us s1 s2 s3 s8 s9 w0) (slices_pdqsortOrdered_uint64_l1_O us s1 s2 s3 s8 s9 w0) o).2 := by
  unfold slices_pdqsortOrdered_uint64_l1_s at h
  obtain ⟨o3, h6, h⟩ := bS h
  obtain rfl := si h
  exact runB_arr mixed [] [⟨[0, 0, 1, 1], [.live [0, 1, 2, 3, 8, 9], .keep [0, 997]], .ret, (slices_pdqsortOrdered_uint64_b2_O us s1 s2 s3 s8 s9 w0 o3).2⟩] [.live [], .keep [0, 997]] (ai (slices_pdqsortOrdered_uint64_b2_ok rd us s1 s2 s3 s8 s9 w0 o3 h6) (ti)) (by kernel_rfl)
theorem slices_pdqsortOrdered_uint64_l1_ok (rd : Option Nat) (us : List Value) (s1 : Int) (s2 : Int) (s3 : Int) (s8 : Bool) (s9 : Bool) (w0 : List Int) (t : (List Int)) (h : slices_pdqsortOrdered_uint64_l1 s1 s2 s3 s8 s9 w0 = some t) : LpOf Try.prog rd (fbody Try.prog 56) [0, 1, 1] (slices_pdqsortOrdered_uint64_l1_I us s1 s2 s3 s8 s9 w0) ((slices_pdqsortOrdered_uint64_l1_O us s1 s2 s3 s8 s9 w0) t).1 ((slices_pdqsortOrdered_uint64_l1_O us s1 s2 s3 s8 s9 w0) t).2 :=
  loopE_lpR (fun s : Unit => slices_pdqsortOrdered_uint64_l1_I us s1 s2 s3 s8 s9 w0) (slices_pdqsortOrdered_uint64_l1_O us s1 s2 s3 s8 s9 w0) (by kernel_rfl) (fun t => isN_ne (by rfl)) (fun s o h => slices_pdqsortOrdered_uint64_l1_rnd rd us s1 s2 s3 s8 s9 w0 o h) (s := ()) (t := t) h
theorem slices_pdqsortOrdered_uint64_ok (a1 : Int) (a2 : Int) (a3 : Int) (w0 : List Int) (r : List Int) (h : slices_pdqsortOrdered_uint64 a1 a2 a3 w0 = some r) : ACall Try.prog 56 [.row 0, .d ((D.i .i64) a1), .d ((D.i .i64) a2), .d ((D.i .i64) a3)] [(0, .rw 75 1 (w0.map (D.i .u64)))] (.tup []) [(0, .rw 75 1 (r.map (D.i .u64)))] := by
  unfold slices_pdqsortOrdered_uint64 at h
  obtain ⟨o4, h7, h⟩ := bS h
  obtain rfl := si h
  exact runX_call mixed (fun us => []) (fun us => [⟨[0, 1, 1], [.live [0, 1, 2, 3, 8, 9], .keep [0, 997]], .ret, (slices_pdqsortOrdered_uint64_l1_O us a1 a2 a3 true true w0 o4).2⟩]) [.live [], .keep [0, 997]] [0] (fun us => ai (slices_pdqsortOrdered_uint64_l1_ok none us a1 a2 a3 true true w0 o4 h7) (ti)) (by kernel_rfl)
theorem slices_Sort_uint64_uint64_ok (w0 : List Int) (r : List Int) (h : slices_Sort_uint64_uint64 w0 = some r) : ACall Try.prog 41 [.row 0] [(0, .rw 75 1 (w0.map (D.i .u64)))] (.tup []) [(0, .rw 75 1 (r.map (D.i .u64)))] := by
  unfold slices_Sort_uint64_uint64 at h
  obtain ⟨r1, h1, h⟩ := bS h
  obtain ⟨r2, h2, h⟩ := bS h
  obtain rfl := si h
  exact runX_call mixed (fun us => [(4, .int (w0.length : Int)), (9, .ret (.d ((D.i .i64) r1))), (10, .cx false [(0, 0)] [] (.tup []) [(0, .rw 75 1 (r2.map (D.i .u64)))])]) (fun us => []) [.live [], .keep [0, 997]] [0] (fun us => ai (len_map (D.i .u64) w0) (ai (math_bits_Len_ok (IntKind.wrap .u64 (w0.length : Int)) r1 h1) (ai (slices_pdqsortOrdered_uint64_ok 0 (w0.length : Int) r1 w0 r2 h2) (ti)))) (by kernel_rfl)
theorem slices_Sort_uint64_uint64_v2_ok (xs r : List Int) (h : slices_Sort_uint64_uint64_v2 xs = some r) : ACall Try.prog 41 [.row 0] [(0, .bag 75 1 (xs.map (D.i .u64)))] (.tup []) [(0, .rw 75 1 (r.map (D.i .u64)))] :=
  ACall.bagE (R := fun _ => .tup []) (X' := fun r => [(0, .rw 75 1 (r.map (D.i .u64)))]) (fun ys r h => slices_Sort_uint64_uint64_ok ys r h) r h
def joint_Sets_l2_I (s1 : List TSlot) (s6 : Int) (s15 : Int) (s16 : Int) (s30 : Int) (w2 : TQea) (w5 : List (Int × Bool)) (s31 : Int) (w7 : List (Int × Bool)) : St := ⟨sp 65 0 [(1, .d ((D.l TSlot.D) s1)), (2, .box 2 0), (5, .row 5), (6, .d ((D.i .i64) s6)), (7, .row 7), (15, .d ((D.i .i64) s15)), (16, .d ((D.i .i64) s16)), (30, .d ((D.i .i64) s30)), (31, .d ((D.i .i64) s31))], [(2, .cells ((cellsA (TQea.D w2)))), (5, .mapS (ms (D.i .u64) D.b w5)), (7, .mapS (ms (D.i .u64) D.b w7))], []⟩
def joint_Sets_l2_O (s1 : List TSlot) (s6 : Int) (s15 : Int) (s16 : Int) (s30 : Int) (w2 : TQea) (w5 : List (Int × Bool)) (o : (List (Int × Bool))) : Ex × St := (.exit 2, ⟨sp 65 0 [(1, .d ((D.l TSlot.D) s1)), (2, .box 2 0), (5, .row 5), (7, .row 7), (15, .d ((D.i .i64) s15)), (16, .d ((D.i .i64) s16))], [(2, .cells ((cellsA (TQea.D w2)))), (5, .mapS (ms (D.i .u64) D.b w5)), (7, .mapS (ms (D.i .u64) D.b o))], []⟩)
theorem joint_Sets_l2_rnd (rd : Option Nat) (s1 : List TSlot) (s6 : Int) (s15 : Int) (s16 : Int) (s30 : Int) (w2 : TQea) (w5 : List (Int × Bool)) (s31 : Int) (w7 : List (Int × Bool)) (o : (Int × (List (Int × Bool))) ⊕ ((List (Int × Bool)))) (h : joint_Sets_l2_s s1 s6 s15 s16 s30 w2 w5 s31 w7 = some o) : Arr Try.prog rd (fbody Try.prog 21) (0 :: [0, 1, 0, 1, 1, 0, 0, 1, 1, 0, 0, 1, 0, 1, 1]) (joint_Sets_l2_I s1 s6 s15 s16 s30 w2 w5 s31 w7) (rR (fun s : Int × (List (Int × Bool)) => joint_Sets_l2_I s1 s6 s15 s16 s30 w2 w5 s.1 s.2) (joint_Sets_l2_O s1 s6 s15 s16 s30 w2 w5) o).1 (rR (fun s : Int × (List (Int × Bool)) => joint_Sets_l2_I s1 s6 s15 s16 s30 w2 w5 s.1 s.2) (joint_Sets_l2_O s1 s6 s15 s16 s30 w2 w5) o).2 := by
  unfold joint_Sets_l2_s at h
  rcases iS h with ⟨h4, h⟩ | ⟨h4, h⟩
  ·
   obtain ⟨r3, h5, h⟩ := bS h
   obtain rfl := si h
   exact runB_arr mixed [(32, .bit true), (40, .cx false [(0, 7)] [(1, 40)] (.row 1) [(1, .mapS (ms (D.i .u64) D.b r3))])] [] [.live [1, 2, 5, 6, 7, 15, 16, 30, 31], .keep [2, 5, 40], .ren 40 7, .sort] (ai h4 (ai (joint_narrow_ok (Tjoint_place.mk w2 s1 s6 s31) w7 r3 h5) (ti))) (by kernel_rfl)
  ·
   obtain rfl := si h
   exact runB_arr mixed [(32, .bit false)] [] [.live [1, 2, 5, 7, 15, 16], .keep [2, 5, 7]] (ai h4 (ti)) (by kernel_rfl)
theorem joint_Sets_l2_ok (rd : Option Nat) (s1 : List TSlot) (s6 : Int) (s15 : Int) (s16 : Int) (s30 : Int) (w2 : TQea) (w5 : List (Int × Bool)) (s31 : Int) (w7 : List (Int × Bool)) (t : (List (Int × Bool))) (h : joint_Sets_l2 s1 s6 s15 s16 s30 w2 w5 s31 w7 = some t) : LpOf Try.prog rd (fbody Try.prog 21) [0, 1, 0, 1, 1, 0, 0, 1, 1, 0, 0, 1, 0, 1, 1] (joint_Sets_l2_I s1 s6 s15 s16 s30 w2 w5 s31 w7) ((joint_Sets_l2_O s1 s6 s15 s16 s30 w2 w5) t).1 ((joint_Sets_l2_O s1 s6 s15 s16 s30 w2 w5) t).2 :=
  loopE_lpR (fun s : Int × (List (Int × Bool)) => joint_Sets_l2_I s1 s6 s15 s16 s30 w2 w5 s.1 s.2) (joint_Sets_l2_O s1 s6 s15 s16 s30 w2 w5) (by kernel_rfl) (fun t => isN_ne (by rfl)) (fun s o h => joint_Sets_l2_rnd rd s1 s6 s15 s16 s30 w2 w5 s.1 s.2 o h) (s := (s31, w7)) (t := t) h
def joint_Sets_m4_I (clk : Nat) (es : List (Nat × Int × Bool)) (s1 : List TSlot) (s15 : Int) (s16 : Int) (w2 : TQea) (w7 : List (Int × Bool)) (w5 : List (Int × Bool)) (sn : List Nat) : St := ⟨sp 65 0 [(1, .d ((D.l TSlot.D) s1)), (2, .box 2 0), (5, .row 5), (15, .d ((D.i .i64) s15)), (16, .d ((D.i .i64) s16)), (43, .box 43 0)], [(2, .cells ((cellsA (TQea.D w2)))), (5, .mapS (ms (D.i .u64) D.b w5)), (7, .map clk (dl (D.i .u64) D.b es)), (43, .mit 7 clk sn)], []⟩
def joint_Sets_m4_O (clk : Nat) (es : List (Nat × Int × Bool)) (s1 : List TSlot) (s15 : Int) (s16 : Int) (w2 : TQea) (w7 : List (Int × Bool)) (o : (List (Int × Bool))) : Ex × St := (.exit 4, ⟨sp 65 0 [(1, .d ((D.l TSlot.D) s1)), (2, .box 2 0), (5, .row 5), (15, .d ((D.i .i64) s15)), (16, .d ((D.i .i64) s16))], [(2, .cells ((cellsA (TQea.D w2)))), (5, .mapS (ms (D.i .u64) D.b o))], []⟩)
def joint_Sets_m4_Q (clk : Nat) (es : List (Nat × Int × Bool)) (s1 : List TSlot) (s15 : Int) (s16 : Int) (w2 : TQea) (w7 : List (Int × Bool)) (w5 : List (Int × Bool)) : St := ⟨sp 65 0 [(1, .d ((D.l TSlot.D) s1)), (2, .box 2 0), (5, .row 5), (15, .d ((D.i .i64) s15)), (16, .d ((D.i .i64) s16))], [(2, .cells ((cellsA (TQea.D w2)))), (5, .mapS (ms (D.i .u64) D.b w5))], []⟩
set_option maxRecDepth 100000 in
theorem joint_Sets_m4_rnd (rd : Option Nat) (clk : Nat) (es : List (Nat × Int × Bool)) (s1 : List TSlot) (s15 : Int) (s16 : Int) (w2 : TQea) (w7 : List (Int × Bool)) (k : Int) (v : Bool) (w5 : List (Int × Bool)) (sn : List Nat) (st : Nat) (hm : (st, k, v) ∈ es) (o : (List (Int × Bool))) (h : joint_Sets_m4_s s1 s15 s16 w2 w7 k v w5 = some o) : ACNa Try.prog rd (fbody Try.prog 21) [0, 1, 1, 1, 1, 0, 0, 1, 1, 0, 0, 1, 0, 1, 1] ((⟨(joint_Sets_m4_I clk es s1 s15 s16 w2 w7 w5 sn).E, updB (joint_Sets_m4_I clk es s1 s15 s16 w2 w7 w5 sn).B 43 (.mit 7 clk (sn ++ [st])), []⟩ : St).put (some 44) (.tup [bo true, .d ((D.i .u64) k), .d (D.b v)])) fun zx zs => zx = .normal ∧ Wk zs ((fun s : (List (Int × Bool)) => joint_Sets_m4_I clk es s1 s15 s16 w2 w7 s (sn ++ [st])) o) := by
  unfold joint_Sets_m4_s at h
  obtain rfl := si h
  exact runN_acn mixed [(46, .en ((D.i .u64) k) (D.b v)), (10048, .ms (ms (D.i .u64) D.b (putS k true w5)))] [] [.live [1, 2, 5, 15, 16, 43], .keep [2, 5, 7, 43]] (ai (menr_ok (fk := (D.i .u64)) (fv := D.b) (clk := clk) (sn := sn) hm) (ai (putS_ok (keyI Try.underlying75) D.b w5 k true) (ti))) (by kernel_rfl)
set_option maxRecDepth 100000 in
theorem joint_Sets_m4_end (rd : Option Nat) (clk : Nat) (es : List (Nat × Int × Bool)) (s1 : List TSlot) (s15 : Int) (s16 : Int) (w2 : TQea) (w7 : List (Int × Bool)) (w5 : List (Int × Bool)) (sn : List Nat) : ACNa Try.prog rd (fbody Try.prog 21) [0, 1, 1, 1, 1, 0, 0, 1, 1, 0, 0, 1, 0, 1, 1] ((joint_Sets_m4_I clk es s1 s15 s16 w2 w7 w5 sn).put (some 44) (.tup [bo false])) fun zx zs => zx = (joint_Sets_m4_O clk es s1 s15 s16 w2 w7 (joint_Sets_m4_c s1 s15 s16 w2 w7 w5)).1 ∧ Wk zs (joint_Sets_m4_O clk es s1 s15 s16 w2 w7 (joint_Sets_m4_c s1 s15 s16 w2 w7 w5)).2 := by
  refine ACNa.wk (e := .exit 4) (s1 := joint_Sets_m4_Q clk es s1 s15 s16 w2 w7 w5) (runN_acn mixed [] [] [.live [1, 2, 5, 15, 16], .keep [2, 5]] (ti) (by kernel_rfl)) ?_
  exact (Wk.canS 5 (by kernel_rfl) rfl)
set_option maxRecDepth 100000 in
theorem joint_Sets_m4_ok (rd : Option Nat) (clk : Nat) (es : List (Nat × Int × Bool)) (s1 : List TSlot) (s15 : Int) (s16 : Int) (w2 : TQea) (w7 : List (Int × Bool)) (w5 : List (Int × Bool)) (hp : (es.map (·.2)).Perm w7) (o : (List (Int × Bool))) (h : joint_Sets_m4 s1 s15 s16 w2 w7 w5 = some o) : LpOf Try.prog rd (fbody Try.prog 21) [0, 1, 1, 1, 1, 0, 0, 1, 1, 0, 0, 1, 0, 1, 1] (joint_Sets_m4_I clk es s1 s15 s16 w2 w7 w5 []) ((joint_Sets_m4_O clk es s1 s15 s16 w2 w7) o).1 ((joint_Sets_m4_O clk es s1 s15 s16 w2 w7) o).2 :=
  mapLoop (fk := (D.i .u64)) (fv := D.b) (step := (fun (x : Int × Bool) (s : (List (Int × Bool))) => joint_Sets_m4_s s1 s15 s16 w2 w7 x.1 x.2 s)) (s0 := w5) 43 44 43 7 clk es (fun (sn : List Nat) (s : (List (Int × Bool))) => joint_Sets_m4_I clk es s1 s15 s16 w2 w7 s sn) (joint_Sets_m4_O clk es s1 s15 s16 w2 w7) (by kernel_rfl) (isN_ne (by rfl)) (fun _ _ => by kernel_rfl) (fun _ _ => by kernel_rfl) (fun _ _ => by kernel_rfl) hp
    (fun sn s k v st a hm h => joint_Sets_m4_rnd rd clk es s1 s15 s16 w2 w7 k v s sn st hm a h) (fun sn s hc => hc ▸ joint_Sets_m4_end rd clk es s1 s15 s16 w2 w7 s sn) h
def joint_Sets_b3_I (s1 : List TSlot) (s15 : Int) (s16 : Int) (w2 : TQea) (w5 : List (Int × Bool)) (w7 : List (Int × Bool)) : St := ⟨sp 65 0 [(1, .d ((D.l TSlot.D) s1)), (2, .box 2 0), (5, .row 5), (7, .row 7), (15, .d ((D.i .i64) s15)), (16, .d ((D.i .i64) s16))], [(2, .cells ((cellsA (TQea.D w2)))), (5, .mapS (ms (D.i .u64) D.b w5)), (7, .mapS (ms (D.i .u64) D.b w7))], []⟩
def joint_Sets_b3_O (s1 : List TSlot) (s15 : Int) (s16 : Int) (w2 : TQea) (w5 : List (Int × Bool)) (w7 : List (Int × Bool)) (o : (List (Int × Bool))) : Ex × St := (.normal, ⟨sp 65 0 [(1, .d ((D.l TSlot.D) s1)), (2, .box 2 0), (5, .row 5), (15, .d ((D.i .i64) s15)), (16, .d ((D.i .i64) s16))], [(2, .cells ((cellsA (TQea.D w2)))), (5, .mapS (ms (D.i .u64) D.b o))], []⟩)
theorem joint_Sets_b3_ok (rd : Option Nat) (s1 : List TSlot) (s15 : Int) (s16 : Int) (w2 : TQea) (w5 : List (Int × Bool)) (w7 : List (Int × Bool)) (o : (List (Int × Bool))) (h : joint_Sets_b3 s1 s15 s16 w2 w5 w7 = some o) : LpOf Try.prog rd (fbody Try.prog 21) [1, 1, 1, 0, 0, 1, 1, 0, 0, 1, 0, 1, 1] (joint_Sets_b3_I s1 s15 s16 w2 w5 w7) (joint_Sets_b3_O s1 s15 s16 w2 w5 w7 o).1 (joint_Sets_b3_O s1 s15 s16 w2 w5 w7 o).2 := by
  unfold joint_Sets_b3 at h
  obtain ⟨o5, h7, h⟩ := bS h
  obtain rfl := si h
  exact Arr.lp (Arr.exact (fk := (D.i .u64)) (fv := D.b) (S := w7) 7 (by kernel_rfl) fun clk es hp => runB_arr mixed [] [⟨[0, 1, 1, 1, 1, 0, 0, 1, 1, 0, 0, 1, 0, 1, 1], [.live [1, 2, 5, 15, 16, 43], .keep [2, 5, 7, 43]], .exit 4, (joint_Sets_m4_O clk es s1 s15 s16 w2 w7 o5).2⟩] [.live [1, 2, 5, 15, 16], .keep [2, 5]] (ai (joint_Sets_m4_ok rd clk es s1 s15 s16 w2 w7 w5 hp o5 h7) (ti)) (by kernel_rfl))
def joint_Sets_l1_I (s1 : List TSlot) (s15 : Int) (w2 : TQea) (s16 : Int) (w5 : List (Int × Bool)) : St := ⟨sp 65 0 [(1, .d ((D.l TSlot.D) s1)), (2, .box 2 0), (5, .row 5), (15, .d ((D.i .i64) s15)), (16, .d ((D.i .i64) s16))], [(2, .cells ((cellsA (TQea.D w2)))), (5, .mapS (ms (D.i .u64) D.b w5))], []⟩
def joint_Sets_l1_O (s1 : List TSlot) (s15 : Int) (w2 : TQea) (o : (List (Int × Bool))) : Ex × St := (.exit 0, ⟨sp 65 0 [(5, .row 5)], [(5, .mapS (ms (D.i .u64) D.b o))], []⟩)
theorem joint_Sets_l1_rnd (rd : Option Nat) (s1 : List TSlot) (s15 : Int) (w2 : TQea) (s16 : Int) (w5 : List (Int × Bool)) (o : (Int × (List (Int × Bool))) ⊕ ((List (Int × Bool)))) (h : joint_Sets_l1_s s1 s15 w2 s16 w5 = some o) : Arr Try.prog rd (fbody Try.prog 21) (0 :: [0, 1, 0, 1, 1]) (joint_Sets_l1_I s1 s15 w2 s16 w5) (rR (fun s : Int × (List (Int × Bool)) => joint_Sets_l1_I s1 s15 w2 s.1 s.2) (joint_Sets_l1_O s1 s15 w2) o).1 (rR (fun s : Int × (List (Int × Bool)) => joint_Sets_l1_I s1 s15 w2 s.1 s.2) (joint_Sets_l1_O s1 s15 w2) o).2 := by
  unfold joint_Sets_l1_s at h
  rcases iS h with ⟨h1, h⟩ | ⟨h1, h⟩
  ·
   obtain ⟨r1, h2, h⟩ := bS h
   obtain ⟨x2, h3, h⟩ := xS h
   obtain ⟨o4, h6, h⟩ := bS h
   obtain ⟨o6, h8, h⟩ := bS h
   obtain rfl := si h
   exact runB_arr mixed [(17, .bit true), (19, .frz), (22, .ret (.d ((D.i .u64) r1))), (10019, .ms (ms (D.i .u64) D.b (putS r1 true ([] : List (Int × Bool))))), (27, .el (TDecl.D x2)), (30, .int (x2.types.length : Int))] [⟨[0, 1, 0, 1, 1, 0, 0, 1, 1, 0, 0, 1, 0, 1, 1], [.live [1, 2, 5, 6, 7, 15, 16, 30, 31], .keep [2, 5, 19], .ren 19 7, .sort], .exit 2, (joint_Sets_l2_O s1 s16 s15 s16 (x2.types.length : Int) w2 w5 o4).2⟩, ⟨[1, 1, 1, 0, 0, 1, 1, 0, 0, 1, 0, 1, 1], [.live [1, 2, 5, 7, 15, 16], .keep [2, 5, 7]], .normal, (joint_Sets_b3_O s1 s15 s16 w2 w5 o4 o6).2⟩] [.live [1, 2, 5, 15, 16], .keep [2, 5]] (ai h1 (ai (joint_own_ok w2 s16 r1 h2) (ai (putS_ok (keyI Try.underlying75) D.b ([] : List (Int × Bool)) r1 true) (ai (elem_map TDecl.D h3) (ai (len_map (D.i .i64) x2.types) (ai (joint_Sets_l2_ok rd s1 s16 s15 s16 (x2.types.length : Int) w2 w5 0 (putS r1 true ([] : List (Int × Bool))) o4 h6) (ai (joint_Sets_b3_ok rd s1 s15 s16 w2 w5 o4 o6 h8) (ti)))))))) (by kernel_rfl)
  ·
   obtain rfl := si h
   exact runB_arr mixed [(17, .bit false)] [] [.live [5], .keep [5]] (ai h1 (ti)) (by kernel_rfl)
theorem joint_Sets_l1_ok (rd : Option Nat) (s1 : List TSlot) (s15 : Int) (w2 : TQea) (s16 : Int) (w5 : List (Int × Bool)) (t : (List (Int × Bool))) (h : joint_Sets_l1 s1 s15 w2 s16 w5 = some t) : LpOf Try.prog rd (fbody Try.prog 21) [0, 1, 0, 1, 1] (joint_Sets_l1_I s1 s15 w2 s16 w5) ((joint_Sets_l1_O s1 s15 w2) t).1 ((joint_Sets_l1_O s1 s15 w2) t).2 :=
  loopE_lpR (fun s : Int × (List (Int × Bool)) => joint_Sets_l1_I s1 s15 w2 s.1 s.2) (joint_Sets_l1_O s1 s15 w2) (by kernel_rfl) (fun t => isN_ne (by rfl)) (fun s o h => joint_Sets_l1_rnd rd s1 s15 w2 s.1 s.2 o h) (s := (s16, w5)) (t := t) h
def joint_Sets_m6_I (clk : Nat) (es : List (Nat × Int × Bool)) (w5 : List (Int × Bool)) (w10 : List Int) (sn : List Nat) : St := ⟨sp 65 0 [(10, .row 10), (53, .box 53 0)], [(5, .map clk (dl (D.i .u64) D.b es)), (10, .rw 75 1 (w10.map (D.i .u64))), (53, .mit 5 clk sn)], []⟩
def joint_Sets_m6_O (clk : Nat) (es : List (Nat × Int × Bool)) (w5 : List (Int × Bool)) (o : List Int) : Ex × St := (.exit 6, ⟨sp 65 0 [(10, .row 10)], [(10, .bag 75 1 (o.map (D.i .u64)))], []⟩)
def joint_Sets_m6_Q (clk : Nat) (es : List (Nat × Int × Bool)) (w5 : List (Int × Bool)) (w10 : List Int) : St := ⟨sp 65 0 [(10, .row 10)], [(10, .rw 75 1 (w10.map (D.i .u64)))], []⟩
set_option maxRecDepth 100000 in
theorem joint_Sets_m6_rnd (rd : Option Nat) (clk : Nat) (es : List (Nat × Int × Bool)) (w5 : List (Int × Bool)) (k : Int) (v : Bool) (w10 : List Int) (sn : List Nat) (st : Nat) (hm : (st, k, v) ∈ es) (o : List Int) (h : joint_Sets_m6_s w5 k v w10 = some o) : ACNa Try.prog rd (fbody Try.prog 21) [0, 1, 0, 1, 1, 1, 1, 1] ((⟨(joint_Sets_m6_I clk es w5 w10 sn).E, updB (joint_Sets_m6_I clk es w5 w10 sn).B 53 (.mit 5 clk (sn ++ [st])), []⟩ : St).put (some 54) (.tup [bo true, .d ((D.i .u64) k), .d (D.b v)])) fun zx zs => zx = .normal ∧ Wk zs ((fun s : List Int => joint_Sets_m6_I clk es w5 s (sn ++ [st])) o) := by
  unfold joint_Sets_m6_s at h
  obtain ⟨h10, h⟩ := cS h
  obtain rfl := si h
  exact runN_acn mixed [(56, .en ((D.i .u64) k) (D.b v)), (61, .rwl ((w10 ++ [k]).map (D.i .u64)))] [] [.live [10, 53], .keep [5, 53, 61], .ren 61 10, .sort] (ai (menr_ok (fk := (D.i .u64)) (fv := D.b) (clk := clk) (sn := sn) hm) (ai (nc_ok (D.i .u64) [k]) (ai (nc_ok (D.i .u64) [k]) (ai (fit_map (D.i .u64) h10) (ai (app_map (D.i .u64) w10 [k]) (ti)))))) (by kernel_rfl)
set_option maxRecDepth 100000 in
theorem joint_Sets_m6_end (rd : Option Nat) (clk : Nat) (es : List (Nat × Int × Bool)) (w5 : List (Int × Bool)) (w10 : List Int) (sn : List Nat) : ACNa Try.prog rd (fbody Try.prog 21) [0, 1, 0, 1, 1, 1, 1, 1] ((joint_Sets_m6_I clk es w5 w10 sn).put (some 54) (.tup [bo false])) fun zx zs => zx = (joint_Sets_m6_O clk es w5 (joint_Sets_m6_c w5 w10)).1 ∧ Wk zs (joint_Sets_m6_O clk es w5 (joint_Sets_m6_c w5 w10)).2 := by
  refine ACNa.wk (e := .exit 6) (s1 := joint_Sets_m6_Q clk es w5 w10) (runN_acn mixed [] [] [.live [10], .keep [10]] (ti) (by kernel_rfl)) ?_
  exact (Wk.canB 10 (rowC_perm _).symm (by kernel_rfl) rfl)
set_option maxRecDepth 100000 in
theorem joint_Sets_m6_ok (rd : Option Nat) (clk : Nat) (es : List (Nat × Int × Bool)) (w5 : List (Int × Bool)) (w10 : List Int) (hp : (es.map (·.2)).Perm w5) (o : List Int) (h : joint_Sets_m6 w5 w10 = some o) : LpOf Try.prog rd (fbody Try.prog 21) [0, 1, 0, 1, 1, 1, 1, 1] (joint_Sets_m6_I clk es w5 w10 []) ((joint_Sets_m6_O clk es w5) o).1 ((joint_Sets_m6_O clk es w5) o).2 :=
  mapLoop (fk := (D.i .u64)) (fv := D.b) (step := (fun (x : Int × Bool) (s : List Int) => joint_Sets_m6_s w5 x.1 x.2 s)) (s0 := w10) 53 54 53 5 clk es (fun (sn : List Nat) (s : List Int) => joint_Sets_m6_I clk es w5 s sn) (joint_Sets_m6_O clk es w5) (by kernel_rfl) (isN_ne (by rfl)) (fun _ _ => by kernel_rfl) (fun _ _ => by kernel_rfl) (fun _ _ => by kernel_rfl) hp
    (fun sn s k v st a hm h => joint_Sets_m6_rnd rd clk es w5 k v s sn st hm a h) (fun sn s hc => hc ▸ joint_Sets_m6_end rd clk es w5 s sn) h
def joint_Sets_b5_I (w5 : List (Int × Bool)) : St := ⟨sp 65 0 [(5, .row 5), (10, .nil)], [(5, .mapS (ms (D.i .u64) D.b w5))], []⟩
def joint_Sets_b5_O (w5 : List (Int × Bool)) (o : (List Int)) : Ex × St := (.normal, ⟨sp 65 0 [(10, .row 10)], [(10, .bag 75 1 (o.map (D.i .u64)))], []⟩)
theorem joint_Sets_b5_ok (rd : Option Nat) (w5 : List (Int × Bool)) (o : (List Int)) (h : joint_Sets_b5 w5 = some o) : LpOf Try.prog rd (fbody Try.prog 21) [0, 1, 1, 1, 1, 1] (joint_Sets_b5_I w5) (joint_Sets_b5_O w5 o).1 (joint_Sets_b5_O w5 o).2 := by
  unfold joint_Sets_b5 at h
  obtain ⟨o8, h11, h⟩ := bS h
  obtain rfl := si h
  exact Arr.lp (Arr.exact (fk := (D.i .u64)) (fv := D.b) (S := w5) 5 (by kernel_rfl) fun clk es hp => runB_arr mixed [] [⟨[0, 1, 0, 1, 1, 1, 1, 1], [.live [10, 53], .keep [5, 53], .nilw 10 10 75 1, .sort], .exit 6, (joint_Sets_m6_O clk es w5 o8).2⟩] [.live [10], .keep [10]] (ai (joint_Sets_m6_ok rd clk es w5 ([] : List Int) hp o8 h11) (ti)) (by kernel_rfl))
theorem joint_Sets_ok (a0 : TQea) (a1 : List TSlot) (r : List Int) (h : joint_Sets a0 a1 = some r) : ACall Try.prog 21 [.d (TQea.D a0), .d ((D.l TSlot.D) a1)] [] (.d ((D.l (D.i .u64)) r)) [] := by
  unfold joint_Sets at h
  obtain ⟨o7, h9, h⟩ := bS h
  obtain ⟨o9, h12, h⟩ := bS h
  obtain ⟨r10, h13, h⟩ := bS h
  obtain rfl := si h
  exact runF_call mixed [(12, .frz), (15, .int (a0.decls.length : Int)), (10051, .ms (ms (D.i .u64) D.b (delS 0 o7))), (63, .cx true [(0, 10)] [] (.tup []) [(0, .rw 75 1 (r10.map (D.i .u64)))])] [⟨[0, 1, 0, 1, 1], [.live [1, 2, 5, 15, 16], .keep [2, 12], .ren 12 5, .sort], .exit 0, (joint_Sets_l1_O a1 (a0.decls.length : Int) a0 o7).2⟩, ⟨[0, 1, 1, 1, 1, 1], [.live [5, 10], .keep [5]], .normal, (joint_Sets_b5_O (delS 0 o7) o9).2⟩] [.frz 10] (ai (len_map TDecl.D a0.decls) (ai (joint_Sets_l1_ok none a1 (a0.decls.length : Int) a0 0 ([] : List (Int × Bool)) o7 h9) (ai (delS_ok (keyI Try.underlying75) D.b o7 0) (ai (joint_Sets_b5_ok none (delS 0 o7) o9 h12) (ai (slices_Sort_uint64_uint64_v2_ok o9 r10 h13) (ti)))))) (by kernel_rfl)
theorem core_Plain_1_ok (a0 : TTrans) (r : Bool) (h : core_Plain_1 a0 = some r) : ACall Try.prog 44 [.d (TTrans.D a0)] [] (.d (D.b r)) [] := by
  unfold core_Plain_1 at h
  obtain rfl := si h
  exact runF_call mixed [] [] [] (ti) (by kernel_rfl)
def slices_IndexFunc_Trans_Trans_l1_I (s0 : List TTrans) (s7 : Int) (s8 : Int) : St := ⟨sp 19 0 [(0, .d ((D.l TTrans.D) s0)), (1, .clo (.func 44) [] []), (7, .d ((D.i .i64) s7)), (8, .d ((D.i .i64) s8))], [], []⟩
def slices_IndexFunc_Trans_Trans_l1_O (s0 : List TTrans) (s7 : Int) (o : Unit ⊕ Int) : Ex × St := match o with
  | .inl o => (.exit 0, ⟨sp 19 0 [], [], []⟩)
  | .inr o => (.ret, ⟨sp 19 0 [(4, .d ((D.i .i64) o))], [], []⟩)
theorem slices_IndexFunc_Trans_Trans_l1_rnd (rd : Option Nat) (s0 : List TTrans) (s7 : Int) (s8 : Int) (o : (Int) ⊕ (Unit ⊕ Int)) (h : slices_IndexFunc_Trans_Trans_l1_s s0 s7 s8 = some o) : Arr Try.prog rd (fbody Try.prog 58) (0 :: [0, 1, 0, 1]) (slices_IndexFunc_Trans_Trans_l1_I s0 s7 s8) (rR (fun s : Int => slices_IndexFunc_Trans_Trans_l1_I s0 s7 s) (slices_IndexFunc_Trans_Trans_l1_O s0 s7) o).1 (rR (fun s : Int => slices_IndexFunc_Trans_Trans_l1_I s0 s7 s) (slices_IndexFunc_Trans_Trans_l1_O s0 s7) o).2 := by
  unfold slices_IndexFunc_Trans_Trans_l1_s at h
  rcases iS h with ⟨h1, h⟩ | ⟨h1, h⟩
  ·
   obtain ⟨x1, h2, h⟩ := xS h
   obtain ⟨r2, h3, h⟩ := bS h
   cases r2 with
   | true =>
    replace h := iteT h
    obtain rfl := si h
    exact runB_arr mixed [(9, .bit true), (14, .el (TTrans.D x1)), (16, .ret (.d (D.b true)))] [] [.live [4], .keep []] (ai h1 (ai (elem_map TTrans.D h2) (ai (core_Plain_1_ok x1 true h3) (ti)))) (by kernel_rfl)
   | false =>
    replace h := iteF h
    obtain rfl := si h
    exact runB_arr mixed [(9, .bit true), (14, .el (TTrans.D x1)), (16, .ret (.d (D.b false)))] [] [.live [0, 1, 7, 8], .keep []] (ai h1 (ai (elem_map TTrans.D h2) (ai (core_Plain_1_ok x1 false h3) (ti)))) (by kernel_rfl)
  ·
   obtain rfl := si h
   exact runB_arr mixed [(9, .bit false)] [] [.live [], .keep []] (ai h1 (ti)) (by kernel_rfl)
theorem slices_IndexFunc_Trans_Trans_l1_ok (rd : Option Nat) (s0 : List TTrans) (s7 : Int) (s8 : Int) (t : Unit ⊕ Int) (h : slices_IndexFunc_Trans_Trans_l1 s0 s7 s8 = some t) : LpOf Try.prog rd (fbody Try.prog 58) [0, 1, 0, 1] (slices_IndexFunc_Trans_Trans_l1_I s0 s7 s8) ((slices_IndexFunc_Trans_Trans_l1_O s0 s7) t).1 ((slices_IndexFunc_Trans_Trans_l1_O s0 s7) t).2 :=
  loopE_lpR (fun s : Int => slices_IndexFunc_Trans_Trans_l1_I s0 s7 s) (slices_IndexFunc_Trans_Trans_l1_O s0 s7) (by kernel_rfl) (fun t => isN_ne (by rcases t with (_ | _) <;> rfl)) (fun s o h => slices_IndexFunc_Trans_Trans_l1_rnd rd s0 s7 s o h) (s := s8) (t := t) h
theorem slices_IndexFunc_Trans_Trans_ok (a0 : List TTrans) (r : Int) (h : slices_IndexFunc_Trans_Trans a0 = some r) : ACall Try.prog 58 [.d ((D.l TTrans.D) a0), .clo (.func 44) [] []] [] (.d ((D.i .i64) r)) [] := by
  unfold slices_IndexFunc_Trans_Trans at h
  obtain ⟨o3, h5, h⟩ := bS h
  replace h := sumE_some h
  rcases h with ⟨o4, rfl, h⟩ | ⟨o5, rfl, h⟩
  ·
   obtain rfl := si h
   exact runF_call mixed [(7, .int (a0.length : Int))] [⟨[0, 1, 0, 1], [.live [0, 1, 7, 8], .keep []], .exit 0, (slices_IndexFunc_Trans_Trans_l1_O a0 (a0.length : Int) (Sum.inl o4)).2⟩] [] (ai (len_map TTrans.D a0) (ai (slices_IndexFunc_Trans_Trans_l1_ok none a0 (a0.length : Int) 0 (Sum.inl o4) h5) (ti))) (by kernel_rfl)
  ·
   obtain rfl := si h
   exact runF_call mixed [(7, .int (a0.length : Int))] [⟨[0, 1, 0, 1], [.live [0, 1, 7, 8], .keep []], .ret, (slices_IndexFunc_Trans_Trans_l1_O a0 (a0.length : Int) (Sum.inr o5)).2⟩] [] (ai (len_map TTrans.D a0) (ai (slices_IndexFunc_Trans_Trans_l1_ok none a0 (a0.length : Int) 0 (Sum.inr o5) h5) (ti))) (by kernel_rfl)
theorem slices_ContainsFunc_Trans_Trans_ok (a0 : List TTrans) (r : Bool) (h : slices_ContainsFunc_Trans_Trans a0 = some r) : ACall Try.prog 43 [.d ((D.l TTrans.D) a0), .clo (.func 44) [] []] [] (.d (D.b r)) [] := by
  unfold slices_ContainsFunc_Trans_Trans at h
  obtain ⟨r1, h1, h⟩ := bS h
  obtain rfl := si h
  exact runF_call mixed [(7, .ret (.d ((D.i .i64) r1)))] [] [] (ai (slices_IndexFunc_Trans_Trans_ok a0 r1 h1) (ti)) (by kernel_rfl)
theorem core_Plain_ok (a0 : TQea) (r : Bool) (h : core_Plain a0 = some r) : ACall Try.prog 23 [.d (TQea.D a0)] [] (.d (D.b r)) [] := by
  unfold core_Plain at h
  rcases iS h with ⟨h1, h⟩ | ⟨h1, h⟩
  ·
   obtain ⟨r1, h2, h⟩ := bS h
   obtain rfl := si h
   exact runF_call mixed [(5, .int (a0.frees.length : Int)), (7, .bit true), (10, .ret (.d (D.b r1)))] [] [] (ai (len_map TFree.D a0.frees) (ai h1 (ai (slices_ContainsFunc_Trans_Trans_ok a0.trans r1 h2) (ti)))) (by kernel_rfl)
  ·
   obtain rfl := si h
   exact runF_call mixed [(5, .int (a0.frees.length : Int)), (7, .bit false)] [] [] (ai (len_map TFree.D a0.frees) (ai h1 (ti))) (by kernel_rfl)
theorem joint_Small_ok (a0 : TQea) (r : Bool) (h : joint_Small a0 = some r) : ACall Try.prog 9 [.d (TQea.D a0)] [] (.d (D.b r)) [] := by
  unfold joint_Small at h
  obtain ⟨r1, h1, h⟩ := bS h
  cases r1 with
  | true =>
   replace h := iteT h
   rcases iS h with ⟨h3, h⟩ | ⟨h3, h⟩
   ·
    rcases iS h with ⟨h4, h⟩ | ⟨h4, h⟩
    ·
     obtain rfl := si h
     exact runF_call mixed [(4, .ret (.d (D.b true))), (8, .int (a0.quants.length : Int)), (11, .bit true), (14, .int (a0.states.length : Int)), (17, .bit true), (20, .int (a0.symbols.length : Int))] [] [] (ai (core_Plain_ok a0 true h1) (ai (len_map TQuant.D a0.quants) (ai h3 (ai (len_map TState.D a0.states) (ai h4 (ai (len_map TSymbol.D a0.symbols) (ti))))))) (by kernel_rfl)
    ·
     obtain rfl := si h
     exact runF_call mixed [(4, .ret (.d (D.b true))), (8, .int (a0.quants.length : Int)), (11, .bit true), (14, .int (a0.states.length : Int)), (17, .bit false)] [] [] (ai (core_Plain_ok a0 true h1) (ai (len_map TQuant.D a0.quants) (ai h3 (ai (len_map TState.D a0.states) (ai h4 (ti)))))) (by kernel_rfl)
   ·
    obtain rfl := si h
    exact runF_call mixed [(4, .ret (.d (D.b true))), (8, .int (a0.quants.length : Int)), (11, .bit false)] [] [] (ai (core_Plain_ok a0 true h1) (ai (len_map TQuant.D a0.quants) (ai h3 (ti)))) (by kernel_rfl)
  | false =>
   replace h := iteF h
   obtain rfl := si h
   exact runF_call mixed [(4, .ret (.d (D.b false)))] [] [] (ai (core_Plain_ok a0 false h1) (ti)) (by kernel_rfl)
theorem law22_awake_ok (r : Bool) (h : law22_awake = some r) : ACall Try.prog 6 [] [] (.d (D.b r)) [] := by
  unfold law22_awake at h
  obtain ⟨r1, h1, h⟩ := bS h
  obtain ⟨r2, h2, h⟩ := bS h
  obtain ⟨r3, h3, h⟩ := bS h
  obtain ⟨r4, h4, h⟩ := bS h
  obtain ⟨r5, h5, h⟩ := bS h
  obtain ⟨r6, h6, h⟩ := bS h
  cases r6 with
  | true =>
   replace h := iteT h
   rcases iS h with ⟨h8, h⟩ | ⟨h8, h⟩
   ·
    obtain ⟨x7, h9, h⟩ := xS h
    rcases iS h with ⟨h10, h⟩ | ⟨h10, h⟩
    ·
     rcases iS h with ⟨h11, h⟩ | ⟨h11, h⟩
     ·
      obtain ⟨x8, h12, h⟩ := xS h
      rcases iS h with ⟨h13, h⟩ | ⟨h13, h⟩
      ·
       obtain ⟨x9, h14, h⟩ := xS h
       obtain rfl := si h
       exact runF_call mixed [(14, .ret (.d (TValue.D r1))), (21, .ret (.d (TValue.D r2))), (24, .ret (.d ((D.l (D.i .u64)) r3))), (26, .ret (.d (TValue.D r4))), (29, .ret (.d ((D.l (D.i .u64)) r5))), (31, .ret (.d (D.b true))), (34, .int (r3.length : Int)), (37, .bit true), (39, .el ((D.i .u64) x7)), (43, .bit true), (45, .int (r5.length : Int)), (48, .bit true), (50, .el ((D.i .u64) x8)), (54, .bit true), (56, .el ((D.i .u64) x9))] [] [] (ai (nc_ok (D.i .i64) [1]) (ai (nc_ok TDecl.D ([TDecl.mk ([97] : List UInt8) [1]])) (ai (nc_ok TQuant.D ([TQuant.mk false ([120] : List UInt8) 1])) (ai (nc_ok TState.D ([TState.mk ([115] : List UInt8) false false])) (ai (nc_ok TArg.D ([TArg.mk 2 0 (TValue.mk 0 0 ([] : List UInt8) false)])) (ai (law22_number_ok 3 r1 h1) (ai (nc_ok TArg.D [TArg.mk 1 0 r1]) (ai (nc_ok TSymbol.D ([TSymbol.mk 0 ([TArg.mk 2 0 (TValue.mk 0 0 ([] : List UInt8) false)]), TSymbol.mk 0 [TArg.mk 1 0 r1]])) (ai (law22_number_ok 3 r2 h2) (ai (nc_ok TSlot.D [TSlot.mk 0 r2]) (ai (joint_Sets_ok (TQea.mk ([113] : List UInt8) ([TDecl.mk ([97] : List UInt8) [1]]) ([TQuant.mk false ([120] : List UInt8) 1]) ([] : List TFree) ([TState.mk ([115] : List UInt8) false false]) 0 ([TSymbol.mk 0 ([TArg.mk 2 0 (TValue.mk 0 0 ([] : List UInt8) false)]), TSymbol.mk 0 [TArg.mk 1 0 r1]]) ([] : List TNode) ([] : List TTrans)) [TSlot.mk 0 r2] r3 h3) (ai (law22_number_ok 4 r4 h4) (ai (nc_ok TSlot.D [TSlot.mk 0 r4]) (ai (joint_Sets_ok (TQea.mk ([113] : List UInt8) ([TDecl.mk ([97] : List UInt8) [1]]) ([TQuant.mk false ([120] : List UInt8) 1]) ([] : List TFree) ([TState.mk ([115] : List UInt8) false false]) 0 ([TSymbol.mk 0 ([TArg.mk 2 0 (TValue.mk 0 0 ([] : List UInt8) false)]), TSymbol.mk 0 [TArg.mk 1 0 r1]]) ([] : List TNode) ([] : List TTrans)) [TSlot.mk 0 r4] r5 h5) (ai (joint_Small_ok (TQea.mk ([113] : List UInt8) ([TDecl.mk ([97] : List UInt8) [1]]) ([TQuant.mk false ([120] : List UInt8) 1]) ([] : List TFree) ([TState.mk ([115] : List UInt8) false false]) 0 ([TSymbol.mk 0 ([TArg.mk 2 0 (TValue.mk 0 0 ([] : List UInt8) false)]), TSymbol.mk 0 [TArg.mk 1 0 r1]]) ([] : List TNode) ([] : List TTrans)) true h6) (ai (len_map (D.i .u64) r3) (ai h8 (ai (elem_map (D.i .u64) h9) (ai h10 (ai (len_map (D.i .u64) r5) (ai h11 (ai (elem_map (D.i .u64) h12) (ai h13 (ai (elem_map (D.i .u64) h14) (ti))))))))))))))))))))))))) (by kernel_rfl)
      ·
       obtain rfl := si h
       exact runF_call mixed [(14, .ret (.d (TValue.D r1))), (21, .ret (.d (TValue.D r2))), (24, .ret (.d ((D.l (D.i .u64)) r3))), (26, .ret (.d (TValue.D r4))), (29, .ret (.d ((D.l (D.i .u64)) r5))), (31, .ret (.d (D.b true))), (34, .int (r3.length : Int)), (37, .bit true), (39, .el ((D.i .u64) x7)), (43, .bit true), (45, .int (r5.length : Int)), (48, .bit true), (50, .el ((D.i .u64) x8)), (54, .bit false)] [] [] (ai (nc_ok (D.i .i64) [1]) (ai (nc_ok TDecl.D ([TDecl.mk ([97] : List UInt8) [1]])) (ai (nc_ok TQuant.D ([TQuant.mk false ([120] : List UInt8) 1])) (ai (nc_ok TState.D ([TState.mk ([115] : List UInt8) false false])) (ai (nc_ok TArg.D ([TArg.mk 2 0 (TValue.mk 0 0 ([] : List UInt8) false)])) (ai (law22_number_ok 3 r1 h1) (ai (nc_ok TArg.D [TArg.mk 1 0 r1]) (ai (nc_ok TSymbol.D ([TSymbol.mk 0 ([TArg.mk 2 0 (TValue.mk 0 0 ([] : List UInt8) false)]), TSymbol.mk 0 [TArg.mk 1 0 r1]])) (ai (law22_number_ok 3 r2 h2) (ai (nc_ok TSlot.D [TSlot.mk 0 r2]) (ai (joint_Sets_ok (TQea.mk ([113] : List UInt8) ([TDecl.mk ([97] : List UInt8) [1]]) ([TQuant.mk false ([120] : List UInt8) 1]) ([] : List TFree) ([TState.mk ([115] : List UInt8) false false]) 0 ([TSymbol.mk 0 ([TArg.mk 2 0 (TValue.mk 0 0 ([] : List UInt8) false)]), TSymbol.mk 0 [TArg.mk 1 0 r1]]) ([] : List TNode) ([] : List TTrans)) [TSlot.mk 0 r2] r3 h3) (ai (law22_number_ok 4 r4 h4) (ai (nc_ok TSlot.D [TSlot.mk 0 r4]) (ai (joint_Sets_ok (TQea.mk ([113] : List UInt8) ([TDecl.mk ([97] : List UInt8) [1]]) ([TQuant.mk false ([120] : List UInt8) 1]) ([] : List TFree) ([TState.mk ([115] : List UInt8) false false]) 0 ([TSymbol.mk 0 ([TArg.mk 2 0 (TValue.mk 0 0 ([] : List UInt8) false)]), TSymbol.mk 0 [TArg.mk 1 0 r1]]) ([] : List TNode) ([] : List TTrans)) [TSlot.mk 0 r4] r5 h5) (ai (joint_Small_ok (TQea.mk ([113] : List UInt8) ([TDecl.mk ([97] : List UInt8) [1]]) ([TQuant.mk false ([120] : List UInt8) 1]) ([] : List TFree) ([TState.mk ([115] : List UInt8) false false]) 0 ([TSymbol.mk 0 ([TArg.mk 2 0 (TValue.mk 0 0 ([] : List UInt8) false)]), TSymbol.mk 0 [TArg.mk 1 0 r1]]) ([] : List TNode) ([] : List TTrans)) true h6) (ai (len_map (D.i .u64) r3) (ai h8 (ai (elem_map (D.i .u64) h9) (ai h10 (ai (len_map (D.i .u64) r5) (ai h11 (ai (elem_map (D.i .u64) h12) (ai h13 (ti)))))))))))))))))))))))) (by kernel_rfl)
     ·
      obtain rfl := si h
      exact runF_call mixed [(14, .ret (.d (TValue.D r1))), (21, .ret (.d (TValue.D r2))), (24, .ret (.d ((D.l (D.i .u64)) r3))), (26, .ret (.d (TValue.D r4))), (29, .ret (.d ((D.l (D.i .u64)) r5))), (31, .ret (.d (D.b true))), (34, .int (r3.length : Int)), (37, .bit true), (39, .el ((D.i .u64) x7)), (43, .bit true), (45, .int (r5.length : Int)), (48, .bit false)] [] [] (ai (nc_ok (D.i .i64) [1]) (ai (nc_ok TDecl.D ([TDecl.mk ([97] : List UInt8) [1]])) (ai (nc_ok TQuant.D ([TQuant.mk false ([120] : List UInt8) 1])) (ai (nc_ok TState.D ([TState.mk ([115] : List UInt8) false false])) (ai (nc_ok TArg.D ([TArg.mk 2 0 (TValue.mk 0 0 ([] : List UInt8) false)])) (ai (law22_number_ok 3 r1 h1) (ai (nc_ok TArg.D [TArg.mk 1 0 r1]) (ai (nc_ok TSymbol.D ([TSymbol.mk 0 ([TArg.mk 2 0 (TValue.mk 0 0 ([] : List UInt8) false)]), TSymbol.mk 0 [TArg.mk 1 0 r1]])) (ai (law22_number_ok 3 r2 h2) (ai (nc_ok TSlot.D [TSlot.mk 0 r2]) (ai (joint_Sets_ok (TQea.mk ([113] : List UInt8) ([TDecl.mk ([97] : List UInt8) [1]]) ([TQuant.mk false ([120] : List UInt8) 1]) ([] : List TFree) ([TState.mk ([115] : List UInt8) false false]) 0 ([TSymbol.mk 0 ([TArg.mk 2 0 (TValue.mk 0 0 ([] : List UInt8) false)]), TSymbol.mk 0 [TArg.mk 1 0 r1]]) ([] : List TNode) ([] : List TTrans)) [TSlot.mk 0 r2] r3 h3) (ai (law22_number_ok 4 r4 h4) (ai (nc_ok TSlot.D [TSlot.mk 0 r4]) (ai (joint_Sets_ok (TQea.mk ([113] : List UInt8) ([TDecl.mk ([97] : List UInt8) [1]]) ([TQuant.mk false ([120] : List UInt8) 1]) ([] : List TFree) ([TState.mk ([115] : List UInt8) false false]) 0 ([TSymbol.mk 0 ([TArg.mk 2 0 (TValue.mk 0 0 ([] : List UInt8) false)]), TSymbol.mk 0 [TArg.mk 1 0 r1]]) ([] : List TNode) ([] : List TTrans)) [TSlot.mk 0 r4] r5 h5) (ai (joint_Small_ok (TQea.mk ([113] : List UInt8) ([TDecl.mk ([97] : List UInt8) [1]]) ([TQuant.mk false ([120] : List UInt8) 1]) ([] : List TFree) ([TState.mk ([115] : List UInt8) false false]) 0 ([TSymbol.mk 0 ([TArg.mk 2 0 (TValue.mk 0 0 ([] : List UInt8) false)]), TSymbol.mk 0 [TArg.mk 1 0 r1]]) ([] : List TNode) ([] : List TTrans)) true h6) (ai (len_map (D.i .u64) r3) (ai h8 (ai (elem_map (D.i .u64) h9) (ai h10 (ai (len_map (D.i .u64) r5) (ai h11 (ti)))))))))))))))))))))) (by kernel_rfl)
    ·
     obtain rfl := si h
     exact runF_call mixed [(14, .ret (.d (TValue.D r1))), (21, .ret (.d (TValue.D r2))), (24, .ret (.d ((D.l (D.i .u64)) r3))), (26, .ret (.d (TValue.D r4))), (29, .ret (.d ((D.l (D.i .u64)) r5))), (31, .ret (.d (D.b true))), (34, .int (r3.length : Int)), (37, .bit true), (39, .el ((D.i .u64) x7)), (43, .bit false)] [] [] (ai (nc_ok (D.i .i64) [1]) (ai (nc_ok TDecl.D ([TDecl.mk ([97] : List UInt8) [1]])) (ai (nc_ok TQuant.D ([TQuant.mk false ([120] : List UInt8) 1])) (ai (nc_ok TState.D ([TState.mk ([115] : List UInt8) false false])) (ai (nc_ok TArg.D ([TArg.mk 2 0 (TValue.mk 0 0 ([] : List UInt8) false)])) (ai (law22_number_ok 3 r1 h1) (ai (nc_ok TArg.D [TArg.mk 1 0 r1]) (ai (nc_ok TSymbol.D ([TSymbol.mk 0 ([TArg.mk 2 0 (TValue.mk 0 0 ([] : List UInt8) false)]), TSymbol.mk 0 [TArg.mk 1 0 r1]])) (ai (law22_number_ok 3 r2 h2) (ai (nc_ok TSlot.D [TSlot.mk 0 r2]) (ai (joint_Sets_ok (TQea.mk ([113] : List UInt8) ([TDecl.mk ([97] : List UInt8) [1]]) ([TQuant.mk false ([120] : List UInt8) 1]) ([] : List TFree) ([TState.mk ([115] : List UInt8) false false]) 0 ([TSymbol.mk 0 ([TArg.mk 2 0 (TValue.mk 0 0 ([] : List UInt8) false)]), TSymbol.mk 0 [TArg.mk 1 0 r1]]) ([] : List TNode) ([] : List TTrans)) [TSlot.mk 0 r2] r3 h3) (ai (law22_number_ok 4 r4 h4) (ai (nc_ok TSlot.D [TSlot.mk 0 r4]) (ai (joint_Sets_ok (TQea.mk ([113] : List UInt8) ([TDecl.mk ([97] : List UInt8) [1]]) ([TQuant.mk false ([120] : List UInt8) 1]) ([] : List TFree) ([TState.mk ([115] : List UInt8) false false]) 0 ([TSymbol.mk 0 ([TArg.mk 2 0 (TValue.mk 0 0 ([] : List UInt8) false)]), TSymbol.mk 0 [TArg.mk 1 0 r1]]) ([] : List TNode) ([] : List TTrans)) [TSlot.mk 0 r4] r5 h5) (ai (joint_Small_ok (TQea.mk ([113] : List UInt8) ([TDecl.mk ([97] : List UInt8) [1]]) ([TQuant.mk false ([120] : List UInt8) 1]) ([] : List TFree) ([TState.mk ([115] : List UInt8) false false]) 0 ([TSymbol.mk 0 ([TArg.mk 2 0 (TValue.mk 0 0 ([] : List UInt8) false)]), TSymbol.mk 0 [TArg.mk 1 0 r1]]) ([] : List TNode) ([] : List TTrans)) true h6) (ai (len_map (D.i .u64) r3) (ai h8 (ai (elem_map (D.i .u64) h9) (ai h10 (ti)))))))))))))))))))) (by kernel_rfl)
   ·
    obtain rfl := si h
    exact runF_call mixed [(14, .ret (.d (TValue.D r1))), (21, .ret (.d (TValue.D r2))), (24, .ret (.d ((D.l (D.i .u64)) r3))), (26, .ret (.d (TValue.D r4))), (29, .ret (.d ((D.l (D.i .u64)) r5))), (31, .ret (.d (D.b true))), (34, .int (r3.length : Int)), (37, .bit false)] [] [] (ai (nc_ok (D.i .i64) [1]) (ai (nc_ok TDecl.D ([TDecl.mk ([97] : List UInt8) [1]])) (ai (nc_ok TQuant.D ([TQuant.mk false ([120] : List UInt8) 1])) (ai (nc_ok TState.D ([TState.mk ([115] : List UInt8) false false])) (ai (nc_ok TArg.D ([TArg.mk 2 0 (TValue.mk 0 0 ([] : List UInt8) false)])) (ai (law22_number_ok 3 r1 h1) (ai (nc_ok TArg.D [TArg.mk 1 0 r1]) (ai (nc_ok TSymbol.D ([TSymbol.mk 0 ([TArg.mk 2 0 (TValue.mk 0 0 ([] : List UInt8) false)]), TSymbol.mk 0 [TArg.mk 1 0 r1]])) (ai (law22_number_ok 3 r2 h2) (ai (nc_ok TSlot.D [TSlot.mk 0 r2]) (ai (joint_Sets_ok (TQea.mk ([113] : List UInt8) ([TDecl.mk ([97] : List UInt8) [1]]) ([TQuant.mk false ([120] : List UInt8) 1]) ([] : List TFree) ([TState.mk ([115] : List UInt8) false false]) 0 ([TSymbol.mk 0 ([TArg.mk 2 0 (TValue.mk 0 0 ([] : List UInt8) false)]), TSymbol.mk 0 [TArg.mk 1 0 r1]]) ([] : List TNode) ([] : List TTrans)) [TSlot.mk 0 r2] r3 h3) (ai (law22_number_ok 4 r4 h4) (ai (nc_ok TSlot.D [TSlot.mk 0 r4]) (ai (joint_Sets_ok (TQea.mk ([113] : List UInt8) ([TDecl.mk ([97] : List UInt8) [1]]) ([TQuant.mk false ([120] : List UInt8) 1]) ([] : List TFree) ([TState.mk ([115] : List UInt8) false false]) 0 ([TSymbol.mk 0 ([TArg.mk 2 0 (TValue.mk 0 0 ([] : List UInt8) false)]), TSymbol.mk 0 [TArg.mk 1 0 r1]]) ([] : List TNode) ([] : List TTrans)) [TSlot.mk 0 r4] r5 h5) (ai (joint_Small_ok (TQea.mk ([113] : List UInt8) ([TDecl.mk ([97] : List UInt8) [1]]) ([TQuant.mk false ([120] : List UInt8) 1]) ([] : List TFree) ([TState.mk ([115] : List UInt8) false false]) 0 ([TSymbol.mk 0 ([TArg.mk 2 0 (TValue.mk 0 0 ([] : List UInt8) false)]), TSymbol.mk 0 [TArg.mk 1 0 r1]]) ([] : List TNode) ([] : List TTrans)) true h6) (ai (len_map (D.i .u64) r3) (ai h8 (ti)))))))))))))))))) (by kernel_rfl)
  | false =>
   replace h := iteF h
   obtain rfl := si h
   exact runF_call mixed [(14, .ret (.d (TValue.D r1))), (21, .ret (.d (TValue.D r2))), (24, .ret (.d ((D.l (D.i .u64)) r3))), (26, .ret (.d (TValue.D r4))), (29, .ret (.d ((D.l (D.i .u64)) r5))), (31, .ret (.d (D.b false)))] [] [] (ai (nc_ok (D.i .i64) [1]) (ai (nc_ok TDecl.D ([TDecl.mk ([97] : List UInt8) [1]])) (ai (nc_ok TQuant.D ([TQuant.mk false ([120] : List UInt8) 1])) (ai (nc_ok TState.D ([TState.mk ([115] : List UInt8) false false])) (ai (nc_ok TArg.D ([TArg.mk 2 0 (TValue.mk 0 0 ([] : List UInt8) false)])) (ai (law22_number_ok 3 r1 h1) (ai (nc_ok TArg.D [TArg.mk 1 0 r1]) (ai (nc_ok TSymbol.D ([TSymbol.mk 0 ([TArg.mk 2 0 (TValue.mk 0 0 ([] : List UInt8) false)]), TSymbol.mk 0 [TArg.mk 1 0 r1]])) (ai (law22_number_ok 3 r2 h2) (ai (nc_ok TSlot.D [TSlot.mk 0 r2]) (ai (joint_Sets_ok (TQea.mk ([113] : List UInt8) ([TDecl.mk ([97] : List UInt8) [1]]) ([TQuant.mk false ([120] : List UInt8) 1]) ([] : List TFree) ([TState.mk ([115] : List UInt8) false false]) 0 ([TSymbol.mk 0 ([TArg.mk 2 0 (TValue.mk 0 0 ([] : List UInt8) false)]), TSymbol.mk 0 [TArg.mk 1 0 r1]]) ([] : List TNode) ([] : List TTrans)) [TSlot.mk 0 r2] r3 h3) (ai (law22_number_ok 4 r4 h4) (ai (nc_ok TSlot.D [TSlot.mk 0 r4]) (ai (joint_Sets_ok (TQea.mk ([113] : List UInt8) ([TDecl.mk ([97] : List UInt8) [1]]) ([TQuant.mk false ([120] : List UInt8) 1]) ([] : List TFree) ([TState.mk ([115] : List UInt8) false false]) 0 ([TSymbol.mk 0 ([TArg.mk 2 0 (TValue.mk 0 0 ([] : List UInt8) false)]), TSymbol.mk 0 [TArg.mk 1 0 r1]]) ([] : List TNode) ([] : List TTrans)) [TSlot.mk 0 r4] r5 h5) (ai (joint_Small_ok (TQea.mk ([113] : List UInt8) ([TDecl.mk ([97] : List UInt8) [1]]) ([TQuant.mk false ([120] : List UInt8) 1]) ([] : List TFree) ([TState.mk ([115] : List UInt8) false false]) 0 ([TSymbol.mk 0 ([TArg.mk 2 0 (TValue.mk 0 0 ([] : List UInt8) false)]), TSymbol.mk 0 [TArg.mk 1 0 r1]]) ([] : List TNode) ([] : List TTrans)) false h6) (ti)))))))))))))))) (by kernel_rfl)
theorem ref07_Words_ok (r : List (List UInt8)) (h : ref07_Words = some r) : ACall Try.prog 50 [] [] (.d ((D.l D.s) r)) [] := by
  unfold ref07_Words at h
  obtain rfl := si h
  exact runF_call mixed [] [] [] (ai (nc_ok D.s ([([97, 99, 99, 101, 112, 116] : List UInt8), ([97, 108, 115, 111] : List UInt8), ([97, 110, 100] : List UInt8), ([98, 111, 111, 108] : List UInt8), ([100, 111] : List UInt8), ([101, 118, 101, 110, 116] : List UInt8), ([101, 120, 105, 115, 116, 115] : List UInt8), ([102, 97, 108, 115, 101] : List UInt8), ([102, 111, 114, 97, 108, 108] : List UInt8), ([102, 114, 101, 101] : List UInt8), ([105, 102] : List UInt8), ([105, 110, 116] : List UInt8), ([110, 101, 120, 116] : List UInt8), ([110, 111, 116] : List UInt8), ([111, 110] : List UInt8), ([111, 114] : List UInt8), ([113, 101, 97] : List UInt8), ([115, 107, 105, 112] : List UInt8), ([115, 116, 97, 114, 116] : List UInt8), ([115, 116, 114, 105, 110, 103] : List UInt8), ([116, 111] : List UInt8), ([116, 114, 117, 101] : List UInt8)])) (ti)) (by kernel_rfl)
def ref07_Spelt_l1_I (s0 : List UInt8) (s3 : Int) : St := ⟨sp 55 0 [(0, .d (D.s s0)), (3, .d ((D.i .i64) s3))], [], []⟩
def ref07_Spelt_l1_O (s0 : List UInt8) (o : Unit ⊕ Unit) : Ex × St := match o with
  | .inl o => (.exit 0, ⟨sp 55 0 [], [], []⟩)
  | .inr o => (.ret, ⟨sp 55 0 [(2, .d (D.b false))], [], []⟩)
theorem ref07_Spelt_l1_rnd (rd : Option Nat) (s0 : List UInt8) (s3 : Int) (o : (Int) ⊕ (Unit ⊕ Unit)) (h : ref07_Spelt_l1_s s0 s3 = some o) : Arr Try.prog rd (fbody Try.prog 51) (0 :: [0, 1, 0, 1, 1]) (ref07_Spelt_l1_I s0 s3) (rR (fun s : Int => ref07_Spelt_l1_I s0 s) (ref07_Spelt_l1_O s0) o).1 (rR (fun s : Int => ref07_Spelt_l1_I s0 s) (ref07_Spelt_l1_O s0) o).2 := by
  unfold ref07_Spelt_l1_s at h
  rcases iS h with ⟨h3, h⟩ | ⟨h3, h⟩
  ·
   obtain ⟨x1, h4, h⟩ := xS h
   rcases iS h with ⟨h5, h⟩ | ⟨h5, h⟩
   ·
    rcases iS h with ⟨h6, h⟩ | ⟨h6, h⟩
    ·
     obtain rfl := si h
     exact runB_arr mixed [(16, .int (s0.length : Int)), (17, .bit true), (22, .int x1.toNat), (25, .bit true), (29, .bit true)] [] [.live [0, 3], .keep []] (ai (len_str s0) (ai h3 (ai (byte_ok h4) (ai h5 (ai h6 (ti)))))) (by kernel_rfl)
    ·
     rcases iS h with ⟨h7, h⟩ | ⟨h7, h⟩
     ·
      rcases iS h with ⟨h8, h⟩ | ⟨h8, h⟩
      ·
       obtain rfl := si h
       exact runB_arr mixed [(16, .int (s0.length : Int)), (17, .bit true), (22, .int x1.toNat), (25, .bit true), (29, .bit false), (32, .bit true), (37, .bit true)] [] [.live [0, 3], .keep []] (ai (len_str s0) (ai h3 (ai (byte_ok h4) (ai h5 (ai h6 (ai h7 (ai h8 (ti)))))))) (by kernel_rfl)
      ·
       rcases iS h with ⟨h9, h⟩ | ⟨h9, h⟩
       ·
        rcases iS h with ⟨h10, h⟩ | ⟨h10, h⟩
        ·
         obtain rfl := si h
         exact runB_arr mixed [(16, .int (s0.length : Int)), (17, .bit true), (22, .int x1.toNat), (25, .bit true), (29, .bit false), (32, .bit true), (37, .bit false), (43, .bit true), (46, .bit true)] [] [.live [2], .keep []] (ai (len_str s0) (ai h3 (ai (byte_ok h4) (ai h5 (ai h6 (ai h7 (ai h8 (ai h9 (ai h10 (ti)))))))))) (by kernel_rfl)
        ·
         rcases iS h with ⟨h11, h⟩ | ⟨h11, h⟩
         ·
          obtain rfl := si h
          exact runB_arr mixed [(16, .int (s0.length : Int)), (17, .bit true), (22, .int x1.toNat), (25, .bit true), (29, .bit false), (32, .bit true), (37, .bit false), (43, .bit true), (46, .bit false), (50, .bit true)] [] [.live [2], .keep []] (ai (len_str s0) (ai h3 (ai (byte_ok h4) (ai h5 (ai h6 (ai h7 (ai h8 (ai h9 (ai h10 (ai h11 (ti))))))))))) (by kernel_rfl)
         ·
          rcases iS h with ⟨h12, h⟩ | ⟨h12, h⟩
          ·
           obtain rfl := si h
           exact runB_arr mixed [(16, .int (s0.length : Int)), (17, .bit true), (22, .int x1.toNat), (25, .bit true), (29, .bit false), (32, .bit true), (37, .bit false), (43, .bit true), (46, .bit false), (50, .bit false), (54, .bit true)] [] [.live [2], .keep []] (ai (len_str s0) (ai h3 (ai (byte_ok h4) (ai h5 (ai h6 (ai h7 (ai h8 (ai h9 (ai h10 (ai h11 (ai h12 (ti)))))))))))) (by kernel_rfl)
          ·
           obtain rfl := si h
           exact runB_arr mixed [(16, .int (s0.length : Int)), (17, .bit true), (22, .int x1.toNat), (25, .bit true), (29, .bit false), (32, .bit true), (37, .bit false), (43, .bit true), (46, .bit false), (50, .bit false), (54, .bit false)] [] [.live [0, 3], .keep []] (ai (len_str s0) (ai h3 (ai (byte_ok h4) (ai h5 (ai h6 (ai h7 (ai h8 (ai h9 (ai h10 (ai h11 (ai h12 (ti)))))))))))) (by kernel_rfl)
       ·
        obtain rfl := si h
        exact runB_arr mixed [(16, .int (s0.length : Int)), (17, .bit true), (22, .int x1.toNat), (25, .bit true), (29, .bit false), (32, .bit true), (37, .bit false), (43, .bit false)] [] [.live [0, 3], .keep []] (ai (len_str s0) (ai h3 (ai (byte_ok h4) (ai h5 (ai h6 (ai h7 (ai h8 (ai h9 (ti))))))))) (by kernel_rfl)
     ·
      rcases iS h with ⟨h13, h⟩ | ⟨h13, h⟩
      ·
       rcases iS h with ⟨h14, h⟩ | ⟨h14, h⟩
       ·
        obtain rfl := si h
        exact runB_arr mixed [(16, .int (s0.length : Int)), (17, .bit true), (22, .int x1.toNat), (25, .bit true), (29, .bit false), (32, .bit false), (43, .bit true), (46, .bit true)] [] [.live [2], .keep []] (ai (len_str s0) (ai h3 (ai (byte_ok h4) (ai h5 (ai h6 (ai h7 (ai h13 (ai h14 (ti))))))))) (by kernel_rfl)
       ·
        rcases iS h with ⟨h15, h⟩ | ⟨h15, h⟩
        ·
         obtain rfl := si h
         exact runB_arr mixed [(16, .int (s0.length : Int)), (17, .bit true), (22, .int x1.toNat), (25, .bit true), (29, .bit false), (32, .bit false), (43, .bit true), (46, .bit false), (50, .bit true)] [] [.live [2], .keep []] (ai (len_str s0) (ai h3 (ai (byte_ok h4) (ai h5 (ai h6 (ai h7 (ai h13 (ai h14 (ai h15 (ti)))))))))) (by kernel_rfl)
        ·
         rcases iS h with ⟨h16, h⟩ | ⟨h16, h⟩
         ·
          obtain rfl := si h
          exact runB_arr mixed [(16, .int (s0.length : Int)), (17, .bit true), (22, .int x1.toNat), (25, .bit true), (29, .bit false), (32, .bit false), (43, .bit true), (46, .bit false), (50, .bit false), (54, .bit true)] [] [.live [2], .keep []] (ai (len_str s0) (ai h3 (ai (byte_ok h4) (ai h5 (ai h6 (ai h7 (ai h13 (ai h14 (ai h15 (ai h16 (ti))))))))))) (by kernel_rfl)
         ·
          obtain rfl := si h
          exact runB_arr mixed [(16, .int (s0.length : Int)), (17, .bit true), (22, .int x1.toNat), (25, .bit true), (29, .bit false), (32, .bit false), (43, .bit true), (46, .bit false), (50, .bit false), (54, .bit false)] [] [.live [0, 3], .keep []] (ai (len_str s0) (ai h3 (ai (byte_ok h4) (ai h5 (ai h6 (ai h7 (ai h13 (ai h14 (ai h15 (ai h16 (ti))))))))))) (by kernel_rfl)
      ·
       obtain rfl := si h
       exact runB_arr mixed [(16, .int (s0.length : Int)), (17, .bit true), (22, .int x1.toNat), (25, .bit true), (29, .bit false), (32, .bit false), (43, .bit false)] [] [.live [0, 3], .keep []] (ai (len_str s0) (ai h3 (ai (byte_ok h4) (ai h5 (ai h6 (ai h7 (ai h13 (ti)))))))) (by kernel_rfl)
   ·
    rcases iS h with ⟨h17, h⟩ | ⟨h17, h⟩
    ·
     rcases iS h with ⟨h18, h⟩ | ⟨h18, h⟩
     ·
      obtain rfl := si h
      exact runB_arr mixed [(16, .int (s0.length : Int)), (17, .bit true), (22, .int x1.toNat), (25, .bit false), (32, .bit true), (37, .bit true)] [] [.live [0, 3], .keep []] (ai (len_str s0) (ai h3 (ai (byte_ok h4) (ai h5 (ai h17 (ai h18 (ti))))))) (by kernel_rfl)
     ·
      rcases iS h with ⟨h19, h⟩ | ⟨h19, h⟩
      ·
       rcases iS h with ⟨h20, h⟩ | ⟨h20, h⟩
       ·
        obtain rfl := si h
        exact runB_arr mixed [(16, .int (s0.length : Int)), (17, .bit true), (22, .int x1.toNat), (25, .bit false), (32, .bit true), (37, .bit false), (43, .bit true), (46, .bit true)] [] [.live [2], .keep []] (ai (len_str s0) (ai h3 (ai (byte_ok h4) (ai h5 (ai h17 (ai h18 (ai h19 (ai h20 (ti))))))))) (by kernel_rfl)
       ·
        rcases iS h with ⟨h21, h⟩ | ⟨h21, h⟩
        ·
         obtain rfl := si h
         exact runB_arr mixed [(16, .int (s0.length : Int)), (17, .bit true), (22, .int x1.toNat), (25, .bit false), (32, .bit true), (37, .bit false), (43, .bit true), (46, .bit false), (50, .bit true)] [] [.live [2], .keep []] (ai (len_str s0) (ai h3 (ai (byte_ok h4) (ai h5 (ai h17 (ai h18 (ai h19 (ai h20 (ai h21 (ti)))))))))) (by kernel_rfl)
        ·
         rcases iS h with ⟨h22, h⟩ | ⟨h22, h⟩
         ·
          obtain rfl := si h
          exact runB_arr mixed [(16, .int (s0.length : Int)), (17, .bit true), (22, .int x1.toNat), (25, .bit false), (32, .bit true), (37, .bit false), (43, .bit true), (46, .bit false), (50, .bit false), (54, .bit true)] [] [.live [2], .keep []] (ai (len_str s0) (ai h3 (ai (byte_ok h4) (ai h5 (ai h17 (ai h18 (ai h19 (ai h20 (ai h21 (ai h22 (ti))))))))))) (by kernel_rfl)
         ·
          obtain rfl := si h
          exact runB_arr mixed [(16, .int (s0.length : Int)), (17, .bit true), (22, .int x1.toNat), (25, .bit false), (32, .bit true), (37, .bit false), (43, .bit true), (46, .bit false), (50, .bit false), (54, .bit false)] [] [.live [0, 3], .keep []] (ai (len_str s0) (ai h3 (ai (byte_ok h4) (ai h5 (ai h17 (ai h18 (ai h19 (ai h20 (ai h21 (ai h22 (ti))))))))))) (by kernel_rfl)
      ·
       obtain rfl := si h
       exact runB_arr mixed [(16, .int (s0.length : Int)), (17, .bit true), (22, .int x1.toNat), (25, .bit false), (32, .bit true), (37, .bit false), (43, .bit false)] [] [.live [0, 3], .keep []] (ai (len_str s0) (ai h3 (ai (byte_ok h4) (ai h5 (ai h17 (ai h18 (ai h19 (ti)))))))) (by kernel_rfl)
    ·
     rcases iS h with ⟨h23, h⟩ | ⟨h23, h⟩
     ·
      rcases iS h with ⟨h24, h⟩ | ⟨h24, h⟩
      ·
       obtain rfl := si h
       exact runB_arr mixed [(16, .int (s0.length : Int)), (17, .bit true), (22, .int x1.toNat), (25, .bit false), (32, .bit false), (43, .bit true), (46, .bit true)] [] [.live [2], .keep []] (ai (len_str s0) (ai h3 (ai (byte_ok h4) (ai h5 (ai h17 (ai h23 (ai h24 (ti)))))))) (by kernel_rfl)
      ·
       rcases iS h with ⟨h25, h⟩ | ⟨h25, h⟩
       ·
        obtain rfl := si h
        exact runB_arr mixed [(16, .int (s0.length : Int)), (17, .bit true), (22, .int x1.toNat), (25, .bit false), (32, .bit false), (43, .bit true), (46, .bit false), (50, .bit true)] [] [.live [2], .keep []] (ai (len_str s0) (ai h3 (ai (byte_ok h4) (ai h5 (ai h17 (ai h23 (ai h24 (ai h25 (ti))))))))) (by kernel_rfl)
       ·
        rcases iS h with ⟨h26, h⟩ | ⟨h26, h⟩
        ·
         obtain rfl := si h
         exact runB_arr mixed [(16, .int (s0.length : Int)), (17, .bit true), (22, .int x1.toNat), (25, .bit false), (32, .bit false), (43, .bit true), (46, .bit false), (50, .bit false), (54, .bit true)] [] [.live [2], .keep []] (ai (len_str s0) (ai h3 (ai (byte_ok h4) (ai h5 (ai h17 (ai h23 (ai h24 (ai h25 (ai h26 (ti)))))))))) (by kernel_rfl)
        ·
         obtain rfl := si h
         exact runB_arr mixed [(16, .int (s0.length : Int)), (17, .bit true), (22, .int x1.toNat), (25, .bit false), (32, .bit false), (43, .bit true), (46, .bit false), (50, .bit false), (54, .bit false)] [] [.live [0, 3], .keep []] (ai (len_str s0) (ai h3 (ai (byte_ok h4) (ai h5 (ai h17 (ai h23 (ai h24 (ai h25 (ai h26 (ti)))))))))) (by kernel_rfl)
     ·
      obtain rfl := si h
      exact runB_arr mixed [(16, .int (s0.length : Int)), (17, .bit true), (22, .int x1.toNat), (25, .bit false), (32, .bit false), (43, .bit false)] [] [.live [0, 3], .keep []] (ai (len_str s0) (ai h3 (ai (byte_ok h4) (ai h5 (ai h17 (ai h23 (ti))))))) (by kernel_rfl)
  ·
   obtain rfl := si h
   exact runB_arr mixed [(16, .int (s0.length : Int)), (17, .bit false)] [] [.live [], .keep []] (ai (len_str s0) (ai h3 (ti))) (by kernel_rfl)
theorem ref07_Spelt_l1_ok (rd : Option Nat) (s0 : List UInt8) (s3 : Int) (t : Unit ⊕ Unit) (h : ref07_Spelt_l1 s0 s3 = some t) : LpOf Try.prog rd (fbody Try.prog 51) [0, 1, 0, 1, 1] (ref07_Spelt_l1_I s0 s3) ((ref07_Spelt_l1_O s0) t).1 ((ref07_Spelt_l1_O s0) t).2 :=
  loopE_lpR (fun s : Int => ref07_Spelt_l1_I s0 s) (ref07_Spelt_l1_O s0) (by kernel_rfl) (fun t => isN_ne (by rcases t with (_ | _) <;> rfl)) (fun s o h => ref07_Spelt_l1_rnd rd s0 s o h) (s := s3) (t := t) h
theorem ref07_Spelt_ok (a0 : List UInt8) (r : Bool) (h : ref07_Spelt a0 = some r) : ACall Try.prog 51 [.d (D.s a0)] [] (.d (D.b r)) [] := by
  unfold ref07_Spelt at h
  rcases iS h with ⟨h1, h⟩ | ⟨h1, h⟩
  ·
   obtain rfl := si h
   exact runF_call mixed [(7, .int (a0.length : Int)), (9, .bit true)] [] [] (ai (len_str a0) (ai h1 (ti))) (by kernel_rfl)
  ·
   rcases iS h with ⟨h2, h⟩ | ⟨h2, h⟩
   ·
    obtain rfl := si h
    exact runF_call mixed [(7, .int (a0.length : Int)), (9, .bit false), (11, .int (a0.length : Int)), (13, .bit true)] [] [] (ai (len_str a0) (ai h1 (ai (len_str a0) (ai h2 (ti))))) (by kernel_rfl)
   ·
    obtain ⟨o2, h27, h⟩ := bS h
    replace h := sumE_some h
    rcases h with ⟨o3, rfl, h⟩ | ⟨o4, rfl, h⟩
    ·
     obtain rfl := si h
     exact runF_call mixed [(7, .int (a0.length : Int)), (9, .bit false), (11, .int (a0.length : Int)), (13, .bit false)] [⟨[0, 1, 0, 1, 1], [.live [0, 3], .keep []], .exit 0, (ref07_Spelt_l1_O a0 (Sum.inl o3)).2⟩] [] (ai (len_str a0) (ai h1 (ai (len_str a0) (ai h2 (ai (ref07_Spelt_l1_ok none a0 0 (Sum.inl o3) h27) (ti)))))) (by kernel_rfl)
    ·
     obtain rfl := si h
     exact runF_call mixed [(7, .int (a0.length : Int)), (9, .bit false), (11, .int (a0.length : Int)), (13, .bit false)] [⟨[0, 1, 0, 1, 1], [.live [0, 3], .keep []], .ret, (ref07_Spelt_l1_O a0 (Sum.inr o4)).2⟩] [] (ai (len_str a0) (ai h1 (ai (len_str a0) (ai h2 (ai (ref07_Spelt_l1_ok none a0 0 (Sum.inr o4) h27) (ti)))))) (by kernel_rfl)
def ref07_Name_l1_I (s0 : List UInt8) (s3 : List (List UInt8)) (s4 : Int) : St := ⟨sp 24 0 [(0, .d (D.s s0)), (3, .d ((D.l D.s) s3)), (4, .d ((D.i .i64) s4))], [], []⟩
def ref07_Name_l1_O (s0 : List UInt8) (s3 : List (List UInt8)) (o : Unit ⊕ Unit) : Ex × St := match o with
  | .inl o => (.exit 0, ⟨sp 24 0 [(0, .d (D.s s0))], [], []⟩)
  | .inr o => (.ret, ⟨sp 24 0 [(2, .d (D.b false))], [], []⟩)
theorem ref07_Name_l1_rnd (rd : Option Nat) (s0 : List UInt8) (s3 : List (List UInt8)) (s4 : Int) (o : (Int) ⊕ (Unit ⊕ Unit)) (h : ref07_Name_l1_s s0 s3 s4 = some o) : Arr Try.prog rd (fbody Try.prog 31) (0 :: [0, 1, 0, 1, 1]) (ref07_Name_l1_I s0 s3 s4) (rR (fun s : Int => ref07_Name_l1_I s0 s3 s) (ref07_Name_l1_O s0 s3) o).1 (rR (fun s : Int => ref07_Name_l1_I s0 s3 s) (ref07_Name_l1_O s0 s3) o).2 := by
  unfold ref07_Name_l1_s at h
  rcases iS h with ⟨h2, h⟩ | ⟨h2, h⟩
  ·
   obtain ⟨x2, h3, h⟩ := xS h
   rcases iS h with ⟨h4, h⟩ | ⟨h4, h⟩
   ·
    obtain rfl := si h
    exact runB_arr mixed [(8, .int (s3.length : Int)), (9, .bit true), (14, .el (D.s x2)), (17, .bit true)] [] [.live [2], .keep []] (ai (len_map D.s s3) (ai h2 (ai (elem_map D.s h3) (ai h4 (ti))))) (by kernel_rfl)
   ·
    obtain rfl := si h
    exact runB_arr mixed [(8, .int (s3.length : Int)), (9, .bit true), (14, .el (D.s x2)), (17, .bit false)] [] [.live [0, 3, 4], .keep []] (ai (len_map D.s s3) (ai h2 (ai (elem_map D.s h3) (ai h4 (ti))))) (by kernel_rfl)
  ·
   obtain rfl := si h
   exact runB_arr mixed [(8, .int (s3.length : Int)), (9, .bit false)] [] [.live [0], .keep []] (ai (len_map D.s s3) (ai h2 (ti))) (by kernel_rfl)
theorem ref07_Name_l1_ok (rd : Option Nat) (s0 : List UInt8) (s3 : List (List UInt8)) (s4 : Int) (t : Unit ⊕ Unit) (h : ref07_Name_l1 s0 s3 s4 = some t) : LpOf Try.prog rd (fbody Try.prog 31) [0, 1, 0, 1, 1] (ref07_Name_l1_I s0 s3 s4) ((ref07_Name_l1_O s0 s3) t).1 ((ref07_Name_l1_O s0 s3) t).2 :=
  loopE_lpR (fun s : Int => ref07_Name_l1_I s0 s3 s) (ref07_Name_l1_O s0 s3) (by kernel_rfl) (fun t => isN_ne (by rcases t with (_ | _) <;> rfl)) (fun s o h => ref07_Name_l1_rnd rd s0 s3 s o h) (s := s4) (t := t) h
theorem ref07_Name_ok (a0 : List UInt8) (r : Bool) (h : ref07_Name a0 = some r) : ACall Try.prog 31 [.d (D.s a0)] [] (.d (D.b r)) [] := by
  unfold ref07_Name at h
  obtain ⟨r1, h1, h⟩ := bS h
  obtain ⟨o3, h5, h⟩ := bS h
  replace h := sumE_some h
  rcases h with ⟨o4, rfl, h⟩ | ⟨o5, rfl, h⟩
  ·
   obtain ⟨r6, h6, h⟩ := bS h
   cases r6 with
   | true =>
    replace h := iteT h
    obtain rfl := si h
    exact runF_call mixed [(5, .ret (.d ((D.l D.s) r1))), (19, .ret (.d (D.b true)))] [⟨[0, 1, 0, 1, 1], [.live [0, 3, 4], .keep []], .exit 0, (ref07_Name_l1_O a0 r1 (Sum.inl o4)).2⟩] [] (ai (ref07_Words_ok r1 h1) (ai (ref07_Name_l1_ok none a0 r1 0 (Sum.inl o4) h5) (ai (ref07_Spelt_ok a0 true h6) (ti)))) (by kernel_rfl)
   | false =>
    replace h := iteF h
    obtain rfl := si h
    exact runF_call mixed [(5, .ret (.d ((D.l D.s) r1))), (19, .ret (.d (D.b false)))] [⟨[0, 1, 0, 1, 1], [.live [0, 3, 4], .keep []], .exit 0, (ref07_Name_l1_O a0 r1 (Sum.inl o4)).2⟩] [] (ai (ref07_Words_ok r1 h1) (ai (ref07_Name_l1_ok none a0 r1 0 (Sum.inl o4) h5) (ai (ref07_Spelt_ok a0 false h6) (ti)))) (by kernel_rfl)
  ·
   obtain rfl := si h
   exact runF_call mixed [(5, .ret (.d ((D.l D.s) r1)))] [⟨[0, 1, 0, 1, 1], [.live [0, 3, 4], .keep []], .ret, (ref07_Name_l1_O a0 r1 (Sum.inr o5)).2⟩] [] (ai (ref07_Words_ok r1 h1) (ai (ref07_Name_l1_ok none a0 r1 0 (Sum.inr o5) h5) (ti))) (by kernel_rfl)
def ref07_Find_l1_I (s0 : List TDecl) (s1 : List UInt8) (s5 : Int) : St := ⟨sp 20 0 [(0, .d ((D.l TDecl.D) s0)), (1, .d (D.s s1)), (5, .d ((D.i .i64) s5))], [], []⟩
def ref07_Find_l1_O (s0 : List TDecl) (s1 : List UInt8) (o : Unit ⊕ Int) : Ex × St := match o with
  | .inl o => (.exit 0, ⟨sp 20 0 [], [], []⟩)
  | .inr o => (.ret, ⟨sp 20 0 [(4, .d ((D.i .i64) o))], [], []⟩)
theorem ref07_Find_l1_rnd (rd : Option Nat) (s0 : List TDecl) (s1 : List UInt8) (s5 : Int) (o : (Int) ⊕ (Unit ⊕ Int)) (h : ref07_Find_l1_s s0 s1 s5 = some o) : Arr Try.prog rd (fbody Try.prog 32) (0 :: [0, 1, 0, 1]) (ref07_Find_l1_I s0 s1 s5) (rR (fun s : Int => ref07_Find_l1_I s0 s1 s) (ref07_Find_l1_O s0 s1) o).1 (rR (fun s : Int => ref07_Find_l1_I s0 s1 s) (ref07_Find_l1_O s0 s1) o).2 := by
  unfold ref07_Find_l1_s at h
  rcases iS h with ⟨h1, h⟩ | ⟨h1, h⟩
  ·
   obtain ⟨x1, h2, h⟩ := xS h
   rcases iS h with ⟨h3, h⟩ | ⟨h3, h⟩
   ·
    obtain rfl := si h
    exact runB_arr mixed [(8, .int (s0.length : Int)), (9, .bit true), (14, .el (TDecl.D x1)), (18, .bit true)] [] [.live [4], .keep []] (ai (len_map TDecl.D s0) (ai h1 (ai (elem_map TDecl.D h2) (ai h3 (ti))))) (by kernel_rfl)
   ·
    obtain rfl := si h
    exact runB_arr mixed [(8, .int (s0.length : Int)), (9, .bit true), (14, .el (TDecl.D x1)), (18, .bit false)] [] [.live [0, 1, 5], .keep []] (ai (len_map TDecl.D s0) (ai h1 (ai (elem_map TDecl.D h2) (ai h3 (ti))))) (by kernel_rfl)
  ·
   obtain rfl := si h
   exact runB_arr mixed [(8, .int (s0.length : Int)), (9, .bit false)] [] [.live [], .keep []] (ai (len_map TDecl.D s0) (ai h1 (ti))) (by kernel_rfl)
theorem ref07_Find_l1_ok (rd : Option Nat) (s0 : List TDecl) (s1 : List UInt8) (s5 : Int) (t : Unit ⊕ Int) (h : ref07_Find_l1 s0 s1 s5 = some t) : LpOf Try.prog rd (fbody Try.prog 32) [0, 1, 0, 1] (ref07_Find_l1_I s0 s1 s5) ((ref07_Find_l1_O s0 s1) t).1 ((ref07_Find_l1_O s0 s1) t).2 :=
  loopE_lpR (fun s : Int => ref07_Find_l1_I s0 s1 s) (ref07_Find_l1_O s0 s1) (by kernel_rfl) (fun t => isN_ne (by rcases t with (_ | _) <;> rfl)) (fun s o h => ref07_Find_l1_rnd rd s0 s1 s o h) (s := s5) (t := t) h
theorem ref07_Find_ok (a0 : List TDecl) (a1 : List UInt8) (r : Int) (h : ref07_Find a0 a1 = some r) : ACall Try.prog 32 [.d ((D.l TDecl.D) a0), .d (D.s a1)] [] (.d ((D.i .i64) r)) [] := by
  unfold ref07_Find at h
  obtain ⟨o2, h4, h⟩ := bS h
  replace h := sumE_some h
  rcases h with ⟨o3, rfl, h⟩ | ⟨o4, rfl, h⟩
  ·
   obtain rfl := si h
   exact runF_call mixed [] [⟨[0, 1, 0, 1], [.live [0, 1, 5], .keep []], .exit 0, (ref07_Find_l1_O a0 a1 (Sum.inl o3)).2⟩] [] (ai (ref07_Find_l1_ok none a0 a1 0 (Sum.inl o3) h4) (ti)) (by kernel_rfl)
  ·
   obtain rfl := si h
   exact runF_call mixed [] [⟨[0, 1, 0, 1], [.live [0, 1, 5], .keep []], .ret, (ref07_Find_l1_O a0 a1 (Sum.inr o4)).2⟩] [] (ai (ref07_Find_l1_ok none a0 a1 0 (Sum.inr o4) h4) (ti)) (by kernel_rfl)
def ref07_Check_l2_I (s0 : List TDecl) (s4 : Int) (s5 : Int) : St := ⟨sp 72 0 [(0, .d ((D.l TDecl.D) s0)), (4, .d ((D.i .i64) s4)), (5, .d ((D.i .i64) s5))], [], []⟩
def ref07_Check_l2_O (s0 : List TDecl) (s4 : Int) (o : Unit ⊕ Unit) : Ex × St := match o with
  | .inl o => (.exit 2, ⟨sp 72 0 [(0, .d ((D.l TDecl.D) s0)), (4, .d ((D.i .i64) s4))], [], []⟩)
  | .inr o => (.ret, ⟨sp 72 0 [(2, .d ((D.i .i64) 8)), (3, .d ((D.i .i64) s4))], [], []⟩)
end Go.Ac
