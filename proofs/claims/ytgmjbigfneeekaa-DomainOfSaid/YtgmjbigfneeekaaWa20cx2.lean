/- Own work, printed: the functions compute these. -/
import Derived.Test.YtgmjbigfneeekaaWa20cx1
set_option linter.unusedVariables false
set_option linter.unusedSimpArgs false
set_option linter.unusedVariables false
set_option linter.unusedSimpArgs false
namespace Go.Ac
open Go.Proofs
theorem ref13_Right_l1_rnd (rd : Option Nat) (w1 : TQea) (s5 : Int) (s6 : Int) (o : (Int × Int) ⊕ (Int ⊕ Unit)) (h : ref13_Right_l1_s w1 s5 s6 = some o) : Arr Try.prog rd (fbody Try.prog 38) (0 :: [0, 1, 0, 1, 1, 1, 1]) (ref13_Right_l1_I w1 s5 s6) (rR (fun s : Int × Int => ref13_Right_l1_I w1 s.1 s.2) (ref13_Right_l1_O w1) o).1 (rR (fun s : Int × Int => ref13_Right_l1_I w1 s.1 s.2) (ref13_Right_l1_O w1) o).2 := by
  unfold ref13_Right_l1_s at h
  rcases iS h with ⟨h13, h⟩ | ⟨h13, h⟩
  ·
   obtain ⟨x3, h14, h⟩ := xS h
   obtain ⟨r4, h15, h⟩ := bS h
   rcases iS h with ⟨h16, h⟩ | ⟨h16, h⟩
   ·
    obtain rfl := si h
    exact runB_arr mixed [(74, .int (w1.trans.length : Int)), (75, .bit true), (83, .el (TTrans.D x3)), (86, .ret (.tup [.d ((D.i .i64) r4.1), .d (D.b r4.2)])), (90, .bit true)] [] [.live [2], .keep []] (ai (len_map TTrans.D w1.trans) (ai h13 (ai (elem_map TTrans.D h14) (ai (ref13_trans_ok w1 x3 s5 r4 h15) (ai h16 (ti)))))) (by kernel_rfl)
   ·
    obtain rfl := si h
    exact runB_arr mixed [(74, .int (w1.trans.length : Int)), (75, .bit true), (83, .el (TTrans.D x3)), (86, .ret (.tup [.d ((D.i .i64) r4.1), .d (D.b r4.2)])), (90, .bit false)] [] [.live [1, 5, 6], .keep [1]] (ai (len_map TTrans.D w1.trans) (ai h13 (ai (elem_map TTrans.D h14) (ai (ref13_trans_ok w1 x3 s5 r4 h15) (ai h16 (ti)))))) (by kernel_rfl)
  ·
   obtain rfl := si h
   exact runB_arr mixed [(74, .int (w1.trans.length : Int)), (75, .bit false)] [] [.live [1, 5], .keep [1]] (ai (len_map TTrans.D w1.trans) (ai h13 (ti))) (by kernel_rfl)
theorem ref13_Right_l1_ok (rd : Option Nat) (w1 : TQea) (s5 : Int) (s6 : Int) (t : Int ⊕ Unit) (h : ref13_Right_l1 w1 s5 s6 = some t) : LpOf Try.prog rd (fbody Try.prog 38) [0, 1, 0, 1, 1, 1, 1] (ref13_Right_l1_I w1 s5 s6) ((ref13_Right_l1_O w1) t).1 ((ref13_Right_l1_O w1) t).2 :=
  loopE_lpR (fun s : Int × Int => ref13_Right_l1_I w1 s.1 s.2) (ref13_Right_l1_O w1) (by kernel_rfl) (fun t => isN_ne (by rcases t with (_ | _) <;> rfl)) (fun s o h => ref13_Right_l1_rnd rd w1 s.1 s.2 o h) (s := (s5, s6)) (t := t) h
theorem ref13_Right_ok (a0 : TQea) (r : Bool) (h : ref13_Right a0 = some r) : ACall Try.prog 38 [.d (TQea.D a0)] [] (.d (D.b r)) [] := by
  unfold ref13_Right at h
  obtain ⟨r1, h1, h⟩ := bS h
  rcases iS h with ⟨h2, h⟩ | ⟨h2, h⟩
  ·
   obtain rfl := si h
   exact runF_call mixed [(12, .ret (.tup [.d ((D.i .i64) r1.1), .d ((D.i .i64) r1.2)])), (17, .bit true)] [] [] (ai (ref07_Check_ok a0.decls r1 h1) (ai h2 (ti))) (by kernel_rfl)
  ·
   rcases iS h with ⟨h3, h⟩ | ⟨h3, h⟩
   ·
    obtain rfl := si h
    exact runF_call mixed [(12, .ret (.tup [.d ((D.i .i64) r1.1), .d ((D.i .i64) r1.2)])), (17, .bit false), (20, .int (a0.quants.length : Int)), (23, .bit true)] [] [] (ai (ref07_Check_ok a0.decls r1 h1) (ai h2 (ai (len_map TQuant.D a0.quants) (ai h3 (ti))))) (by kernel_rfl)
   ·
    rcases iS h with ⟨h4, h⟩ | ⟨h4, h⟩
    ·
     obtain rfl := si h
     exact runF_call mixed [(12, .ret (.tup [.d ((D.i .i64) r1.1), .d ((D.i .i64) r1.2)])), (17, .bit false), (20, .int (a0.quants.length : Int)), (23, .bit false), (26, .int (a0.frees.length : Int)), (29, .bit true)] [] [] (ai (ref07_Check_ok a0.decls r1 h1) (ai h2 (ai (len_map TQuant.D a0.quants) (ai h3 (ai (len_map TFree.D a0.frees) (ai h4 (ti))))))) (by kernel_rfl)
    ·
     rcases iS h with ⟨h5, h⟩ | ⟨h5, h⟩
     ·
      obtain rfl := si h
      exact runF_call mixed [(12, .ret (.tup [.d ((D.i .i64) r1.1), .d ((D.i .i64) r1.2)])), (17, .bit false), (20, .int (a0.quants.length : Int)), (23, .bit false), (26, .int (a0.frees.length : Int)), (29, .bit false), (32, .int (a0.states.length : Int)), (35, .bit true)] [] [] (ai (ref07_Check_ok a0.decls r1 h1) (ai h2 (ai (len_map TQuant.D a0.quants) (ai h3 (ai (len_map TFree.D a0.frees) (ai h4 (ai (len_map TState.D a0.states) (ai h5 (ti))))))))) (by kernel_rfl)
     ·
      rcases iS h with ⟨h6, h⟩ | ⟨h6, h⟩
      ·
       obtain rfl := si h
       exact runF_call mixed [(12, .ret (.tup [.d ((D.i .i64) r1.1), .d ((D.i .i64) r1.2)])), (17, .bit false), (20, .int (a0.quants.length : Int)), (23, .bit false), (26, .int (a0.frees.length : Int)), (29, .bit false), (32, .int (a0.states.length : Int)), (35, .bit false), (38, .int (a0.symbols.length : Int)), (41, .bit true)] [] [] (ai (ref07_Check_ok a0.decls r1 h1) (ai h2 (ai (len_map TQuant.D a0.quants) (ai h3 (ai (len_map TFree.D a0.frees) (ai h4 (ai (len_map TState.D a0.states) (ai h5 (ai (len_map TSymbol.D a0.symbols) (ai h6 (ti))))))))))) (by kernel_rfl)
      ·
       rcases iS h with ⟨h7, h⟩ | ⟨h7, h⟩
       ·
        obtain rfl := si h
        exact runF_call mixed [(12, .ret (.tup [.d ((D.i .i64) r1.1), .d ((D.i .i64) r1.2)])), (17, .bit false), (20, .int (a0.quants.length : Int)), (23, .bit false), (26, .int (a0.frees.length : Int)), (29, .bit false), (32, .int (a0.states.length : Int)), (35, .bit false), (38, .int (a0.symbols.length : Int)), (41, .bit false), (44, .int (a0.nodes.length : Int)), (47, .bit true)] [] [] (ai (ref07_Check_ok a0.decls r1 h1) (ai h2 (ai (len_map TQuant.D a0.quants) (ai h3 (ai (len_map TFree.D a0.frees) (ai h4 (ai (len_map TState.D a0.states) (ai h5 (ai (len_map TSymbol.D a0.symbols) (ai h6 (ai (len_map TNode.D a0.nodes) (ai h7 (ti))))))))))))) (by kernel_rfl)
       ·
        rcases iS h with ⟨h8, h⟩ | ⟨h8, h⟩
        ·
         obtain rfl := si h
         exact runF_call mixed [(12, .ret (.tup [.d ((D.i .i64) r1.1), .d ((D.i .i64) r1.2)])), (17, .bit false), (20, .int (a0.quants.length : Int)), (23, .bit false), (26, .int (a0.frees.length : Int)), (29, .bit false), (32, .int (a0.states.length : Int)), (35, .bit false), (38, .int (a0.symbols.length : Int)), (41, .bit false), (44, .int (a0.nodes.length : Int)), (47, .bit false), (50, .int (a0.trans.length : Int)), (53, .bit true)] [] [] (ai (ref07_Check_ok a0.decls r1 h1) (ai h2 (ai (len_map TQuant.D a0.quants) (ai h3 (ai (len_map TFree.D a0.frees) (ai h4 (ai (len_map TState.D a0.states) (ai h5 (ai (len_map TSymbol.D a0.symbols) (ai h6 (ai (len_map TNode.D a0.nodes) (ai h7 (ai (len_map TTrans.D a0.trans) (ai h8 (ti))))))))))))))) (by kernel_rfl)
        ·
         rcases iS h with ⟨h9, h⟩ | ⟨h9, h⟩
         ·
          obtain rfl := si h
          exact runF_call mixed [(12, .ret (.tup [.d ((D.i .i64) r1.1), .d ((D.i .i64) r1.2)])), (17, .bit false), (20, .int (a0.quants.length : Int)), (23, .bit false), (26, .int (a0.frees.length : Int)), (29, .bit false), (32, .int (a0.states.length : Int)), (35, .bit false), (38, .int (a0.symbols.length : Int)), (41, .bit false), (44, .int (a0.nodes.length : Int)), (47, .bit false), (50, .int (a0.trans.length : Int)), (53, .bit false), (58, .bit true)] [] [] (ai (ref07_Check_ok a0.decls r1 h1) (ai h2 (ai (len_map TQuant.D a0.quants) (ai h3 (ai (len_map TFree.D a0.frees) (ai h4 (ai (len_map TState.D a0.states) (ai h5 (ai (len_map TSymbol.D a0.symbols) (ai h6 (ai (len_map TNode.D a0.nodes) (ai h7 (ai (len_map TTrans.D a0.trans) (ai h8 (ai h9 (ti)))))))))))))))) (by kernel_rfl)
         ·
          rcases iS h with ⟨h10, h⟩ | ⟨h10, h⟩
          ·
           obtain rfl := si h
           exact runF_call mixed [(12, .ret (.tup [.d ((D.i .i64) r1.1), .d ((D.i .i64) r1.2)])), (17, .bit false), (20, .int (a0.quants.length : Int)), (23, .bit false), (26, .int (a0.frees.length : Int)), (29, .bit false), (32, .int (a0.states.length : Int)), (35, .bit false), (38, .int (a0.symbols.length : Int)), (41, .bit false), (44, .int (a0.nodes.length : Int)), (47, .bit false), (50, .int (a0.trans.length : Int)), (53, .bit false), (58, .bit false), (63, .int (a0.states.length : Int)), (66, .bit true)] [] [] (ai (ref07_Check_ok a0.decls r1 h1) (ai h2 (ai (len_map TQuant.D a0.quants) (ai h3 (ai (len_map TFree.D a0.frees) (ai h4 (ai (len_map TState.D a0.states) (ai h5 (ai (len_map TSymbol.D a0.symbols) (ai h6 (ai (len_map TNode.D a0.nodes) (ai h7 (ai (len_map TTrans.D a0.trans) (ai h8 (ai h9 (ai (len_map TState.D a0.states) (ai h10 (ti)))))))))))))))))) (by kernel_rfl)
          ·
           obtain ⟨r2, h11, h⟩ := bS h
           rcases iS h with ⟨h12, h⟩ | ⟨h12, h⟩
           ·
            obtain rfl := si h
            exact runF_call mixed [(12, .ret (.tup [.d ((D.i .i64) r1.1), .d ((D.i .i64) r1.2)])), (17, .bit false), (20, .int (a0.quants.length : Int)), (23, .bit false), (26, .int (a0.frees.length : Int)), (29, .bit false), (32, .int (a0.states.length : Int)), (35, .bit false), (38, .int (a0.symbols.length : Int)), (41, .bit false), (44, .int (a0.nodes.length : Int)), (47, .bit false), (50, .int (a0.trans.length : Int)), (53, .bit false), (58, .bit false), (63, .int (a0.states.length : Int)), (66, .bit false), (68, .ret (.d (D.b r2))), (70, .bit true)] [] [] (ai (ref07_Check_ok a0.decls r1 h1) (ai h2 (ai (len_map TQuant.D a0.quants) (ai h3 (ai (len_map TFree.D a0.frees) (ai h4 (ai (len_map TState.D a0.states) (ai h5 (ai (len_map TSymbol.D a0.symbols) (ai h6 (ai (len_map TNode.D a0.nodes) (ai h7 (ai (len_map TTrans.D a0.trans) (ai h8 (ai h9 (ai (len_map TState.D a0.states) (ai h10 (ai (ref13_names_ok a0 r2 h11) (ai h12 (ti)))))))))))))))))))) (by kernel_rfl)
           ·
            obtain ⟨o5, h17, h⟩ := bS h
            replace h := sumE_some h
            rcases h with ⟨o6, rfl, h⟩ | ⟨o7, rfl, h⟩
            ·
             rcases iS h with ⟨h18, h⟩ | ⟨h18, h⟩
             ·
              obtain ⟨r8, h19, h⟩ := bS h
              obtain rfl := si h
              exact runF_call mixed [(12, .ret (.tup [.d ((D.i .i64) r1.1), .d ((D.i .i64) r1.2)])), (17, .bit false), (20, .int (a0.quants.length : Int)), (23, .bit false), (26, .int (a0.frees.length : Int)), (29, .bit false), (32, .int (a0.states.length : Int)), (35, .bit false), (38, .int (a0.symbols.length : Int)), (41, .bit false), (44, .int (a0.nodes.length : Int)), (47, .bit false), (50, .int (a0.trans.length : Int)), (53, .bit false), (58, .bit false), (63, .int (a0.states.length : Int)), (66, .bit false), (68, .ret (.d (D.b r2))), (70, .bit false), (95, .int (a0.nodes.length : Int)), (97, .bit true), (99, .ret (.d (D.b r8)))] [⟨[0, 1, 0, 1, 1, 1, 1], [.live [1, 5, 6], .keep [1]], .exit 0, (ref13_Right_l1_O a0 (Sum.inl o6)).2⟩] [] (ai (ref07_Check_ok a0.decls r1 h1) (ai h2 (ai (len_map TQuant.D a0.quants) (ai h3 (ai (len_map TFree.D a0.frees) (ai h4 (ai (len_map TState.D a0.states) (ai h5 (ai (len_map TSymbol.D a0.symbols) (ai h6 (ai (len_map TNode.D a0.nodes) (ai h7 (ai (len_map TTrans.D a0.trans) (ai h8 (ai h9 (ai (len_map TState.D a0.states) (ai h10 (ai (ref13_names_ok a0 r2 h11) (ai h12 (ai (ref13_Right_l1_ok none a0 0 0 (Sum.inl o6) h17) (ai (len_map TNode.D a0.nodes) (ai h18 (ai (ref13_symbols_ok a0 r8 h19) (ti)))))))))))))))))))))))) (by kernel_rfl)
             ·
              obtain rfl := si h
              exact runF_call mixed [(12, .ret (.tup [.d ((D.i .i64) r1.1), .d ((D.i .i64) r1.2)])), (17, .bit false), (20, .int (a0.quants.length : Int)), (23, .bit false), (26, .int (a0.frees.length : Int)), (29, .bit false), (32, .int (a0.states.length : Int)), (35, .bit false), (38, .int (a0.symbols.length : Int)), (41, .bit false), (44, .int (a0.nodes.length : Int)), (47, .bit false), (50, .int (a0.trans.length : Int)), (53, .bit false), (58, .bit false), (63, .int (a0.states.length : Int)), (66, .bit false), (68, .ret (.d (D.b r2))), (70, .bit false), (95, .int (a0.nodes.length : Int)), (97, .bit false)] [⟨[0, 1, 0, 1, 1, 1, 1], [.live [1, 5, 6], .keep [1]], .exit 0, (ref13_Right_l1_O a0 (Sum.inl o6)).2⟩] [] (ai (ref07_Check_ok a0.decls r1 h1) (ai h2 (ai (len_map TQuant.D a0.quants) (ai h3 (ai (len_map TFree.D a0.frees) (ai h4 (ai (len_map TState.D a0.states) (ai h5 (ai (len_map TSymbol.D a0.symbols) (ai h6 (ai (len_map TNode.D a0.nodes) (ai h7 (ai (len_map TTrans.D a0.trans) (ai h8 (ai h9 (ai (len_map TState.D a0.states) (ai h10 (ai (ref13_names_ok a0 r2 h11) (ai h12 (ai (ref13_Right_l1_ok none a0 0 0 (Sum.inl o6) h17) (ai (len_map TNode.D a0.nodes) (ai h18 (ti))))))))))))))))))))))) (by kernel_rfl)
            ·
             obtain rfl := si h
             exact runF_call mixed [(12, .ret (.tup [.d ((D.i .i64) r1.1), .d ((D.i .i64) r1.2)])), (17, .bit false), (20, .int (a0.quants.length : Int)), (23, .bit false), (26, .int (a0.frees.length : Int)), (29, .bit false), (32, .int (a0.states.length : Int)), (35, .bit false), (38, .int (a0.symbols.length : Int)), (41, .bit false), (44, .int (a0.nodes.length : Int)), (47, .bit false), (50, .int (a0.trans.length : Int)), (53, .bit false), (58, .bit false), (63, .int (a0.states.length : Int)), (66, .bit false), (68, .ret (.d (D.b r2))), (70, .bit false)] [⟨[0, 1, 0, 1, 1, 1, 1], [.live [1, 5, 6], .keep [1]], .ret, (ref13_Right_l1_O a0 (Sum.inr o7)).2⟩] [] (ai (ref07_Check_ok a0.decls r1 h1) (ai h2 (ai (len_map TQuant.D a0.quants) (ai h3 (ai (len_map TFree.D a0.frees) (ai h4 (ai (len_map TState.D a0.states) (ai h5 (ai (len_map TSymbol.D a0.symbols) (ai h6 (ai (len_map TNode.D a0.nodes) (ai h7 (ai (len_map TTrans.D a0.trans) (ai h8 (ai h9 (ai (len_map TState.D a0.states) (ai h10 (ai (ref13_names_ok a0 r2 h11) (ai h12 (ai (ref13_Right_l1_ok none a0 0 0 (Sum.inr o7) h17) (ti))))))))))))))))))))) (by kernel_rfl)
def law20_small_l2_I (s1 : List TEvent) (s5 : Int) (s6 : Int) : St := ⟨sp 54 0 [(1, .d ((D.l TEvent.D) s1)), (5, .d ((D.i .i64) s5)), (6, .d ((D.i .i64) s6))], [], []⟩
def law20_small_l2_O (s1 : List TEvent) (s5 : Int) (o : Unit ⊕ Unit) : Ex × St := match o with
  | .inl o => (.exit 2, ⟨sp 54 0 [(1, .d ((D.l TEvent.D) s1)), (5, .d ((D.i .i64) s5))], [], []⟩)
  | .inr o => (.ret, ⟨sp 54 0 [(4, .d (D.b false))], [], []⟩)
theorem law20_small_l2_rnd (rd : Option Nat) (s1 : List TEvent) (s5 : Int) (s6 : Int) (o : (Int) ⊕ (Unit ⊕ Unit)) (h : law20_small_l2_s s1 s5 s6 = some o) : Arr Try.prog rd (fbody Try.prog 18) (0 :: [0, 1, 1, 0, 0, 1, 0, 0, 1, 0, 1, 1]) (law20_small_l2_I s1 s5 s6) (rR (fun s : Int => law20_small_l2_I s1 s5 s) (law20_small_l2_O s1 s5) o).1 (rR (fun s : Int => law20_small_l2_I s1 s5 s) (law20_small_l2_O s1 s5) o).2 := by
  unfold law20_small_l2_s at h
  obtain ⟨x4, h9, h⟩ := xS h
  rcases iS h with ⟨h10, h⟩ | ⟨h10, h⟩
  ·
   obtain ⟨x5, h11, h⟩ := xS h
   obtain ⟨x6, h12, h⟩ := xS h
   rcases iS h with ⟨h13, h⟩ | ⟨h13, h⟩
   ·
    obtain rfl := si h
    exact runB_arr mixed [(36, .el (TEvent.D x4)), (39, .int (x4.args.length : Int)), (40, .bit true), (45, .el (TEvent.D x5)), (49, .el (TValue.D x6)), (52, .int (x6.str.length : Int)), (53, .bit true)] [] [.live [4], .keep []] (ai (elem_map TEvent.D h9) (ai (len_map TValue.D x4.args) (ai h10 (ai (elem_map TEvent.D h11) (ai (elem_map TValue.D h12) (ai (len_str x6.str) (ai h13 (ti)))))))) (by kernel_rfl)
   ·
    obtain rfl := si h
    exact runB_arr mixed [(36, .el (TEvent.D x4)), (39, .int (x4.args.length : Int)), (40, .bit true), (45, .el (TEvent.D x5)), (49, .el (TValue.D x6)), (52, .int (x6.str.length : Int)), (53, .bit false)] [] [.live [1, 5, 6], .keep []] (ai (elem_map TEvent.D h9) (ai (len_map TValue.D x4.args) (ai h10 (ai (elem_map TEvent.D h11) (ai (elem_map TValue.D h12) (ai (len_str x6.str) (ai h13 (ti)))))))) (by kernel_rfl)
  ·
   obtain rfl := si h
   exact runB_arr mixed [(36, .el (TEvent.D x4)), (39, .int (x4.args.length : Int)), (40, .bit false)] [] [.live [1, 5], .keep []] (ai (elem_map TEvent.D h9) (ai (len_map TValue.D x4.args) (ai h10 (ti)))) (by kernel_rfl)
theorem law20_small_l2_ok (rd : Option Nat) (s1 : List TEvent) (s5 : Int) (s6 : Int) (t : Unit ⊕ Unit) (h : law20_small_l2 s1 s5 s6 = some t) : LpOf Try.prog rd (fbody Try.prog 18) [0, 1, 1, 0, 0, 1, 0, 0, 1, 0, 1, 1] (law20_small_l2_I s1 s5 s6) ((law20_small_l2_O s1 s5) t).1 ((law20_small_l2_O s1 s5) t).2 :=
  loopE_lpR (fun s : Int => law20_small_l2_I s1 s5 s) (law20_small_l2_O s1 s5) (by kernel_rfl) (fun t => isN_ne (by rcases t with (_ | _) <;> rfl)) (fun s o h => law20_small_l2_rnd rd s1 s5 s o h) (s := s6) (t := t) h
def law20_small_l1_I (s1 : List TEvent) (s5 : Int) : St := ⟨sp 54 0 [(1, .d ((D.l TEvent.D) s1)), (5, .d ((D.i .i64) s5))], [], []⟩
def law20_small_l1_O (s1 : List TEvent) (o : Unit ⊕ Unit) : Ex × St := match o with
  | .inl o => (.exit 0, ⟨sp 54 0 [], [], []⟩)
  | .inr o => (.ret, ⟨sp 54 0 [(4, .d (D.b false))], [], []⟩)
theorem law20_small_l1_rnd (rd : Option Nat) (s1 : List TEvent) (s5 : Int) (o : (Int) ⊕ (Unit ⊕ Unit)) (h : law20_small_l1_s s1 s5 = some o) : Arr Try.prog rd (fbody Try.prog 18) (0 :: [0, 1, 0, 1, 1]) (law20_small_l1_I s1 s5) (rR (fun s : Int => law20_small_l1_I s1 s) (law20_small_l1_O s1) o).1 (rR (fun s : Int => law20_small_l1_I s1 s) (law20_small_l1_O s1) o).2 := by
  unfold law20_small_l1_s at h
  rcases iS h with ⟨h6, h⟩ | ⟨h6, h⟩
  ·
   obtain ⟨x3, h7, h⟩ := xS h
   rcases iS h with ⟨h8, h⟩ | ⟨h8, h⟩
   ·
    obtain rfl := si h
    exact runB_arr mixed [(22, .int (s1.length : Int)), (23, .bit true), (28, .el (TEvent.D x3)), (31, .int (x3.args.length : Int)), (32, .bit true)] [] [.live [4], .keep []] (ai (len_map TEvent.D s1) (ai h6 (ai (elem_map TEvent.D h7) (ai (len_map TValue.D x3.args) (ai h8 (ti)))))) (by kernel_rfl)
   ·
    obtain ⟨o7, h14, h⟩ := bS h
    replace h := sumE_some h
    rcases h with ⟨o8, rfl, h⟩ | ⟨o9, rfl, h⟩
    ·
     obtain rfl := si h
     exact runB_arr mixed [(22, .int (s1.length : Int)), (23, .bit true), (28, .el (TEvent.D x3)), (31, .int (x3.args.length : Int)), (32, .bit false)] [⟨[0, 1, 1, 0, 0, 1, 0, 0, 1, 0, 1, 1], [.live [1, 5, 6], .keep []], .exit 2, (law20_small_l2_O s1 s5 (Sum.inl o8)).2⟩] [.live [1, 5], .keep []] (ai (len_map TEvent.D s1) (ai h6 (ai (elem_map TEvent.D h7) (ai (len_map TValue.D x3.args) (ai h8 (ai (law20_small_l2_ok rd s1 s5 0 (Sum.inl o8) h14) (ti))))))) (by kernel_rfl)
    ·
     obtain rfl := si h
     exact runB_arr mixed [(22, .int (s1.length : Int)), (23, .bit true), (28, .el (TEvent.D x3)), (31, .int (x3.args.length : Int)), (32, .bit false)] [⟨[0, 1, 1, 0, 0, 1, 0, 0, 1, 0, 1, 1], [.live [1, 5, 6], .keep []], .ret, (law20_small_l2_O s1 s5 (Sum.inr o9)).2⟩] [.live [4], .keep []] (ai (len_map TEvent.D s1) (ai h6 (ai (elem_map TEvent.D h7) (ai (len_map TValue.D x3.args) (ai h8 (ai (law20_small_l2_ok rd s1 s5 0 (Sum.inr o9) h14) (ti))))))) (by kernel_rfl)
  ·
   obtain rfl := si h
   exact runB_arr mixed [(22, .int (s1.length : Int)), (23, .bit false)] [] [.live [], .keep []] (ai (len_map TEvent.D s1) (ai h6 (ti))) (by kernel_rfl)
theorem law20_small_l1_ok (rd : Option Nat) (s1 : List TEvent) (s5 : Int) (t : Unit ⊕ Unit) (h : law20_small_l1 s1 s5 = some t) : LpOf Try.prog rd (fbody Try.prog 18) [0, 1, 0, 1, 1] (law20_small_l1_I s1 s5) ((law20_small_l1_O s1) t).1 ((law20_small_l1_O s1) t).2 :=
  loopE_lpR (fun s : Int => law20_small_l1_I s1 s) (law20_small_l1_O s1) (by kernel_rfl) (fun t => isN_ne (by rcases t with (_ | _) <;> rfl)) (fun s o h => law20_small_l1_rnd rd s1 s o h) (s := s5) (t := t) h
theorem law20_small_ok (a0 : TQea) (a1 : List TEvent) (r : Bool) (h : law20_small a0 a1 = some r) : ACall Try.prog 18 [.d (TQea.D a0), .d ((D.l TEvent.D) a1)] [] (.d (D.b r)) [] := by
  unfold law20_small at h
  obtain ⟨r1, h1, h⟩ := bS h
  rcases iS h with ⟨h2, h⟩ | ⟨h2, h⟩
  ·
   obtain rfl := si h
   exact runF_call mixed [(8, .ret (.d ((D.i .i64) r1))), (10, .bit true)] [] [] (ai (ref13_Few_ok a0 r1 h1) (ai h2 (ti))) (by kernel_rfl)
  ·
   rcases iS h with ⟨h3, h⟩ | ⟨h3, h⟩
   ·
    obtain rfl := si h
    exact runF_call mixed [(8, .ret (.d ((D.i .i64) r1))), (10, .bit false), (12, .int (a1.length : Int)), (15, .bit true)] [] [] (ai (ref13_Few_ok a0 r1 h1) (ai h2 (ai (len_map TEvent.D a1) (ai h3 (ti))))) (by kernel_rfl)
   ·
    obtain ⟨r2, h4, h⟩ := bS h
    rcases iS h with ⟨h5, h⟩ | ⟨h5, h⟩
    ·
     obtain rfl := si h
     exact runF_call mixed [(8, .ret (.d ((D.i .i64) r1))), (10, .bit false), (12, .int (a1.length : Int)), (15, .bit false), (17, .ret (.d (D.b r2))), (19, .bit true)] [] [] (ai (ref13_Few_ok a0 r1 h1) (ai h2 (ai (len_map TEvent.D a1) (ai h3 (ai (ref13_Right_ok a0 r2 h4) (ai h5 (ti))))))) (by kernel_rfl)
    ·
     obtain ⟨o10, h15, h⟩ := bS h
     replace h := sumE_some h
     rcases h with ⟨o11, rfl, h⟩ | ⟨o12, rfl, h⟩
     ·
      obtain rfl := si h
      exact runF_call mixed [(8, .ret (.d ((D.i .i64) r1))), (10, .bit false), (12, .int (a1.length : Int)), (15, .bit false), (17, .ret (.d (D.b r2))), (19, .bit false)] [⟨[0, 1, 0, 1, 1], [.live [1, 5], .keep []], .exit 0, (law20_small_l1_O a1 (Sum.inl o11)).2⟩] [] (ai (ref13_Few_ok a0 r1 h1) (ai h2 (ai (len_map TEvent.D a1) (ai h3 (ai (ref13_Right_ok a0 r2 h4) (ai h5 (ai (law20_small_l1_ok none a1 0 (Sum.inl o11) h15) (ti)))))))) (by kernel_rfl)
     ·
      obtain rfl := si h
      exact runF_call mixed [(8, .ret (.d ((D.i .i64) r1))), (10, .bit false), (12, .int (a1.length : Int)), (15, .bit false), (17, .ret (.d (D.b r2))), (19, .bit false)] [⟨[0, 1, 0, 1, 1], [.live [1, 5], .keep []], .ret, (law20_small_l1_O a1 (Sum.inr o12)).2⟩] [] (ai (ref13_Few_ok a0 r1 h1) (ai h2 (ai (len_map TEvent.D a1) (ai h3 (ai (ref13_Right_ok a0 r2 h4) (ai h5 (ai (law20_small_l1_ok none a1 0 (Sum.inr o12) h15) (ti)))))))) (by kernel_rfl)
theorem law20_one_ok (a0 : Int) (r : TValue) (h : law20_one a0 = some r) : ACall Try.prog 25 [.d ((D.i .i64) a0)] [] (.d (TValue.D r)) [] := by
  unfold law20_one at h
  obtain rfl := si h
  exact runF_call mixed [] [] [] (ti) (by kernel_rfl)
def domain_Many_b3_I (s1 : Bool) (s5 : Int) (s8 : Int) (s9 : List (List TValue)) (s10 : Int) (s11 : Int) (s17 : Bool) : St := ⟨sp 27 0 [(1, .d (D.b s1)), (5, .d ((D.i .i64) s5)), (8, .d ((D.i .i64) s8)), (9, .d ((D.l (D.l TValue.D)) s9)), (10, .d ((D.i .i64) s10)), (11, .d ((D.i .i64) s11)), (17, .d (D.b s17))], [], []⟩
def domain_Many_b3_O (s1 : Bool) (s5 : Int) (s8 : Int) (s9 : List (List TValue)) (s10 : Int) (s11 : Int) (s17 : Bool) (o : Int) : Ex × St := (.normal, ⟨sp 27 0 [(1, .d (D.b s1)), (5, .d ((D.i .i64) s5)), (8, .d ((D.i .i64) o)), (9, .d ((D.l (D.l TValue.D)) s9)), (10, .d ((D.i .i64) s10)), (11, .d ((D.i .i64) s11))], [], []⟩)
theorem domain_Many_b3_ok (rd : Option Nat) (s1 : Bool) (s5 : Int) (s8 : Int) (s9 : List (List TValue)) (s10 : Int) (s11 : Int) (s17 : Bool) (o : Int) (h : domain_Many_b3 s1 s5 s8 s9 s10 s11 s17 = some o) : LpOf Try.prog rd (fbody Try.prog 7) [1, 0, 1, 1, 0, 0, 1, 1, 0, 0, 1, 0, 1, 1] (domain_Many_b3_I s1 s5 s8 s9 s10 s11 s17) (domain_Many_b3_O s1 s5 s8 s9 s10 s11 s17 o).1 (domain_Many_b3_O s1 s5 s8 s9 s10 s11 s17 o).2 := by
  unfold domain_Many_b3 at h
  cases s17 with
  | true =>
   replace h := iteT h
   obtain rfl := si h
   exact (runB_arr mixed [] [] [.live [1, 5, 8, 9, 10, 11], .keep []] (ti) (by kernel_rfl)).lp
  | false =>
   replace h := iteF h
   obtain rfl := si h
   exact (runB_arr mixed [] [] [.live [1, 5, 8, 9, 10, 11], .keep []] (ti) (by kernel_rfl)).lp
def domain_Many_b2_I (s1 : Bool) (s5 : Int) (s9 : List (List TValue)) (s10 : Int) (s11 : Int) : St := ⟨sp 27 0 [(1, .d (D.b s1)), (5, .d ((D.i .i64) s5)), (9, .d ((D.l (D.l TValue.D)) s9)), (10, .d ((D.i .i64) s10)), (11, .d ((D.i .i64) s11))], [], []⟩
def domain_Many_b2_O (s1 : Bool) (s5 : Int) (s9 : List (List TValue)) (s10 : Int) (s11 : Int) (o : Int) : Ex × St := (.normal, ⟨sp 27 0 [(1, .d (D.b s1)), (5, .d ((D.i .i64) o)), (9, .d ((D.l (D.l TValue.D)) s9)), (10, .d ((D.i .i64) s10)), (11, .d ((D.i .i64) s11))], [], []⟩)
theorem domain_Many_b2_ok (rd : Option Nat) (s1 : Bool) (s5 : Int) (s9 : List (List TValue)) (s10 : Int) (s11 : Int) (o : Int) (h : domain_Many_b2 s1 s5 s9 s10 s11 = some o) : LpOf Try.prog rd (fbody Try.prog 7) [0, 1, 1, 0, 0, 1, 0, 1, 1] (domain_Many_b2_I s1 s5 s9 s10 s11) (domain_Many_b2_O s1 s5 s9 s10 s11 o).1 (domain_Many_b2_O s1 s5 s9 s10 s11 o).2 := by
  unfold domain_Many_b2 at h
  obtain ⟨x1, h2, h⟩ := xS h
  obtain ⟨o2, h4, h⟩ := bS h
  obtain rfl := si h
  exact (runB_arr mixed [(13, .el ((D.l TValue.D) x1)), (16, .int (x1.length : Int)), (22, .int (minE o2 1000000)), (24, .int (minE (intVal .mul .i64 s5 (minE o2 1000000)) 1000000))] [⟨[1, 0, 1, 1, 0, 0, 1, 1, 0, 0, 1, 0, 1, 1], [.live [1, 5, 8, 9, 10, 11, 17], .keep []], .normal, (domain_Many_b3_O s1 s5 (x1.length : Int) s9 s10 s11 s1 o2).2⟩] [.live [1, 5, 9, 10, 11], .keep []] (ai (elem_map (D.l TValue.D) h2) (ai (len_map TValue.D x1) (ai (domain_Many_b3_ok rd s1 s5 (x1.length : Int) s9 s10 s11 s1 o2 h4) (ai (rfl : minE o2 1000000 = minE o2 1000000) (ai (rfl : minE (intVal .mul .i64 s5 (minE o2 1000000)) 1000000 = minE (intVal .mul .i64 s5 (minE o2 1000000)) 1000000) (ti)))))) (by kernel_rfl)).lp
def domain_Many_l1_I (s1 : Bool) (s9 : List (List TValue)) (s10 : Int) (s5 : Int) (s11 : Int) : St := ⟨sp 27 0 [(1, .d (D.b s1)), (5, .d ((D.i .i64) s5)), (9, .d ((D.l (D.l TValue.D)) s9)), (10, .d ((D.i .i64) s10)), (11, .d ((D.i .i64) s11))], [], []⟩
def domain_Many_l1_O (s1 : Bool) (s9 : List (List TValue)) (s10 : Int) (o : Int) : Ex × St := (.exit 0, ⟨sp 27 0 [(5, .d ((D.i .i64) o))], [], []⟩)
theorem domain_Many_l1_rnd (rd : Option Nat) (s1 : Bool) (s9 : List (List TValue)) (s10 : Int) (s5 : Int) (s11 : Int) (o : (Int × Int) ⊕ (Int)) (h : domain_Many_l1_s s1 s9 s10 s5 s11 = some o) : Arr Try.prog rd (fbody Try.prog 7) (0 :: [0, 1, 0, 1, 1]) (domain_Many_l1_I s1 s9 s10 s5 s11) (rR (fun s : Int × Int => domain_Many_l1_I s1 s9 s10 s.1 s.2) (domain_Many_l1_O s1 s9 s10) o).1 (rR (fun s : Int × Int => domain_Many_l1_I s1 s9 s10 s.1 s.2) (domain_Many_l1_O s1 s9 s10) o).2 := by
  unfold domain_Many_l1_s at h
  rcases iS h with ⟨h1, h⟩ | ⟨h1, h⟩
  ·
   obtain ⟨o3, h5, h⟩ := bS h
   obtain rfl := si h
   exact runB_arr mixed [(12, .bit true)] [⟨[0, 1, 1, 0, 0, 1, 0, 1, 1], [.live [1, 5, 9, 10, 11], .keep []], .normal, (domain_Many_b2_O s1 s5 s9 s10 s11 o3).2⟩] [.live [1, 5, 9, 10, 11], .keep []] (ai h1 (ai (domain_Many_b2_ok rd s1 s5 s9 s10 s11 o3 h5) (ti))) (by kernel_rfl)
  ·
   obtain rfl := si h
   exact runB_arr mixed [(12, .bit false)] [] [.live [5], .keep []] (ai h1 (ti)) (by kernel_rfl)
theorem domain_Many_l1_ok (rd : Option Nat) (s1 : Bool) (s9 : List (List TValue)) (s10 : Int) (s5 : Int) (s11 : Int) (t : Int) (h : domain_Many_l1 s1 s9 s10 s5 s11 = some t) : LpOf Try.prog rd (fbody Try.prog 7) [0, 1, 0, 1, 1] (domain_Many_l1_I s1 s9 s10 s5 s11) ((domain_Many_l1_O s1 s9 s10) t).1 ((domain_Many_l1_O s1 s9 s10) t).2 :=
  loopE_lpR (fun s : Int × Int => domain_Many_l1_I s1 s9 s10 s.1 s.2) (domain_Many_l1_O s1 s9 s10) (by kernel_rfl) (fun t => isN_ne (by rfl)) (fun s o h => domain_Many_l1_rnd rd s1 s9 s10 s.1 s.2 o h) (s := (s5, s11)) (t := t) h
theorem domain_Many_ok (a0 : List (List TValue)) (a1 : Bool) (r : Int) (h : domain_Many a0 a1 = some r) : ACall Try.prog 7 [.d ((D.l (D.l TValue.D)) a0), .d (D.b a1)] [] (.d ((D.i .i64) r)) [] := by
  unfold domain_Many at h
  obtain ⟨o4, h6, h⟩ := bS h
  obtain rfl := si h
  exact runF_call mixed [(10, .int (a0.length : Int))] [⟨[0, 1, 0, 1, 1], [.live [1, 5, 9, 10, 11], .keep []], .exit 0, (domain_Many_l1_O a1 a0 (a0.length : Int) o4).2⟩] [] (ai (len_map (D.l TValue.D) a0) (ai (domain_Many_l1_ok none a1 a0 (a0.length : Int) 1 0 o4 h6) (ti))) (by kernel_rfl)
theorem domain_bindings_ok (a0 : List (List TValue)) (a1 : Int) (a2 : List TSlot) (a3 : Bool) (r : Int × List (List TValue) × List TSlot × Bool) (h : domain_bindings a0 a1 a2 a3 = some r) : ACall Try.prog 46 [.d ((D.l (D.l TValue.D)) a0), .d ((D.i .i64) a1), .d ((D.l TSlot.D) a2), .d (D.b a3)] [] (.clo (.func 60) [] [.eptr (D.cells ((D.i .i64) r.1)), .eptr (D.cells ((D.l (D.l TValue.D)) r.2.1)), .eptr (D.cells ((D.l TSlot.D) r.2.2.1)), .eptr (D.cells (D.b r.2.2.2))]) [] := by
  unfold domain_bindings at h
  obtain rfl := si h
  exact runF_call mixed [(4, .frz), (5, .frz), (6, .frz), (7, .frz)] [] [] (ti) (by kernel_rfl)
theorem slices_Clone_Slot_Slot_ok (l r : List TSlot) (h : slices_Clone_Slot_Slot l = some r) : ACall Try.prog 61 [.d (D.l TSlot.D l)] [] (.d (D.l TSlot.D r)) [] :=
  cloneE_d (ρ := ⟨fun _ => 61, fun n => if n = 4 then 4 else if n = 22 then 82 else 119, id⟩) (by_ := 48) TSlot.D rfl (cloneL mixed ⟨ "slices.Clone[[]proctor/api.Slot,proctor/api.Slot]", by decide, (Try.func61).trans (by kernel_rfl)⟩ Try.underlying4 Try.underlying82 (by kernel_rfl) (by kernel_rfl) (by kernel_rfl) (by kernel_rfl)) (by kernel_rfl) (by decide) l r h
theorem slices_Clone_Slot_Slot_v2_ok (l r : List TSlot) (h : slices_Clone_Slot_Slot_v2 l = some r) : ACall Try.prog 61 [.d (D.l TSlot.D l)] [] (.row 0) [(0, .rw 119 5 (r.map TSlot.D))] :=
  cloneE_own (ρ := ⟨fun _ => 61, fun n => if n = 4 then 4 else if n = 22 then 82 else 119, id⟩) (by_ := 48) TSlot.D rfl rfl (cloneL mixed ⟨ "slices.Clone[[]proctor/api.Slot,proctor/api.Slot]", by decide, (Try.func61).trans (by kernel_rfl)⟩ Try.underlying4 Try.underlying82 (by kernel_rfl) (by kernel_rfl) (by kernel_rfl) (by kernel_rfl)) (by kernel_rfl) (by decide) l r h
def domain_bindings_1_enc (x : (List TSlot)) : List A := [.d ((D.l TSlot.D) x)]
def domain_bindings_1_b3_I {φ : Type} (l : Nat) (F : φ → Bx) (uz : List Value) (f0 : φ) (s1 : Int) (s2 : List (List TValue)) (s3 : List TSlot) (s4 : Bool) (s25_1 : Int) (s25_2 : List (List TValue)) (s25_3 : List TSlot) (s25_4 : Bool) (s26 : List TSlot) (w998_1 : Int) (w998_2 : List (List TValue)) (w998_3 : List TSlot) (w998_4 : Bool) (w998_5 : Int) (w998_6 : List (List TValue)) (w998_7 : List TSlot) (w998_8 : Bool) : St := ⟨sp 59 0 [(1, .eptr (D.cells ((D.i .i64) s1))), (2, .eptr (D.cells ((D.l (D.l TValue.D)) s2))), (3, .eptr (D.cells ((D.l TSlot.D) s3))), (4, .eptr (D.cells (D.b s4))), (5, .box 5 0), (25, .clo (.func 60) [] [.eptr (D.cells ((D.i .i64) s25_1)), .eptr (D.cells ((D.l (D.l TValue.D)) s25_2)), .eptr (D.cells ((D.l TSlot.D) s25_3)), .eptr (D.cells (D.b s25_4))]), (26, .d ((D.l TSlot.D) s26))], [(5, .cells ([.d (.v (.func (.yield l) #[] #[]))])), (998, .vals (sp 59 0 [(1, .eptr (D.cells ((D.i .i64) w998_1))), (2, .eptr (D.cells ((D.l (D.l TValue.D)) w998_2))), (3, .eptr (D.cells ((D.l TSlot.D) w998_3))), (4, .eptr (D.cells (D.b w998_4))), (5, .box 5 0), (25, .clo (.func 60) [] [.eptr (D.cells ((D.i .i64) w998_5)), .eptr (D.cells ((D.l (D.l TValue.D)) w998_6)), .eptr (D.cells ((D.l TSlot.D) w998_7)), .eptr (D.cells (D.b w998_8))])]) uz)], (F f0)⟩
def domain_bindings_1_b3_O {φ : Type} (l : Nat) (F : φ → Bx) (uz : List Value) (f0 : φ) (s1 : Int) (s2 : List (List TValue)) (s3 : List TSlot) (s4 : Bool) (s25_1 : Int) (s25_2 : List (List TValue)) (s25_3 : List TSlot) (s25_4 : Bool) (s26 : List TSlot) (w998_1 : Int) (w998_2 : List (List TValue)) (w998_3 : List TSlot) (w998_4 : Bool) (w998_5 : Int) (w998_6 : List (List TValue)) (w998_7 : List TSlot) (w998_8 : Bool) (o : Unit) : Ex × St := (.normal, ⟨sp 59 0 [(1, .eptr (D.cells ((D.i .i64) s1))), (2, .eptr (D.cells ((D.l (D.l TValue.D)) s2))), (3, .eptr (D.cells ((D.l TSlot.D) s3))), (4, .eptr (D.cells (D.b s4))), (5, .box 5 0), (6, .d ((D.l TSlot.D) s26)), (25, .clo (.func 60) [] [.eptr (D.cells ((D.i .i64) s25_1)), .eptr (D.cells ((D.l (D.l TValue.D)) s25_2)), .eptr (D.cells ((D.l TSlot.D) s25_3)), .eptr (D.cells (D.b s25_4))])], [(5, .cells ([.d (.v (.func (.yield l) #[] #[]))])), (998, .vals (sp 59 0 [(1, .eptr (D.cells ((D.i .i64) w998_1))), (2, .eptr (D.cells ((D.l (D.l TValue.D)) w998_2))), (3, .eptr (D.cells ((D.l TSlot.D) w998_3))), (4, .eptr (D.cells (D.b w998_4))), (5, .box 5 0), (25, .clo (.func 60) [] [.eptr (D.cells ((D.i .i64) w998_5)), .eptr (D.cells ((D.l (D.l TValue.D)) w998_6)), .eptr (D.cells ((D.l TSlot.D) w998_7)), .eptr (D.cells (D.b w998_8))])]) uz)], (F f0)⟩)
theorem domain_bindings_1_b3_ok (rd : Option Nat) (self : ∀ ψ : Type, (ψ → (List TSlot) → Option (ψ × Bool)) → Int → (List (List TValue)) → (List TSlot) → Bool → ψ → Option ψ) {φ : Type} (step : φ → (List TSlot) → Option (φ × Bool)) (hs : ∀ (ψ : Type) (step : ψ → (List TSlot) → Option (ψ × Bool)) (a1 : Int) (a2 : List (List TValue)) (a3 : List TSlot) (a4 : Bool) (f0 f1 : ψ), self ψ step a1 a2 a3 a4 f0 = some f1 → AIt Try.prog 60 [.eptr (D.cells ((D.i .i64) a1)), .eptr (D.cells ((D.l (D.l TValue.D)) a2)), .eptr (D.cells ((D.l TSlot.D) a3)), .eptr (D.cells (D.b a4))] domain_bindings_1_enc step f0 f1) (l : Nat) (F : φ → Bx) (N : List Nat) (hF : ∀ f, FOk (F f) N) (hY : ∀ f x r, step f x = some r → AYield Try.prog l (domain_bindings_1_enc x) (F f) (.d (D.b r.2)) (F r.1)) (uz : List Value) (f0 : φ) (s1 : Int) (s2 : List (List TValue)) (s3 : List TSlot) (s4 : Bool) (s25_1 : Int) (s25_2 : List (List TValue)) (s25_3 : List TSlot) (s25_4 : Bool) (s26 : List TSlot) (w998_1 : Int) (w998_2 : List (List TValue)) (w998_3 : List TSlot) (w998_4 : Bool) (w998_5 : Int) (w998_6 : List (List TValue)) (w998_7 : List TSlot) (w998_8 : Bool) (o : Unit) (h : domain_bindings_1_b3 self step f0 s1 s2 s3 s4 s25_1 s25_2 s25_3 s25_4 s26 w998_1 w998_2 w998_3 w998_4 w998_5 w998_6 w998_7 w998_8 = some o) : LpOf Try.prog rd (fbody Try.prog 60) [0, 0, 1, 0, 1, 0, 1, 1] (domain_bindings_1_b3_I l F uz f0 s1 s2 s3 s4 s25_1 s25_2 s25_3 s25_4 s26 w998_1 w998_2 w998_3 w998_4 w998_5 w998_6 w998_7 w998_8) (domain_bindings_1_b3_O l F uz f0 s1 s2 s3 s4 s25_1 s25_2 s25_3 s25_4 s26 w998_1 w998_2 w998_3 w998_4 w998_5 w998_6 w998_7 w998_8 o).1 (domain_bindings_1_b3_O l F uz f0 s1 s2 s3 s4 s25_1 s25_2 s25_3 s25_4 s26 w998_1 w998_2 w998_3 w998_4 w998_5 w998_6 w998_7 w998_8 o).2 := by
  unfold domain_bindings_1_b3 at h
  obtain rfl := si h
  exact (runB_arr mixed [] [] [.live [1, 2, 3, 4, 5, 6, 25], .keep [5, 998]] (ti) (by kernel_rfl)).lp
def domain_bindings_1_b5_I {φ : Type} (l : Nat) (F : φ → Bx) (uz : List Value) (f0 : φ) (s1 : Int) (s2 : List (List TValue)) (s3 : List TSlot) (s4 : Bool) (s6 : List TSlot) (s25_1 : Int) (s25_2 : List (List TValue)) (s25_3 : List TSlot) (s25_4 : Bool) (w998_1 : Int) (w998_2 : List (List TValue)) (w998_3 : List TSlot) (w998_4 : Bool) (w998_5 : Int) (w998_6 : List (List TValue)) (w998_7 : List TSlot) (w998_8 : Bool) : St := ⟨sp 59 0 [(1, .eptr (D.cells ((D.i .i64) s1))), (2, .eptr (D.cells ((D.l (D.l TValue.D)) s2))), (3, .eptr (D.cells ((D.l TSlot.D) s3))), (4, .eptr (D.cells (D.b s4))), (5, .box 5 0), (6, .d ((D.l TSlot.D) s6)), (25, .clo (.func 60) [] [.eptr (D.cells ((D.i .i64) s25_1)), .eptr (D.cells ((D.l (D.l TValue.D)) s25_2)), .eptr (D.cells ((D.l TSlot.D) s25_3)), .eptr (D.cells (D.b s25_4))])], [(5, .cells ([.d (.v (.func (.yield l) #[] #[]))])), (998, .vals (sp 59 0 [(1, .eptr (D.cells ((D.i .i64) w998_1))), (2, .eptr (D.cells ((D.l (D.l TValue.D)) w998_2))), (3, .eptr (D.cells ((D.l TSlot.D) w998_3))), (4, .eptr (D.cells (D.b w998_4))), (5, .box 5 0), (25, .clo (.func 60) [] [.eptr (D.cells ((D.i .i64) w998_5)), .eptr (D.cells ((D.l (D.l TValue.D)) w998_6)), .eptr (D.cells ((D.l TSlot.D) w998_7)), .eptr (D.cells (D.b w998_8))])]) uz)], (F f0)⟩
def domain_bindings_1_b5_O {φ : Type} (l : Nat) (F : φ → Bx) (uz : List Value) (f0 : φ) (s1 : Int) (s2 : List (List TValue)) (s3 : List TSlot) (s4 : Bool) (s6 : List TSlot) (s25_1 : Int) (s25_2 : List (List TValue)) (s25_3 : List TSlot) (s25_4 : Bool) (w998_1 : Int) (w998_2 : List (List TValue)) (w998_3 : List TSlot) (w998_4 : Bool) (w998_5 : Int) (w998_6 : List (List TValue)) (w998_7 : List TSlot) (w998_8 : Bool) (o : φ ⊕ φ) : Ex × St := match o with
  | .inl o => (.normal, ⟨sp 59 0 [], [(5, .cells ([.d (.v (.func (.yield l) #[] #[]))])), (998, .vals (sp 59 0 [(1, .eptr (D.cells ((D.i .i64) w998_1))), (2, .eptr (D.cells ((D.l (D.l TValue.D)) w998_2))), (3, .eptr (D.cells ((D.l TSlot.D) w998_3))), (4, .eptr (D.cells (D.b w998_4))), (5, .box 5 0), (25, .clo (.func 60) [] [.eptr (D.cells ((D.i .i64) w998_5)), .eptr (D.cells ((D.l (D.l TValue.D)) w998_6)), .eptr (D.cells ((D.l TSlot.D) w998_7)), .eptr (D.cells (D.b w998_8))])]) uz)], (F o)⟩)
  | .inr o => (.ret, ⟨sp 59 0 [], [(5, .cells ([.d (.v (.func (.yield l) #[] #[]))])), (998, .vals (sp 59 0 [(1, .eptr (D.cells ((D.i .i64) w998_1))), (2, .eptr (D.cells ((D.l (D.l TValue.D)) w998_2))), (3, .eptr (D.cells ((D.l TSlot.D) w998_3))), (4, .eptr (D.cells (D.b w998_4))), (5, .box 5 0), (25, .clo (.func 60) [] [.eptr (D.cells ((D.i .i64) w998_5)), .eptr (D.cells ((D.l (D.l TValue.D)) w998_6)), .eptr (D.cells ((D.l TSlot.D) w998_7)), .eptr (D.cells (D.b w998_8))])]) uz)], (F o)⟩)
theorem domain_bindings_1_b5_ok (rd : Option Nat) (self : ∀ ψ : Type, (ψ → (List TSlot) → Option (ψ × Bool)) → Int → (List (List TValue)) → (List TSlot) → Bool → ψ → Option ψ) {φ : Type} (step : φ → (List TSlot) → Option (φ × Bool)) (hs : ∀ (ψ : Type) (step : ψ → (List TSlot) → Option (ψ × Bool)) (a1 : Int) (a2 : List (List TValue)) (a3 : List TSlot) (a4 : Bool) (f0 f1 : ψ), self ψ step a1 a2 a3 a4 f0 = some f1 → AIt Try.prog 60 [.eptr (D.cells ((D.i .i64) a1)), .eptr (D.cells ((D.l (D.l TValue.D)) a2)), .eptr (D.cells ((D.l TSlot.D) a3)), .eptr (D.cells (D.b a4))] domain_bindings_1_enc step f0 f1) (l : Nat) (F : φ → Bx) (N : List Nat) (hF : ∀ f, FOk (F f) N) (hY : ∀ f x r, step f x = some r → AYield Try.prog l (domain_bindings_1_enc x) (F f) (.d (D.b r.2)) (F r.1)) (uz : List Value) (f0 : φ) (s1 : Int) (s2 : List (List TValue)) (s3 : List TSlot) (s4 : Bool) (s6 : List TSlot) (s25_1 : Int) (s25_2 : List (List TValue)) (s25_3 : List TSlot) (s25_4 : Bool) (w998_1 : Int) (w998_2 : List (List TValue)) (w998_3 : List TSlot) (w998_4 : Bool) (w998_5 : Int) (w998_6 : List (List TValue)) (w998_7 : List TSlot) (w998_8 : Bool) (o : φ ⊕ φ) (h : domain_bindings_1_b5 self step f0 s1 s2 s3 s4 s6 s25_1 s25_2 s25_3 s25_4 w998_1 w998_2 w998_3 w998_4 w998_5 w998_6 w998_7 w998_8 = some o) : LpOf Try.prog rd (fbody Try.prog 60) [1, 0, 1, 0, 1, 0, 1, 1] (domain_bindings_1_b5_I l F uz f0 s1 s2 s3 s4 s6 s25_1 s25_2 s25_3 s25_4 w998_1 w998_2 w998_3 w998_4 w998_5 w998_6 w998_7 w998_8) (domain_bindings_1_b5_O l F uz f0 s1 s2 s3 s4 s6 s25_1 s25_2 s25_3 s25_4 w998_1 w998_2 w998_3 w998_4 w998_5 w998_6 w998_7 w998_8 o).1 (domain_bindings_1_b5_O l F uz f0 s1 s2 s3 s4 s6 s25_1 s25_2 s25_3 s25_4 w998_1 w998_2 w998_3 w998_4 w998_5 w998_6 w998_7 w998_8 o).2 := by
  unfold domain_bindings_1_b5 at h
  rcases yldE_some h with ⟨f10, h9, h⟩ | ⟨f11, h10, h⟩
  ·
   obtain rfl := si h
   exact (runB_arr mixed [(29, .own false (.d (D.b true)) [] (F f10))] [] [.live [], .keep [5, 998]] (ai (hY f0 s6 (f10, true) h9) (ai (Or.inr ⟨(hF _).nms.trans (hF _).nms.symm, (hF _).far⟩ : F f10 = F f0 ∨ (names (F f10) = names (F f0) ∧ Far (F f10))) (ti))) (by kernel_rfl)).lp
  ·
   obtain rfl := si h
   exact (runB_arr mixed [(29, .own false (.d (D.b false)) [] (F f11))] [] [.live [], .keep [5, 998]] (ai (hY f0 s6 (f11, false) h10) (ai (Or.inr ⟨(hF _).nms.trans (hF _).nms.symm, (hF _).far⟩ : F f11 = F f0 ∨ (names (F f11) = names (F f0) ∧ Far (F f11))) (ti))) (by kernel_rfl)).lp
def domain_bindings_1_r2_E {φ : Type} (l : Nat) (F : φ → Bx) (s1 : Int) (s2 : List (List TValue)) (s3 : List TSlot) (s4 : Bool) (s25_1 : Int) (s25_2 : List (List TValue)) (s25_3 : List TSlot) (s25_4 : Bool) : List A := sp 59 0 [(1, .eptr (D.cells ((D.i .i64) s1))), (2, .eptr (D.cells ((D.l (D.l TValue.D)) s2))), (3, .eptr (D.cells ((D.l TSlot.D) s3))), (4, .eptr (D.cells (D.b s4))), (5, .box 5 0), (25, .clo (.func 60) [] [.eptr (D.cells ((D.i .i64) s25_1)), .eptr (D.cells ((D.l (D.l TValue.D)) s25_2)), .eptr (D.cells ((D.l TSlot.D) s25_3)), .eptr (D.cells (D.b s25_4))])]
def domain_bindings_1_r2_BL {φ : Type} (l : Nat) (F : φ → Bx) (s1 : Int) (s2 : List (List TValue)) (s3 : List TSlot) (s4 : Bool) (s25_1 : Int) (s25_2 : List (List TValue)) (s25_3 : List TSlot) (s25_4 : Bool) (s : φ) : Bx := [(5, .cells ([.d (.v (.func (.yield l) #[] #[]))]))]
def domain_bindings_1_r2_BT {φ : Type} (l : Nat) (F : φ → Bx) (s1 : Int) (s2 : List (List TValue)) (s3 : List TSlot) (s4 : Bool) (s25_1 : Int) (s25_2 : List (List TValue)) (s25_3 : List TSlot) (s25_4 : Bool) (t : φ) : Bx := [(5, .cells ([.d (.v (.func (.yield l) #[] #[]))]))]
def domain_bindings_1_r2_X {φ : Type} (t : φ) : Ex := .ret
def domain_bindings_1_r2_FL {φ : Type} (l : Nat) (F : φ → Bx) (s1 : Int) (s2 : List (List TValue)) (s3 : List TSlot) (s4 : Bool) (s25_1 : Int) (s25_2 : List (List TValue)) (s25_3 : List TSlot) (s25_4 : Bool) (s : φ) : Bx := F s
def domain_bindings_1_r2_FT {φ : Type} (l : Nat) (F : φ → Bx) (s1 : Int) (s2 : List (List TValue)) (s3 : List TSlot) (s4 : Bool) (s25_1 : Int) (s25_2 : List (List TValue)) (s25_3 : List TSlot) (s25_4 : Bool) (t : φ) : Bx := F t
def domain_bindings_1_r2_O {φ : Type} (l : Nat) (F : φ → Bx) (s1 : Int) (s2 : List (List TValue)) (s3 : List TSlot) (s4 : Bool) (s25_1 : Int) (s25_2 : List (List TValue)) (s25_3 : List TSlot) (s25_4 : Bool) (o : (φ) ⊕ (φ)) : Ex × St := (rex domain_bindings_1_r2_X o, ⟨domain_bindings_1_r2_E l F s1 s2 s3 s4 s25_1 s25_2 s25_3 s25_4, rbx (domain_bindings_1_r2_BL l F s1 s2 s3 s4 s25_1 s25_2 s25_3 s25_4) (domain_bindings_1_r2_BT l F s1 s2 s3 s4 s25_1 s25_2 s25_3 s25_4) o, rbx (domain_bindings_1_r2_FL l F s1 s2 s3 s4 s25_1 s25_2 s25_3 s25_4) (domain_bindings_1_r2_FT l F s1 s2 s3 s4 s25_1 s25_2 s25_3 s25_4) o⟩)
theorem domain_bindings_1_r2_rnd (self : ∀ ψ : Type, (ψ → (List TSlot) → Option (ψ × Bool)) → Int → (List (List TValue)) → (List TSlot) → Bool → ψ → Option ψ) {φ : Type} (step : φ → (List TSlot) → Option (φ × Bool)) (hs : ∀ (ψ : Type) (step : ψ → (List TSlot) → Option (ψ × Bool)) (a1 : Int) (a2 : List (List TValue)) (a3 : List TSlot) (a4 : Bool) (f0 f1 : ψ), self ψ step a1 a2 a3 a4 f0 = some f1 → AIt Try.prog 60 [.eptr (D.cells ((D.i .i64) a1)), .eptr (D.cells ((D.l (D.l TValue.D)) a2)), .eptr (D.cells ((D.l TSlot.D) a3)), .eptr (D.cells (D.b a4))] domain_bindings_1_enc step f0 f1) (l : Nat) (F : φ → Bx) (N : List Nat) (hF : ∀ f, FOk (F f) N) (hY : ∀ f x r, step f x = some r → AYield Try.prog l (domain_bindings_1_enc x) (F f) (.d (D.b r.2)) (F r.1)) (s1 : Int) (s2 : List (List TValue)) (s3 : List TSlot) (s4 : Bool) (s25_1 : Int) (s25_2 : List (List TValue)) (s25_3 : List TSlot) (s25_4 : Bool) (s : φ) (x : (List TSlot)) (o : (φ) ⊕ (φ)) (h : domain_bindings_1_r2_rd self step s1 s2 s3 s4 s25_1 s25_2 s25_3 s25_4 s x = some o) (m : Nat) (uz : List Value) : ∃ M E1, LpOf Try.prog (some m) (fbody Try.prog 60) (0 :: [0, 1, 0, 1, 0, 1, 1]) ⟨setPs (domain_bindings_1_r2_E l F s1 s2 s3 s4 s25_1 s25_2 s25_3 s25_4) ((Array.toList #[26]).zip (domain_bindings_1_enc x)), domain_bindings_1_r2_BL l F s1 s2 s3 s4 s25_1 s25_2 s25_3 s25_4 s ++ [(vn, .vals (domain_bindings_1_r2_E l F s1 s2 s3 s4 s25_1 s25_2 s25_3 s25_4) uz)], (domain_bindings_1_r2_FL l F s1 s2 s3 s4 s25_1 s25_2 s25_3 s25_4) s⟩ .normal M ∧
    LpOf Try.prog (some m) (fbody Try.prog 60) (1 :: [0, 1, 0, 1, 0, 1, 1]) M (rex domain_bindings_1_r2_X o) ⟨E1, rbx (domain_bindings_1_r2_BL l F s1 s2 s3 s4 s25_1 s25_2 s25_3 s25_4) (domain_bindings_1_r2_BT l F s1 s2 s3 s4 s25_1 s25_2 s25_3 s25_4) o ++ [(vn, .vals (domain_bindings_1_r2_E l F s1 s2 s3 s4 s25_1 s25_2 s25_3 s25_4) uz)], rbx (domain_bindings_1_r2_FL l F s1 s2 s3 s4 s25_1 s25_2 s25_3 s25_4) (domain_bindings_1_r2_FT l F s1 s2 s3 s4 s25_1 s25_2 s25_3 s25_4) o⟩ := by
  unfold domain_bindings_1_r2_rd at h
  obtain ⟨o9, h25, h⟩ := bS h
  obtain ⟨o12, h26, h⟩ := bS h
  replace h := sumE_some h
  rcases h with ⟨o37, rfl, h⟩ | ⟨o38, rfl, h⟩
  ·
   obtain rfl := si h
   exact ⟨(domain_bindings_1_b3_O l F uz s s1 s2 s3 s4 s25_1 s25_2 s25_3 s25_4 x s1 s2 s3 s4 s25_1 s25_2 s25_3 s25_4 o9).2, sp 59 0 [], lp_wks (w := [.live [1, 2, 3, 4, 5, 25, 26], .keep [5, 998]]) (s1 := domain_bindings_1_b3_I l F uz s s1 s2 s3 s4 s25_1 s25_2 s25_3 s25_4 x s1 s2 s3 s4 s25_1 s25_2 s25_3 s25_4) (by kernel_rfl) (lp_cast (domain_bindings_1_b3_ok (some m) self step hs l F N hF hY uz s s1 s2 s3 s4 s25_1 s25_2 s25_3 s25_4 x s1 s2 s3 s4 s25_1 s25_2 s25_3 s25_4 o9 h25) rfl (by kernel_rfl) rfl), lp_wks (w := [.live [1, 2, 3, 4, 5, 6, 25], .keep [5, 998]]) (s1 := domain_bindings_1_b5_I l F uz s s1 s2 s3 s4 x s25_1 s25_2 s25_3 s25_4 s1 s2 s3 s4 s25_1 s25_2 s25_3 s25_4) (by kernel_rfl) (lp_cast (domain_bindings_1_b5_ok (some m) self step hs l F N hF hY uz s s1 s2 s3 s4 x s25_1 s25_2 s25_3 s25_4 s1 s2 s3 s4 s25_1 s25_2 s25_3 s25_4 (Sum.inl o37) h26) rfl (by kernel_rfl) (by kernel_rfl))⟩
  ·
   obtain rfl := si h
   exact ⟨(domain_bindings_1_b3_O l F uz s s1 s2 s3 s4 s25_1 s25_2 s25_3 s25_4 x s1 s2 s3 s4 s25_1 s25_2 s25_3 s25_4 o9).2, sp 59 0 [], lp_wks (w := [.live [1, 2, 3, 4, 5, 25, 26], .keep [5, 998]]) (s1 := domain_bindings_1_b3_I l F uz s s1 s2 s3 s4 s25_1 s25_2 s25_3 s25_4 x s1 s2 s3 s4 s25_1 s25_2 s25_3 s25_4) (by kernel_rfl) (lp_cast (domain_bindings_1_b3_ok (some m) self step hs l F N hF hY uz s s1 s2 s3 s4 s25_1 s25_2 s25_3 s25_4 x s1 s2 s3 s4 s25_1 s25_2 s25_3 s25_4 o9 h25) rfl (by kernel_rfl) rfl), lp_wks (w := [.live [1, 2, 3, 4, 5, 6, 25], .keep [5, 998]]) (s1 := domain_bindings_1_b5_I l F uz s s1 s2 s3 s4 x s25_1 s25_2 s25_3 s25_4 s1 s2 s3 s4 s25_1 s25_2 s25_3 s25_4) (by kernel_rfl) (lp_cast (domain_bindings_1_b5_ok (some m) self step hs l F N hF hY uz s s1 s2 s3 s4 x s25_1 s25_2 s25_3 s25_4 s1 s2 s3 s4 s25_1 s25_2 s25_3 s25_4 (Sum.inr o38) h26) rfl (by kernel_rfl) (by kernel_rfl))⟩
theorem domain_bindings_1_r2_ok (self : ∀ ψ : Type, (ψ → (List TSlot) → Option (ψ × Bool)) → Int → (List (List TValue)) → (List TSlot) → Bool → ψ → Option ψ) {φ : Type} (step : φ → (List TSlot) → Option (φ × Bool)) (hs : ∀ (ψ : Type) (step : ψ → (List TSlot) → Option (ψ × Bool)) (a1 : Int) (a2 : List (List TValue)) (a3 : List TSlot) (a4 : Bool) (f0 f1 : ψ), self ψ step a1 a2 a3 a4 f0 = some f1 → AIt Try.prog 60 [.eptr (D.cells ((D.i .i64) a1)), .eptr (D.cells ((D.l (D.l TValue.D)) a2)), .eptr (D.cells ((D.l TSlot.D) a3)), .eptr (D.cells (D.b a4))] domain_bindings_1_enc step f0 f1) (l : Nat) (F : φ → Bx) (N : List Nat) (hF : ∀ f, FOk (F f) N) (hY : ∀ f x r, step f x = some r → AYield Try.prog l (domain_bindings_1_enc x) (F f) (.d (D.b r.2)) (F r.1)) (s1 : Int) (s2 : List (List TValue)) (s3 : List TSlot) (s4 : Bool) (s25_1 : Int) (s25_2 : List (List TValue)) (s25_3 : List TSlot) (s25_4 : Bool) (s : φ) (o : (φ) ⊕ (φ)) (h : self _ (stepOf (domain_bindings_1_r2_rd self step s1 s2 s3 s4 s25_1 s25_2 s25_3 s25_4)) s25_1 s25_2 s25_3 s25_4 (.inl s) = some o) : LpOf Try.prog none (fbody Try.prog 60) [0, 1, 0, 1, 0, 1, 1] ⟨domain_bindings_1_r2_E l F s1 s2 s3 s4 s25_1 s25_2 s25_3 s25_4, domain_bindings_1_r2_BL l F s1 s2 s3 s4 s25_1 s25_2 s25_3 s25_4 s, (domain_bindings_1_r2_FL l F s1 s2 s3 s4 s25_1 s25_2 s25_3 s25_4) s⟩ (domain_bindings_1_r2_O l F s1 s2 s3 s4 s25_1 s25_2 s25_3 s25_4 o).1 (domain_bindings_1_r2_O l F s1 s2 s3 s4 s25_1 s25_2 s25_3 s25_4 o).2 :=
  range_ok (p := [0, 1, 0, 1, 0, 1, 1]) (g := .tmp 25) (ps := #[26]) (assign := codeAt (fbody Try.prog 60) (0 :: [0, 1, 0, 1, 0, 1, 1])) (body := codeAt (fbody Try.prog 60) (1 :: [0, 1, 0, 1, 0, 1, 1])) (by kernel_rfl) (domain_bindings_1_r2_BL l F s1 s2 s3 s4 s25_1 s25_2 s25_3 s25_4) (domain_bindings_1_r2_BT l F s1 s2 s3 s4 s25_1 s25_2 s25_3 s25_4) (domain_bindings_1_r2_FL l F s1 s2 s3 s4 s25_1 s25_2 s25_3 s25_4) (domain_bindings_1_r2_FT l F s1 s2 s3 s4 s25_1 s25_2 s25_3 s25_4) domain_bindings_1_r2_X domain_bindings_1_enc (domain_bindings_1_r2_rd self step s1 s2 s3 s4 s25_1 s25_2 s25_3 s25_4) (gf := 60) (cs := [.eptr (D.cells ((D.i .i64) s25_1)), .eptr (D.cells ((D.l (D.l TValue.D)) s25_2)), .eptr (D.cells ((D.l TSlot.D) s25_3)), .eptr (D.cells (D.b s25_4))]) (by kernel_rfl) (by kernel_rfl) (by kernel_rfl) (fun x => ⟨by kernel_rfl, by kernel_rfl⟩) (fun s us => by kernel_rfl) (fun t us => by kernel_rfl) (fun s => rfl) (fun t => rfl) (by kernel_rfl) (fun t => rfl) (fun s => (hF _).to (hF _)) (fun t => (hF _).to (hF _)) (fun s x o h m us => domain_bindings_1_r2_rnd self step hs l F N hF hY s1 s2 s3 s4 s25_1 s25_2 s25_3 s25_4 s x o h m us) (hs _ (stepOf (domain_bindings_1_r2_rd self step s1 s2 s3 s4 s25_1 s25_2 s25_3 s25_4)) s25_1 s25_2 s25_3 s25_4 (.inl s) o h)
def domain_bindings_1_b1_I {φ : Type} (l : Nat) (F : φ → Bx) (f0 : φ) (s1 : Int) (s2 : List (List TValue)) (s3 : List TSlot) (s4 : Bool) (s19 : Bool) : St := ⟨sp 59 0 [(1, .eptr (D.cells ((D.i .i64) s1))), (2, .eptr (D.cells ((D.l (D.l TValue.D)) s2))), (3, .eptr (D.cells ((D.l TSlot.D) s3))), (4, .eptr (D.cells (D.b s4))), (5, .box 5 0), (19, .d (D.b s19))], [(5, .cells ([.d (.v (.func (.yield l) #[] #[]))]))], (F f0)⟩
def domain_bindings_1_b1_O {φ : Type} (l : Nat) (F : φ → Bx) (f0 : φ) (s1 : Int) (s2 : List (List TValue)) (s3 : List TSlot) (s4 : Bool) (s19 : Bool) (o : φ ⊕ φ) : Ex × St := match o with
  | .inl o => (.normal, ⟨sp 59 0 [(1, .eptr (D.cells ((D.i .i64) s1))), (2, .eptr (D.cells ((D.l (D.l TValue.D)) s2))), (3, .eptr (D.cells ((D.l TSlot.D) s3))), (4, .eptr (D.cells (D.b s4))), (5, .box 5 0)], [(5, .cells ([.d (.v (.func (.yield l) #[] #[]))]))], (F o)⟩)
  | .inr o => (.ret, ⟨sp 59 0 [], [], (F o)⟩)
theorem domain_bindings_1_b1_ok (_ : Option Nat) (self : ∀ ψ : Type, (ψ → (List TSlot) → Option (ψ × Bool)) → Int → (List (List TValue)) → (List TSlot) → Bool → ψ → Option ψ) {φ : Type} (step : φ → (List TSlot) → Option (φ × Bool)) (hs : ∀ (ψ : Type) (step : ψ → (List TSlot) → Option (ψ × Bool)) (a1 : Int) (a2 : List (List TValue)) (a3 : List TSlot) (a4 : Bool) (f0 f1 : ψ), self ψ step a1 a2 a3 a4 f0 = some f1 → AIt Try.prog 60 [.eptr (D.cells ((D.i .i64) a1)), .eptr (D.cells ((D.l (D.l TValue.D)) a2)), .eptr (D.cells ((D.l TSlot.D) a3)), .eptr (D.cells (D.b a4))] domain_bindings_1_enc step f0 f1) (l : Nat) (F : φ → Bx) (N : List Nat) (hF : ∀ f, FOk (F f) N) (hY : ∀ f x r, step f x = some r → AYield Try.prog l (domain_bindings_1_enc x) (F f) (.d (D.b r.2)) (F r.1)) (f0 : φ) (s1 : Int) (s2 : List (List TValue)) (s3 : List TSlot) (s4 : Bool) (s19 : Bool) (o : φ ⊕ φ) (h : domain_bindings_1_b1 self step f0 s1 s2 s3 s4 s19 = some o) : LpOf Try.prog none (fbody Try.prog 60) [1, 0, 1, 1] (domain_bindings_1_b1_I l F f0 s1 s2 s3 s4 s19) (domain_bindings_1_b1_O l F f0 s1 s2 s3 s4 s19 o).1 (domain_bindings_1_b1_O l F f0 s1 s2 s3 s4 s19 o).2 := by
  unfold domain_bindings_1_b1 at h
  cases s19 with
  | true =>
   replace h := iteT h
   obtain ⟨r4, h6, h⟩ := bS h
   obtain ⟨o13, h11, h⟩ := bS h
   replace h := sumE_some h
   rcases h with ⟨o14, rfl, h⟩ | ⟨o15, rfl, h⟩
   ·
    obtain rfl := si h
    exact (runB_arr mixed [(25, .ret (.clo (.func 60) [] [.eptr (D.cells ((D.i .i64) r4.1)), .eptr (D.cells ((D.l (D.l TValue.D)) r4.2.1)), .eptr (D.cells ((D.l TSlot.D) r4.2.2.1)), .eptr (D.cells (D.b r4.2.2.2))]))] [⟨[0, 1, 0, 1, 0, 1, 1], [.live [1, 2, 3, 4, 5, 25], .keep [5]], .normal, (domain_bindings_1_r2_O l F s1 s2 s3 s4 r4.1 r4.2.1 r4.2.2.1 r4.2.2.2 (Sum.inl o14)).2⟩] [.live [1, 2, 3, 4, 5], .keep [5]] (ai (domain_bindings_ok s2 (intVal .add .i64 s1 1) s3 s4 r4 h6) (ai (domain_bindings_1_r2_ok self step hs l F N hF hY s1 s2 s3 s4 r4.1 r4.2.1 r4.2.2.1 r4.2.2.2 f0 (Sum.inl o14) h11) (ti))) (by kernel_rfl)).lp
   ·
    obtain rfl := si h
    exact (runB_arr mixed [(25, .ret (.clo (.func 60) [] [.eptr (D.cells ((D.i .i64) r4.1)), .eptr (D.cells ((D.l (D.l TValue.D)) r4.2.1)), .eptr (D.cells ((D.l TSlot.D) r4.2.2.1)), .eptr (D.cells (D.b r4.2.2.2))]))] [⟨[0, 1, 0, 1, 0, 1, 1], [.live [1, 2, 3, 4, 5, 25], .keep [5]], .ret, (domain_bindings_1_r2_O l F s1 s2 s3 s4 r4.1 r4.2.1 r4.2.2.1 r4.2.2.2 (Sum.inr o15)).2⟩] [.live [], .keep []] (ai (domain_bindings_ok s2 (intVal .add .i64 s1 1) s3 s4 r4 h6) (ai (domain_bindings_1_r2_ok self step hs l F N hF hY s1 s2 s3 s4 r4.1 r4.2.1 r4.2.2.1 r4.2.2.2 f0 (Sum.inr o15) h11) (ti))) (by kernel_rfl)).lp
  | false =>
   replace h := iteF h
   obtain rfl := si h
   exact (runB_arr mixed [] [] [.live [1, 2, 3, 4, 5], .keep [5]] (ti) (by kernel_rfl)).lp
def domain_bindings_1_b8_I {φ : Type} (l : Nat) (F : φ → Bx) (uz : List Value) (f0 : φ) (s1 : Int) (s2 : List (List TValue)) (s3 : List TSlot) (s4 : Bool) (s34 : List TValue) (s35 : Int) (s36 : Int) (s52_1 : Int) (s52_2 : List (List TValue)) (s52_3 : List TSlot) (s52_4 : Bool) (s53 : List TSlot) (w998_1 : Int) (w998_2 : List (List TValue)) (w998_3 : List TSlot) (w998_4 : Bool) (w998_5 : List TValue) (w998_6 : Int) (w998_7 : Int) (w998_8 : Int) (w998_9 : List (List TValue)) (w998_10 : List TSlot) (w998_11 : Bool) : St := ⟨sp 59 0 [(1, .eptr (D.cells ((D.i .i64) s1))), (2, .eptr (D.cells ((D.l (D.l TValue.D)) s2))), (3, .eptr (D.cells ((D.l TSlot.D) s3))), (4, .eptr (D.cells (D.b s4))), (5, .box 5 0), (34, .d ((D.l TValue.D) s34)), (35, .d ((D.i .i64) s35)), (36, .d ((D.i .i64) s36)), (52, .clo (.func 60) [] [.eptr (D.cells ((D.i .i64) s52_1)), .eptr (D.cells ((D.l (D.l TValue.D)) s52_2)), .eptr (D.cells ((D.l TSlot.D) s52_3)), .eptr (D.cells (D.b s52_4))]), (53, .d ((D.l TSlot.D) s53))], [(5, .cells ([.d (.v (.func (.yield l) #[] #[]))])), (998, .vals (sp 59 0 [(1, .eptr (D.cells ((D.i .i64) w998_1))), (2, .eptr (D.cells ((D.l (D.l TValue.D)) w998_2))), (3, .eptr (D.cells ((D.l TSlot.D) w998_3))), (4, .eptr (D.cells (D.b w998_4))), (5, .box 5 0), (34, .d ((D.l TValue.D) w998_5)), (35, .d ((D.i .i64) w998_6)), (36, .d ((D.i .i64) w998_7)), (52, .clo (.func 60) [] [.eptr (D.cells ((D.i .i64) w998_8)), .eptr (D.cells ((D.l (D.l TValue.D)) w998_9)), .eptr (D.cells ((D.l TSlot.D) w998_10)), .eptr (D.cells (D.b w998_11))])]) uz)], (F f0)⟩
def domain_bindings_1_b8_O {φ : Type} (l : Nat) (F : φ → Bx) (uz : List Value) (f0 : φ) (s1 : Int) (s2 : List (List TValue)) (s3 : List TSlot) (s4 : Bool) (s34 : List TValue) (s35 : Int) (s36 : Int) (s52_1 : Int) (s52_2 : List (List TValue)) (s52_3 : List TSlot) (s52_4 : Bool) (s53 : List TSlot) (w998_1 : Int) (w998_2 : List (List TValue)) (w998_3 : List TSlot) (w998_4 : Bool) (w998_5 : List TValue) (w998_6 : Int) (w998_7 : Int) (w998_8 : Int) (w998_9 : List (List TValue)) (w998_10 : List TSlot) (w998_11 : Bool) (o : Unit) : Ex × St := (.normal, ⟨sp 59 0 [(1, .eptr (D.cells ((D.i .i64) s1))), (2, .eptr (D.cells ((D.l (D.l TValue.D)) s2))), (3, .eptr (D.cells ((D.l TSlot.D) s3))), (4, .eptr (D.cells (D.b s4))), (5, .box 5 0), (10, .d ((D.l TSlot.D) s53)), (34, .d ((D.l TValue.D) s34)), (35, .d ((D.i .i64) s35)), (36, .d ((D.i .i64) s36)), (52, .clo (.func 60) [] [.eptr (D.cells ((D.i .i64) s52_1)), .eptr (D.cells ((D.l (D.l TValue.D)) s52_2)), .eptr (D.cells ((D.l TSlot.D) s52_3)), .eptr (D.cells (D.b s52_4))])], [(5, .cells ([.d (.v (.func (.yield l) #[] #[]))])), (998, .vals (sp 59 0 [(1, .eptr (D.cells ((D.i .i64) w998_1))), (2, .eptr (D.cells ((D.l (D.l TValue.D)) w998_2))), (3, .eptr (D.cells ((D.l TSlot.D) w998_3))), (4, .eptr (D.cells (D.b w998_4))), (5, .box 5 0), (34, .d ((D.l TValue.D) w998_5)), (35, .d ((D.i .i64) w998_6)), (36, .d ((D.i .i64) w998_7)), (52, .clo (.func 60) [] [.eptr (D.cells ((D.i .i64) w998_8)), .eptr (D.cells ((D.l (D.l TValue.D)) w998_9)), .eptr (D.cells ((D.l TSlot.D) w998_10)), .eptr (D.cells (D.b w998_11))])]) uz)], (F f0)⟩)
theorem domain_bindings_1_b8_ok (rd : Option Nat) (self : ∀ ψ : Type, (ψ → (List TSlot) → Option (ψ × Bool)) → Int → (List (List TValue)) → (List TSlot) → Bool → ψ → Option ψ) {φ : Type} (step : φ → (List TSlot) → Option (φ × Bool)) (hs : ∀ (ψ : Type) (step : ψ → (List TSlot) → Option (ψ × Bool)) (a1 : Int) (a2 : List (List TValue)) (a3 : List TSlot) (a4 : Bool) (f0 f1 : ψ), self ψ step a1 a2 a3 a4 f0 = some f1 → AIt Try.prog 60 [.eptr (D.cells ((D.i .i64) a1)), .eptr (D.cells ((D.l (D.l TValue.D)) a2)), .eptr (D.cells ((D.l TSlot.D) a3)), .eptr (D.cells (D.b a4))] domain_bindings_1_enc step f0 f1) (l : Nat) (F : φ → Bx) (N : List Nat) (hF : ∀ f, FOk (F f) N) (hY : ∀ f x r, step f x = some r → AYield Try.prog l (domain_bindings_1_enc x) (F f) (.d (D.b r.2)) (F r.1)) (uz : List Value) (f0 : φ) (s1 : Int) (s2 : List (List TValue)) (s3 : List TSlot) (s4 : Bool) (s34 : List TValue) (s35 : Int) (s36 : Int) (s52_1 : Int) (s52_2 : List (List TValue)) (s52_3 : List TSlot) (s52_4 : Bool) (s53 : List TSlot) (w998_1 : Int) (w998_2 : List (List TValue)) (w998_3 : List TSlot) (w998_4 : Bool) (w998_5 : List TValue) (w998_6 : Int) (w998_7 : Int) (w998_8 : Int) (w998_9 : List (List TValue)) (w998_10 : List TSlot) (w998_11 : Bool) (o : Unit) (h : domain_bindings_1_b8 self step f0 s1 s2 s3 s4 s34 s35 s36 s52_1 s52_2 s52_3 s52_4 s53 w998_1 w998_2 w998_3 w998_4 w998_5 w998_6 w998_7 w998_8 w998_9 w998_10 w998_11 = some o) : LpOf Try.prog rd (fbody Try.prog 60) [0, 0, 1, 1, 1, 0, 0, 1, 1, 0, 0, 1, 1, 1, 1] (domain_bindings_1_b8_I l F uz f0 s1 s2 s3 s4 s34 s35 s36 s52_1 s52_2 s52_3 s52_4 s53 w998_1 w998_2 w998_3 w998_4 w998_5 w998_6 w998_7 w998_8 w998_9 w998_10 w998_11) (domain_bindings_1_b8_O l F uz f0 s1 s2 s3 s4 s34 s35 s36 s52_1 s52_2 s52_3 s52_4 s53 w998_1 w998_2 w998_3 w998_4 w998_5 w998_6 w998_7 w998_8 w998_9 w998_10 w998_11 o).1 (domain_bindings_1_b8_O l F uz f0 s1 s2 s3 s4 s34 s35 s36 s52_1 s52_2 s52_3 s52_4 s53 w998_1 w998_2 w998_3 w998_4 w998_5 w998_6 w998_7 w998_8 w998_9 w998_10 w998_11 o).2 := by
  unfold domain_bindings_1_b8 at h
  obtain rfl := si h
  exact (runB_arr mixed [] [] [.live [1, 2, 3, 4, 5, 10, 34, 35, 36, 52], .keep [5, 998]] (ti) (by kernel_rfl)).lp
def domain_bindings_1_b10_I {φ : Type} (l : Nat) (F : φ → Bx) (uz : List Value) (f0 : φ) (s1 : Int) (s2 : List (List TValue)) (s3 : List TSlot) (s4 : Bool) (s10 : List TSlot) (s34 : List TValue) (s35 : Int) (s36 : Int) (s52_1 : Int) (s52_2 : List (List TValue)) (s52_3 : List TSlot) (s52_4 : Bool) (w998_1 : Int) (w998_2 : List (List TValue)) (w998_3 : List TSlot) (w998_4 : Bool) (w998_5 : List TValue) (w998_6 : Int) (w998_7 : Int) (w998_8 : Int) (w998_9 : List (List TValue)) (w998_10 : List TSlot) (w998_11 : Bool) : St := ⟨sp 59 0 [(1, .eptr (D.cells ((D.i .i64) s1))), (2, .eptr (D.cells ((D.l (D.l TValue.D)) s2))), (3, .eptr (D.cells ((D.l TSlot.D) s3))), (4, .eptr (D.cells (D.b s4))), (5, .box 5 0), (10, .d ((D.l TSlot.D) s10)), (34, .d ((D.l TValue.D) s34)), (35, .d ((D.i .i64) s35)), (36, .d ((D.i .i64) s36)), (52, .clo (.func 60) [] [.eptr (D.cells ((D.i .i64) s52_1)), .eptr (D.cells ((D.l (D.l TValue.D)) s52_2)), .eptr (D.cells ((D.l TSlot.D) s52_3)), .eptr (D.cells (D.b s52_4))])], [(5, .cells ([.d (.v (.func (.yield l) #[] #[]))])), (998, .vals (sp 59 0 [(1, .eptr (D.cells ((D.i .i64) w998_1))), (2, .eptr (D.cells ((D.l (D.l TValue.D)) w998_2))), (3, .eptr (D.cells ((D.l TSlot.D) w998_3))), (4, .eptr (D.cells (D.b w998_4))), (5, .box 5 0), (34, .d ((D.l TValue.D) w998_5)), (35, .d ((D.i .i64) w998_6)), (36, .d ((D.i .i64) w998_7)), (52, .clo (.func 60) [] [.eptr (D.cells ((D.i .i64) w998_8)), .eptr (D.cells ((D.l (D.l TValue.D)) w998_9)), .eptr (D.cells ((D.l TSlot.D) w998_10)), .eptr (D.cells (D.b w998_11))])]) uz)], (F f0)⟩
def domain_bindings_1_b10_O {φ : Type} (l : Nat) (F : φ → Bx) (uz : List Value) (f0 : φ) (s1 : Int) (s2 : List (List TValue)) (s3 : List TSlot) (s4 : Bool) (s10 : List TSlot) (s34 : List TValue) (s35 : Int) (s36 : Int) (s52_1 : Int) (s52_2 : List (List TValue)) (s52_3 : List TSlot) (s52_4 : Bool) (w998_1 : Int) (w998_2 : List (List TValue)) (w998_3 : List TSlot) (w998_4 : Bool) (w998_5 : List TValue) (w998_6 : Int) (w998_7 : Int) (w998_8 : Int) (w998_9 : List (List TValue)) (w998_10 : List TSlot) (w998_11 : Bool) (o : φ ⊕ φ) : Ex × St := match o with
  | .inl o => (.normal, ⟨sp 59 0 [], [(5, .cells ([.d (.v (.func (.yield l) #[] #[]))])), (998, .vals (sp 59 0 [(1, .eptr (D.cells ((D.i .i64) w998_1))), (2, .eptr (D.cells ((D.l (D.l TValue.D)) w998_2))), (3, .eptr (D.cells ((D.l TSlot.D) w998_3))), (4, .eptr (D.cells (D.b w998_4))), (5, .box 5 0), (34, .d ((D.l TValue.D) w998_5)), (35, .d ((D.i .i64) w998_6)), (36, .d ((D.i .i64) w998_7)), (52, .clo (.func 60) [] [.eptr (D.cells ((D.i .i64) w998_8)), .eptr (D.cells ((D.l (D.l TValue.D)) w998_9)), .eptr (D.cells ((D.l TSlot.D) w998_10)), .eptr (D.cells (D.b w998_11))])]) uz)], (F o)⟩)
  | .inr o => (.ret, ⟨sp 59 0 [], [(5, .cells ([.d (.v (.func (.yield l) #[] #[]))])), (998, .vals (sp 59 0 [(1, .eptr (D.cells ((D.i .i64) w998_1))), (2, .eptr (D.cells ((D.l (D.l TValue.D)) w998_2))), (3, .eptr (D.cells ((D.l TSlot.D) w998_3))), (4, .eptr (D.cells (D.b w998_4))), (5, .box 5 0), (34, .d ((D.l TValue.D) w998_5)), (35, .d ((D.i .i64) w998_6)), (36, .d ((D.i .i64) w998_7)), (52, .clo (.func 60) [] [.eptr (D.cells ((D.i .i64) w998_8)), .eptr (D.cells ((D.l (D.l TValue.D)) w998_9)), .eptr (D.cells ((D.l TSlot.D) w998_10)), .eptr (D.cells (D.b w998_11))])]) uz)], (F o)⟩)
theorem domain_bindings_1_b10_ok (rd : Option Nat) (self : ∀ ψ : Type, (ψ → (List TSlot) → Option (ψ × Bool)) → Int → (List (List TValue)) → (List TSlot) → Bool → ψ → Option ψ) {φ : Type} (step : φ → (List TSlot) → Option (φ × Bool)) (hs : ∀ (ψ : Type) (step : ψ → (List TSlot) → Option (ψ × Bool)) (a1 : Int) (a2 : List (List TValue)) (a3 : List TSlot) (a4 : Bool) (f0 f1 : ψ), self ψ step a1 a2 a3 a4 f0 = some f1 → AIt Try.prog 60 [.eptr (D.cells ((D.i .i64) a1)), .eptr (D.cells ((D.l (D.l TValue.D)) a2)), .eptr (D.cells ((D.l TSlot.D) a3)), .eptr (D.cells (D.b a4))] domain_bindings_1_enc step f0 f1) (l : Nat) (F : φ → Bx) (N : List Nat) (hF : ∀ f, FOk (F f) N) (hY : ∀ f x r, step f x = some r → AYield Try.prog l (domain_bindings_1_enc x) (F f) (.d (D.b r.2)) (F r.1)) (uz : List Value) (f0 : φ) (s1 : Int) (s2 : List (List TValue)) (s3 : List TSlot) (s4 : Bool) (s10 : List TSlot) (s34 : List TValue) (s35 : Int) (s36 : Int) (s52_1 : Int) (s52_2 : List (List TValue)) (s52_3 : List TSlot) (s52_4 : Bool) (w998_1 : Int) (w998_2 : List (List TValue)) (w998_3 : List TSlot) (w998_4 : Bool) (w998_5 : List TValue) (w998_6 : Int) (w998_7 : Int) (w998_8 : Int) (w998_9 : List (List TValue)) (w998_10 : List TSlot) (w998_11 : Bool) (o : φ ⊕ φ) (h : domain_bindings_1_b10 self step f0 s1 s2 s3 s4 s10 s34 s35 s36 s52_1 s52_2 s52_3 s52_4 w998_1 w998_2 w998_3 w998_4 w998_5 w998_6 w998_7 w998_8 w998_9 w998_10 w998_11 = some o) : LpOf Try.prog rd (fbody Try.prog 60) [1, 0, 1, 1, 1, 0, 0, 1, 1, 0, 0, 1, 1, 1, 1] (domain_bindings_1_b10_I l F uz f0 s1 s2 s3 s4 s10 s34 s35 s36 s52_1 s52_2 s52_3 s52_4 w998_1 w998_2 w998_3 w998_4 w998_5 w998_6 w998_7 w998_8 w998_9 w998_10 w998_11) (domain_bindings_1_b10_O l F uz f0 s1 s2 s3 s4 s10 s34 s35 s36 s52_1 s52_2 s52_3 s52_4 w998_1 w998_2 w998_3 w998_4 w998_5 w998_6 w998_7 w998_8 w998_9 w998_10 w998_11 o).1 (domain_bindings_1_b10_O l F uz f0 s1 s2 s3 s4 s10 s34 s35 s36 s52_1 s52_2 s52_3 s52_4 w998_1 w998_2 w998_3 w998_4 w998_5 w998_6 w998_7 w998_8 w998_9 w998_10 w998_11 o).2 := by
  unfold domain_bindings_1_b10 at h
  rcases yldE_some h with ⟨f28, h21, h⟩ | ⟨f29, h22, h⟩
  ·
   obtain rfl := si h
   exact (runB_arr mixed [(56, .own false (.d (D.b true)) [] (F f28))] [] [.live [], .keep [5, 998]] (ai (hY f0 s10 (f28, true) h21) (ai (Or.inr ⟨(hF _).nms.trans (hF _).nms.symm, (hF _).far⟩ : F f28 = F f0 ∨ (names (F f28) = names (F f0) ∧ Far (F f28))) (ti))) (by kernel_rfl)).lp
  ·
   obtain rfl := si h
   exact (runB_arr mixed [(56, .own false (.d (D.b false)) [] (F f29))] [] [.live [], .keep [5, 998]] (ai (hY f0 s10 (f29, false) h22) (ai (Or.inr ⟨(hF _).nms.trans (hF _).nms.symm, (hF _).far⟩ : F f29 = F f0 ∨ (names (F f29) = names (F f0) ∧ Far (F f29))) (ti))) (by kernel_rfl)).lp
def domain_bindings_1_r7_E {φ : Type} (l : Nat) (F : φ → Bx) (s1 : Int) (s2 : List (List TValue)) (s3 : List TSlot) (s4 : Bool) (s34 : List TValue) (s35 : Int) (s36 : Int) (s52_1 : Int) (s52_2 : List (List TValue)) (s52_3 : List TSlot) (s52_4 : Bool) : List A := sp 59 0 [(1, .eptr (D.cells ((D.i .i64) s1))), (2, .eptr (D.cells ((D.l (D.l TValue.D)) s2))), (3, .eptr (D.cells ((D.l TSlot.D) s3))), (4, .eptr (D.cells (D.b s4))), (5, .box 5 0), (34, .d ((D.l TValue.D) s34)), (35, .d ((D.i .i64) s35)), (36, .d ((D.i .i64) s36)), (52, .clo (.func 60) [] [.eptr (D.cells ((D.i .i64) s52_1)), .eptr (D.cells ((D.l (D.l TValue.D)) s52_2)), .eptr (D.cells ((D.l TSlot.D) s52_3)), .eptr (D.cells (D.b s52_4))])]
def domain_bindings_1_r7_BL {φ : Type} (l : Nat) (F : φ → Bx) (s1 : Int) (s2 : List (List TValue)) (s3 : List TSlot) (s4 : Bool) (s34 : List TValue) (s35 : Int) (s36 : Int) (s52_1 : Int) (s52_2 : List (List TValue)) (s52_3 : List TSlot) (s52_4 : Bool) (s : φ) : Bx := [(5, .cells ([.d (.v (.func (.yield l) #[] #[]))]))]
def domain_bindings_1_r7_BT {φ : Type} (l : Nat) (F : φ → Bx) (s1 : Int) (s2 : List (List TValue)) (s3 : List TSlot) (s4 : Bool) (s34 : List TValue) (s35 : Int) (s36 : Int) (s52_1 : Int) (s52_2 : List (List TValue)) (s52_3 : List TSlot) (s52_4 : Bool) (t : φ) : Bx := [(5, .cells ([.d (.v (.func (.yield l) #[] #[]))]))]
def domain_bindings_1_r7_X {φ : Type} (t : φ) : Ex := .ret
def domain_bindings_1_r7_FL {φ : Type} (l : Nat) (F : φ → Bx) (s1 : Int) (s2 : List (List TValue)) (s3 : List TSlot) (s4 : Bool) (s34 : List TValue) (s35 : Int) (s36 : Int) (s52_1 : Int) (s52_2 : List (List TValue)) (s52_3 : List TSlot) (s52_4 : Bool) (s : φ) : Bx := F s
def domain_bindings_1_r7_FT {φ : Type} (l : Nat) (F : φ → Bx) (s1 : Int) (s2 : List (List TValue)) (s3 : List TSlot) (s4 : Bool) (s34 : List TValue) (s35 : Int) (s36 : Int) (s52_1 : Int) (s52_2 : List (List TValue)) (s52_3 : List TSlot) (s52_4 : Bool) (t : φ) : Bx := F t
def domain_bindings_1_r7_O {φ : Type} (l : Nat) (F : φ → Bx) (s1 : Int) (s2 : List (List TValue)) (s3 : List TSlot) (s4 : Bool) (s34 : List TValue) (s35 : Int) (s36 : Int) (s52_1 : Int) (s52_2 : List (List TValue)) (s52_3 : List TSlot) (s52_4 : Bool) (o : (φ) ⊕ (φ)) : Ex × St := (rex domain_bindings_1_r7_X o, ⟨domain_bindings_1_r7_E l F s1 s2 s3 s4 s34 s35 s36 s52_1 s52_2 s52_3 s52_4, rbx (domain_bindings_1_r7_BL l F s1 s2 s3 s4 s34 s35 s36 s52_1 s52_2 s52_3 s52_4) (domain_bindings_1_r7_BT l F s1 s2 s3 s4 s34 s35 s36 s52_1 s52_2 s52_3 s52_4) o, rbx (domain_bindings_1_r7_FL l F s1 s2 s3 s4 s34 s35 s36 s52_1 s52_2 s52_3 s52_4) (domain_bindings_1_r7_FT l F s1 s2 s3 s4 s34 s35 s36 s52_1 s52_2 s52_3 s52_4) o⟩)
theorem domain_bindings_1_r7_rnd (self : ∀ ψ : Type, (ψ → (List TSlot) → Option (ψ × Bool)) → Int → (List (List TValue)) → (List TSlot) → Bool → ψ → Option ψ) {φ : Type} (step : φ → (List TSlot) → Option (φ × Bool)) (hs : ∀ (ψ : Type) (step : ψ → (List TSlot) → Option (ψ × Bool)) (a1 : Int) (a2 : List (List TValue)) (a3 : List TSlot) (a4 : Bool) (f0 f1 : ψ), self ψ step a1 a2 a3 a4 f0 = some f1 → AIt Try.prog 60 [.eptr (D.cells ((D.i .i64) a1)), .eptr (D.cells ((D.l (D.l TValue.D)) a2)), .eptr (D.cells ((D.l TSlot.D) a3)), .eptr (D.cells (D.b a4))] domain_bindings_1_enc step f0 f1) (l : Nat) (F : φ → Bx) (N : List Nat) (hF : ∀ f, FOk (F f) N) (hY : ∀ f x r, step f x = some r → AYield Try.prog l (domain_bindings_1_enc x) (F f) (.d (D.b r.2)) (F r.1)) (s1 : Int) (s2 : List (List TValue)) (s3 : List TSlot) (s4 : Bool) (s34 : List TValue) (s35 : Int) (s36 : Int) (s52_1 : Int) (s52_2 : List (List TValue)) (s52_3 : List TSlot) (s52_4 : Bool) (s : φ) (x : (List TSlot)) (o : (φ) ⊕ (φ)) (h : domain_bindings_1_r7_rd self step s1 s2 s3 s4 s34 s35 s36 s52_1 s52_2 s52_3 s52_4 s x = some o) (m : Nat) (uz : List Value) : ∃ M E1, LpOf Try.prog (some m) (fbody Try.prog 60) (0 :: [0, 1, 1, 1, 0, 0, 1, 1, 0, 0, 1, 1, 1, 1]) ⟨setPs (domain_bindings_1_r7_E l F s1 s2 s3 s4 s34 s35 s36 s52_1 s52_2 s52_3 s52_4) ((Array.toList #[53]).zip (domain_bindings_1_enc x)), domain_bindings_1_r7_BL l F s1 s2 s3 s4 s34 s35 s36 s52_1 s52_2 s52_3 s52_4 s ++ [(vn, .vals (domain_bindings_1_r7_E l F s1 s2 s3 s4 s34 s35 s36 s52_1 s52_2 s52_3 s52_4) uz)], (domain_bindings_1_r7_FL l F s1 s2 s3 s4 s34 s35 s36 s52_1 s52_2 s52_3 s52_4) s⟩ .normal M ∧
    LpOf Try.prog (some m) (fbody Try.prog 60) (1 :: [0, 1, 1, 1, 0, 0, 1, 1, 0, 0, 1, 1, 1, 1]) M (rex domain_bindings_1_r7_X o) ⟨E1, rbx (domain_bindings_1_r7_BL l F s1 s2 s3 s4 s34 s35 s36 s52_1 s52_2 s52_3 s52_4) (domain_bindings_1_r7_BT l F s1 s2 s3 s4 s34 s35 s36 s52_1 s52_2 s52_3 s52_4) o ++ [(vn, .vals (domain_bindings_1_r7_E l F s1 s2 s3 s4 s34 s35 s36 s52_1 s52_2 s52_3 s52_4) uz)], rbx (domain_bindings_1_r7_FL l F s1 s2 s3 s4 s34 s35 s36 s52_1 s52_2 s52_3 s52_4) (domain_bindings_1_r7_FT l F s1 s2 s3 s4 s34 s35 s36 s52_1 s52_2 s52_3 s52_4) o⟩ := by
  unfold domain_bindings_1_r7_rd at h
  obtain ⟨o27, h27, h⟩ := bS h
  obtain ⟨o30, h28, h⟩ := bS h
  replace h := sumE_some h
  rcases h with ⟨o39, rfl, h⟩ | ⟨o40, rfl, h⟩
  ·
   obtain rfl := si h
   exact ⟨(domain_bindings_1_b8_O l F uz s s1 s2 s3 s4 s34 s35 s36 s52_1 s52_2 s52_3 s52_4 x s1 s2 s3 s4 s34 s35 s36 s52_1 s52_2 s52_3 s52_4 o27).2, sp 59 0 [], lp_wks (w := [.live [1, 2, 3, 4, 5, 34, 35, 36, 52, 53], .keep [5, 998]]) (s1 := domain_bindings_1_b8_I l F uz s s1 s2 s3 s4 s34 s35 s36 s52_1 s52_2 s52_3 s52_4 x s1 s2 s3 s4 s34 s35 s36 s52_1 s52_2 s52_3 s52_4) (by kernel_rfl) (lp_cast (domain_bindings_1_b8_ok (some m) self step hs l F N hF hY uz s s1 s2 s3 s4 s34 s35 s36 s52_1 s52_2 s52_3 s52_4 x s1 s2 s3 s4 s34 s35 s36 s52_1 s52_2 s52_3 s52_4 o27 h27) rfl (by kernel_rfl) rfl), lp_wks (w := [.live [1, 2, 3, 4, 5, 10, 34, 35, 36, 52], .keep [5, 998]]) (s1 := domain_bindings_1_b10_I l F uz s s1 s2 s3 s4 x s34 s35 s36 s52_1 s52_2 s52_3 s52_4 s1 s2 s3 s4 s34 s35 s36 s52_1 s52_2 s52_3 s52_4) (by kernel_rfl) (lp_cast (domain_bindings_1_b10_ok (some m) self step hs l F N hF hY uz s s1 s2 s3 s4 x s34 s35 s36 s52_1 s52_2 s52_3 s52_4 s1 s2 s3 s4 s34 s35 s36 s52_1 s52_2 s52_3 s52_4 (Sum.inl o39) h28) rfl (by kernel_rfl) (by kernel_rfl))⟩
  ·
   obtain rfl := si h
   exact ⟨(domain_bindings_1_b8_O l F uz s s1 s2 s3 s4 s34 s35 s36 s52_1 s52_2 s52_3 s52_4 x s1 s2 s3 s4 s34 s35 s36 s52_1 s52_2 s52_3 s52_4 o27).2, sp 59 0 [], lp_wks (w := [.live [1, 2, 3, 4, 5, 34, 35, 36, 52, 53], .keep [5, 998]]) (s1 := domain_bindings_1_b8_I l F uz s s1 s2 s3 s4 s34 s35 s36 s52_1 s52_2 s52_3 s52_4 x s1 s2 s3 s4 s34 s35 s36 s52_1 s52_2 s52_3 s52_4) (by kernel_rfl) (lp_cast (domain_bindings_1_b8_ok (some m) self step hs l F N hF hY uz s s1 s2 s3 s4 s34 s35 s36 s52_1 s52_2 s52_3 s52_4 x s1 s2 s3 s4 s34 s35 s36 s52_1 s52_2 s52_3 s52_4 o27 h27) rfl (by kernel_rfl) rfl), lp_wks (w := [.live [1, 2, 3, 4, 5, 10, 34, 35, 36, 52], .keep [5, 998]]) (s1 := domain_bindings_1_b10_I l F uz s s1 s2 s3 s4 x s34 s35 s36 s52_1 s52_2 s52_3 s52_4 s1 s2 s3 s4 s34 s35 s36 s52_1 s52_2 s52_3 s52_4) (by kernel_rfl) (lp_cast (domain_bindings_1_b10_ok (some m) self step hs l F N hF hY uz s s1 s2 s3 s4 x s34 s35 s36 s52_1 s52_2 s52_3 s52_4 s1 s2 s3 s4 s34 s35 s36 s52_1 s52_2 s52_3 s52_4 (Sum.inr o40) h28) rfl (by kernel_rfl) (by kernel_rfl))⟩
theorem domain_bindings_1_r7_ok (self : ∀ ψ : Type, (ψ → (List TSlot) → Option (ψ × Bool)) → Int → (List (List TValue)) → (List TSlot) → Bool → ψ → Option ψ) {φ : Type} (step : φ → (List TSlot) → Option (φ × Bool)) (hs : ∀ (ψ : Type) (step : ψ → (List TSlot) → Option (ψ × Bool)) (a1 : Int) (a2 : List (List TValue)) (a3 : List TSlot) (a4 : Bool) (f0 f1 : ψ), self ψ step a1 a2 a3 a4 f0 = some f1 → AIt Try.prog 60 [.eptr (D.cells ((D.i .i64) a1)), .eptr (D.cells ((D.l (D.l TValue.D)) a2)), .eptr (D.cells ((D.l TSlot.D) a3)), .eptr (D.cells (D.b a4))] domain_bindings_1_enc step f0 f1) (l : Nat) (F : φ → Bx) (N : List Nat) (hF : ∀ f, FOk (F f) N) (hY : ∀ f x r, step f x = some r → AYield Try.prog l (domain_bindings_1_enc x) (F f) (.d (D.b r.2)) (F r.1)) (s1 : Int) (s2 : List (List TValue)) (s3 : List TSlot) (s4 : Bool) (s34 : List TValue) (s35 : Int) (s36 : Int) (s52_1 : Int) (s52_2 : List (List TValue)) (s52_3 : List TSlot) (s52_4 : Bool) (s : φ) (o : (φ) ⊕ (φ)) (h : self _ (stepOf (domain_bindings_1_r7_rd self step s1 s2 s3 s4 s34 s35 s36 s52_1 s52_2 s52_3 s52_4)) s52_1 s52_2 s52_3 s52_4 (.inl s) = some o) : LpOf Try.prog none (fbody Try.prog 60) [0, 1, 1, 1, 0, 0, 1, 1, 0, 0, 1, 1, 1, 1] ⟨domain_bindings_1_r7_E l F s1 s2 s3 s4 s34 s35 s36 s52_1 s52_2 s52_3 s52_4, domain_bindings_1_r7_BL l F s1 s2 s3 s4 s34 s35 s36 s52_1 s52_2 s52_3 s52_4 s, (domain_bindings_1_r7_FL l F s1 s2 s3 s4 s34 s35 s36 s52_1 s52_2 s52_3 s52_4) s⟩ (domain_bindings_1_r7_O l F s1 s2 s3 s4 s34 s35 s36 s52_1 s52_2 s52_3 s52_4 o).1 (domain_bindings_1_r7_O l F s1 s2 s3 s4 s34 s35 s36 s52_1 s52_2 s52_3 s52_4 o).2 :=
  range_ok (p := [0, 1, 1, 1, 0, 0, 1, 1, 0, 0, 1, 1, 1, 1]) (g := .tmp 52) (ps := #[53]) (assign := codeAt (fbody Try.prog 60) (0 :: [0, 1, 1, 1, 0, 0, 1, 1, 0, 0, 1, 1, 1, 1])) (body := codeAt (fbody Try.prog 60) (1 :: [0, 1, 1, 1, 0, 0, 1, 1, 0, 0, 1, 1, 1, 1])) (by kernel_rfl) (domain_bindings_1_r7_BL l F s1 s2 s3 s4 s34 s35 s36 s52_1 s52_2 s52_3 s52_4) (domain_bindings_1_r7_BT l F s1 s2 s3 s4 s34 s35 s36 s52_1 s52_2 s52_3 s52_4) (domain_bindings_1_r7_FL l F s1 s2 s3 s4 s34 s35 s36 s52_1 s52_2 s52_3 s52_4) (domain_bindings_1_r7_FT l F s1 s2 s3 s4 s34 s35 s36 s52_1 s52_2 s52_3 s52_4) domain_bindings_1_r7_X domain_bindings_1_enc (domain_bindings_1_r7_rd self step s1 s2 s3 s4 s34 s35 s36 s52_1 s52_2 s52_3 s52_4) (gf := 60) (cs := [.eptr (D.cells ((D.i .i64) s52_1)), .eptr (D.cells ((D.l (D.l TValue.D)) s52_2)), .eptr (D.cells ((D.l TSlot.D) s52_3)), .eptr (D.cells (D.b s52_4))]) (by kernel_rfl) (by kernel_rfl) (by kernel_rfl) (fun x => ⟨by kernel_rfl, by kernel_rfl⟩) (fun s us => by kernel_rfl) (fun t us => by kernel_rfl) (fun s => rfl) (fun t => rfl) (by kernel_rfl) (fun t => rfl) (fun s => (hF _).to (hF _)) (fun t => (hF _).to (hF _)) (fun s x o h m us => domain_bindings_1_r7_rnd self step hs l F N hF hY s1 s2 s3 s4 s34 s35 s36 s52_1 s52_2 s52_3 s52_4 s x o h m us) (hs _ (stepOf (domain_bindings_1_r7_rd self step s1 s2 s3 s4 s34 s35 s36 s52_1 s52_2 s52_3 s52_4)) s52_1 s52_2 s52_3 s52_4 (.inl s) o h)
def domain_bindings_1_l6_I {φ : Type} (l : Nat) (F : φ → Bx) (s1 : Int) (s2 : List (List TValue)) (s3 : List TSlot) (s4 : Bool) (s34 : List TValue) (s35 : Int) (f0 : φ) (s36 : Int) : St := ⟨sp 59 0 [(1, .eptr (D.cells ((D.i .i64) s1))), (2, .eptr (D.cells ((D.l (D.l TValue.D)) s2))), (3, .eptr (D.cells ((D.l TSlot.D) s3))), (4, .eptr (D.cells (D.b s4))), (5, .box 5 0), (34, .d ((D.l TValue.D) s34)), (35, .d ((D.i .i64) s35)), (36, .d ((D.i .i64) s36))], [(5, .cells ([.d (.v (.func (.yield l) #[] #[]))]))], (F f0)⟩
def domain_bindings_1_l6_O {φ : Type} (l : Nat) (F : φ → Bx) (s1 : Int) (s2 : List (List TValue)) (s3 : List TSlot) (s4 : Bool) (s34 : List TValue) (s35 : Int) (o : φ ⊕ φ) : Ex × St := match o with
  | .inl o => (.exit 2, ⟨sp 59 0 [], [], (F o)⟩)
  | .inr o => (.ret, ⟨sp 59 0 [], [], (F o)⟩)
theorem domain_bindings_1_l6_rnd (_ : Option Nat) (self : ∀ ψ : Type, (ψ → (List TSlot) → Option (ψ × Bool)) → Int → (List (List TValue)) → (List TSlot) → Bool → ψ → Option ψ) {φ : Type} (step : φ → (List TSlot) → Option (φ × Bool)) (hs : ∀ (ψ : Type) (step : ψ → (List TSlot) → Option (ψ × Bool)) (a1 : Int) (a2 : List (List TValue)) (a3 : List TSlot) (a4 : Bool) (f0 f1 : ψ), self ψ step a1 a2 a3 a4 f0 = some f1 → AIt Try.prog 60 [.eptr (D.cells ((D.i .i64) a1)), .eptr (D.cells ((D.l (D.l TValue.D)) a2)), .eptr (D.cells ((D.l TSlot.D) a3)), .eptr (D.cells (D.b a4))] domain_bindings_1_enc step f0 f1) (l : Nat) (F : φ → Bx) (N : List Nat) (hF : ∀ f, FOk (F f) N) (hY : ∀ f x r, step f x = some r → AYield Try.prog l (domain_bindings_1_enc x) (F f) (.d (D.b r.2)) (F r.1)) (s1 : Int) (s2 : List (List TValue)) (s3 : List TSlot) (s4 : Bool) (s34 : List TValue) (s35 : Int) (f0 : φ) (s36 : Int) (o : (φ × Int) ⊕ (φ ⊕ φ)) (h : domain_bindings_1_l6_s self step s1 s2 s3 s4 s34 s35 f0 s36 = some o) : Arr Try.prog none (fbody Try.prog 60) (0 :: [0, 1, 1, 1, 1]) (domain_bindings_1_l6_I l F s1 s2 s3 s4 s34 s35 f0 s36) (rR (fun s : φ × Int => domain_bindings_1_l6_I l F s1 s2 s3 s4 s34 s35 s.1 s.2) (domain_bindings_1_l6_O l F s1 s2 s3 s4 s34 s35) o).1 (rR (fun s : φ × Int => domain_bindings_1_l6_I l F s1 s2 s3 s4 s34 s35 s.1 s.2) (domain_bindings_1_l6_O l F s1 s2 s3 s4 s34 s35) o).2 := by
  unfold domain_bindings_1_l6_s at h
  rcases iS h with ⟨h14, h⟩ | ⟨h14, h⟩
  ·
   obtain ⟨x20, h15, h⟩ := xS h
   obtain ⟨r21, h16, h⟩ := bS h
   obtain ⟨h17, h⟩ := cS h
   obtain ⟨r22, h18, h⟩ := bS h
   obtain ⟨o31, h23, h⟩ := bS h
   replace h := sumE_some h
   rcases h with ⟨o32, rfl, h⟩ | ⟨o33, rfl, h⟩
   ·
    obtain rfl := si h
    exact runB_arr mixed [(37, .bit true), (38, .el (TValue.D x20)), (41, .cx true [] [(0, 41)] (.row 0) [(0, .rw 119 5 (r21.map TSlot.D))]), (46, .rwl ((r21 ++ [TSlot.mk s1 x20]).map TSlot.D)), (50, .fzn 46), (52, .ret (.clo (.func 60) [] [.eptr (D.cells ((D.i .i64) r22.1)), .eptr (D.cells ((D.l (D.l TValue.D)) r22.2.1)), .eptr (D.cells ((D.l TSlot.D) r22.2.2.1)), .eptr (D.cells (D.b r22.2.2.2))]))] [⟨[0, 1, 1, 1, 0, 0, 1, 1, 0, 0, 1, 1, 1, 1], [.live [1, 2, 3, 4, 5, 34, 35, 36, 52], .keep [5]], .normal, (domain_bindings_1_r7_O l F s1 s2 s3 s4 s34 s35 s36 r22.1 r22.2.1 r22.2.2.1 r22.2.2.2 (Sum.inl o32)).2⟩] [.live [1, 2, 3, 4, 5, 34, 35, 36], .keep [5]] (ai h14 (ai (elem_map TValue.D h15) (ai (slices_Clone_Slot_Slot_v2_ok s3 r21 h16) (ai (nc_ok TSlot.D [TSlot.mk s1 x20]) (ai (nc_ok TSlot.D [TSlot.mk s1 x20]) (ai (fit_map TSlot.D h17) (ai (app_map TSlot.D r21 [TSlot.mk s1 x20]) (ai (domain_bindings_ok s2 (intVal .add .i64 s1 1) (r21 ++ [TSlot.mk s1 x20]) s4 r22 h18) (ai (domain_bindings_1_r7_ok self step hs l F N hF hY s1 s2 s3 s4 s34 s35 s36 r22.1 r22.2.1 r22.2.2.1 r22.2.2.2 f0 (Sum.inl o32) h23) (ti)))))))))) (by kernel_rfl)
   ·
    obtain rfl := si h
    exact runB_arr mixed [(37, .bit true), (38, .el (TValue.D x20)), (41, .cx true [] [(0, 41)] (.row 0) [(0, .rw 119 5 (r21.map TSlot.D))]), (46, .rwl ((r21 ++ [TSlot.mk s1 x20]).map TSlot.D)), (50, .fzn 46), (52, .ret (.clo (.func 60) [] [.eptr (D.cells ((D.i .i64) r22.1)), .eptr (D.cells ((D.l (D.l TValue.D)) r22.2.1)), .eptr (D.cells ((D.l TSlot.D) r22.2.2.1)), .eptr (D.cells (D.b r22.2.2.2))]))] [⟨[0, 1, 1, 1, 0, 0, 1, 1, 0, 0, 1, 1, 1, 1], [.live [1, 2, 3, 4, 5, 34, 35, 36, 52], .keep [5]], .ret, (domain_bindings_1_r7_O l F s1 s2 s3 s4 s34 s35 s36 r22.1 r22.2.1 r22.2.2.1 r22.2.2.2 (Sum.inr o33)).2⟩] [.live [], .keep []] (ai h14 (ai (elem_map TValue.D h15) (ai (slices_Clone_Slot_Slot_v2_ok s3 r21 h16) (ai (nc_ok TSlot.D [TSlot.mk s1 x20]) (ai (nc_ok TSlot.D [TSlot.mk s1 x20]) (ai (fit_map TSlot.D h17) (ai (app_map TSlot.D r21 [TSlot.mk s1 x20]) (ai (domain_bindings_ok s2 (intVal .add .i64 s1 1) (r21 ++ [TSlot.mk s1 x20]) s4 r22 h18) (ai (domain_bindings_1_r7_ok self step hs l F N hF hY s1 s2 s3 s4 s34 s35 s36 r22.1 r22.2.1 r22.2.2.1 r22.2.2.2 f0 (Sum.inr o33) h23) (ti)))))))))) (by kernel_rfl)
  ·
   obtain rfl := si h
   exact runB_arr mixed [(37, .bit false)] [] [.live [], .keep []] (ai h14 (ti)) (by kernel_rfl)
theorem domain_bindings_1_l6_ok (_ : Option Nat) (self : ∀ ψ : Type, (ψ → (List TSlot) → Option (ψ × Bool)) → Int → (List (List TValue)) → (List TSlot) → Bool → ψ → Option ψ) {φ : Type} (step : φ → (List TSlot) → Option (φ × Bool)) (hs : ∀ (ψ : Type) (step : ψ → (List TSlot) → Option (ψ × Bool)) (a1 : Int) (a2 : List (List TValue)) (a3 : List TSlot) (a4 : Bool) (f0 f1 : ψ), self ψ step a1 a2 a3 a4 f0 = some f1 → AIt Try.prog 60 [.eptr (D.cells ((D.i .i64) a1)), .eptr (D.cells ((D.l (D.l TValue.D)) a2)), .eptr (D.cells ((D.l TSlot.D) a3)), .eptr (D.cells (D.b a4))] domain_bindings_1_enc step f0 f1) (l : Nat) (F : φ → Bx) (N : List Nat) (hF : ∀ f, FOk (F f) N) (hY : ∀ f x r, step f x = some r → AYield Try.prog l (domain_bindings_1_enc x) (F f) (.d (D.b r.2)) (F r.1)) (s1 : Int) (s2 : List (List TValue)) (s3 : List TSlot) (s4 : Bool) (s34 : List TValue) (s35 : Int) (f0 : φ) (s36 : Int) (t : φ ⊕ φ) (h : domain_bindings_1_l6 self step s1 s2 s3 s4 s34 s35 f0 s36 = some t) : LpOf Try.prog none (fbody Try.prog 60) [0, 1, 1, 1, 1] (domain_bindings_1_l6_I l F s1 s2 s3 s4 s34 s35 f0 s36) ((domain_bindings_1_l6_O l F s1 s2 s3 s4 s34 s35) t).1 ((domain_bindings_1_l6_O l F s1 s2 s3 s4 s34 s35) t).2 :=
  loopE_lpR (fun s : φ × Int => domain_bindings_1_l6_I l F s1 s2 s3 s4 s34 s35 s.1 s.2) (domain_bindings_1_l6_O l F s1 s2 s3 s4 s34 s35) (by kernel_rfl) (fun t => isN_ne (by rcases t with (_ | _) <;> rfl)) (fun s o h => domain_bindings_1_l6_rnd none self step hs l F N hF hY s1 s2 s3 s4 s34 s35 s.1 s.2 o h) (s := (f0, s36)) (t := t) h
theorem domain_bindings_1_F_ok (self : ∀ ψ : Type, (ψ → (List TSlot) → Option (ψ × Bool)) → Int → (List (List TValue)) → (List TSlot) → Bool → ψ → Option ψ) {φ : Type} (step : φ → (List TSlot) → Option (φ × Bool)) (hs : ∀ (ψ : Type) (step : ψ → (List TSlot) → Option (ψ × Bool)) (a1 : Int) (a2 : List (List TValue)) (a3 : List TSlot) (a4 : Bool) (f0 f1 : ψ), self ψ step a1 a2 a3 a4 f0 = some f1 → AIt Try.prog 60 [.eptr (D.cells ((D.i .i64) a1)), .eptr (D.cells ((D.l (D.l TValue.D)) a2)), .eptr (D.cells ((D.l TSlot.D) a3)), .eptr (D.cells (D.b a4))] domain_bindings_1_enc step f0 f1) (a1 : Int) (a2 : List (List TValue)) (a3 : List TSlot) (a4 : Bool) (f0 : φ) (f1 : φ) (h : domain_bindings_1_F self step a1 a2 a3 a4 f0 = some f1) : AIt Try.prog 60 [.eptr (D.cells ((D.i .i64) a1)), .eptr (D.cells ((D.l (D.l TValue.D)) a2)), .eptr (D.cells ((D.l TSlot.D) a3)), .eptr (D.cells (D.b a4))] domain_bindings_1_enc step f0 f1 := by
  intro l F N hF hY
  refine ⟨.tup [], ?_⟩
  unfold domain_bindings_1_F at h
  rcases iS h with ⟨h1, h⟩ | ⟨h1, h⟩
  ·
   obtain ⟨r1, h2, h⟩ := bS h
   rcases yldE_some h with ⟨f2, h3, h⟩ | ⟨f3, h4, h⟩
   ·
    obtain rfl := si h
    exact runI_call mixed [(13, .int (a2.length : Int)), (14, .bit true), (17, .ret (.d ((D.l TSlot.D) r1))), (18, .own false (.d (D.b true)) [] (F f2))] [] [] (hF _).far (hF _).cls (ai (len_map (D.l TValue.D) a2) (ai h1 (ai (slices_Clone_Slot_Slot_ok a3 r1 h2) (ai (hY f0 r1 (f2, true) h3) (ai (Or.inr ⟨(hF _).nms.trans (hF _).nms.symm, (hF _).far⟩ : F f2 = F f0 ∨ (names (F f2) = names (F f0) ∧ Far (F f2))) (ti)))))) (by kernel_rfl)
   ·
    obtain rfl := si h
    exact runI_call mixed [(13, .int (a2.length : Int)), (14, .bit true), (17, .ret (.d ((D.l TSlot.D) r1))), (18, .own false (.d (D.b false)) [] (F f3))] [] [] (hF _).far (hF _).cls (ai (len_map (D.l TValue.D) a2) (ai h1 (ai (slices_Clone_Slot_Slot_ok a3 r1 h2) (ai (hY f0 r1 (f3, false) h4) (ai (Or.inr ⟨(hF _).nms.trans (hF _).nms.symm, (hF _).far⟩ : F f3 = F f0 ∨ (names (F f3) = names (F f0) ∧ Far (F f3))) (ti)))))) (by kernel_rfl)
  ·
   obtain ⟨o16, h12, h⟩ := bS h
   replace h := sumE_some h
   rcases h with ⟨o17, rfl, h⟩ | ⟨o18, rfl, h⟩
   ·
    obtain ⟨x19, h13, h⟩ := xS h
    obtain ⟨o34, h24, h⟩ := bS h
    replace h := sumE_some h
    rcases h with ⟨o35, rfl, h⟩ | ⟨o36, rfl, h⟩
    ·
     obtain rfl := si h
     exact runI_call mixed [(13, .int (a2.length : Int)), (14, .bit false), (33, .el ((D.l TValue.D) x19)), (35, .int (x19.length : Int))] [⟨[1, 0, 1, 1], [.live [1, 2, 3, 4, 5, 19], .keep [5]], .normal, (domain_bindings_1_b1_O l F f0 a1 a2 a3 a4 a4 (Sum.inl o17)).2⟩, ⟨[0, 1, 1, 1, 1], [.live [1, 2, 3, 4, 5, 34, 35, 36], .keep [5]], .exit 2, (domain_bindings_1_l6_O l F a1 a2 a3 a4 x19 (x19.length : Int) (Sum.inl o35)).2⟩] [] (hF _).far (hF _).cls (ai (len_map (D.l TValue.D) a2) (ai h1 (ai (domain_bindings_1_b1_ok none self step hs l F N hF hY f0 a1 a2 a3 a4 a4 (Sum.inl o17) h12) (ai (elem_map (D.l TValue.D) h13) (ai (len_map TValue.D x19) (ai (domain_bindings_1_l6_ok none self step hs l F N hF hY a1 a2 a3 a4 x19 (x19.length : Int) o17 0 (Sum.inl o35) h24) (ti))))))) (by kernel_rfl)
    ·
     obtain rfl := si h
     exact runI_call mixed [(13, .int (a2.length : Int)), (14, .bit false), (33, .el ((D.l TValue.D) x19)), (35, .int (x19.length : Int))] [⟨[1, 0, 1, 1], [.live [1, 2, 3, 4, 5, 19], .keep [5]], .normal, (domain_bindings_1_b1_O l F f0 a1 a2 a3 a4 a4 (Sum.inl o17)).2⟩, ⟨[0, 1, 1, 1, 1], [.live [1, 2, 3, 4, 5, 34, 35, 36], .keep [5]], .ret, (domain_bindings_1_l6_O l F a1 a2 a3 a4 x19 (x19.length : Int) (Sum.inr o36)).2⟩] [] (hF _).far (hF _).cls (ai (len_map (D.l TValue.D) a2) (ai h1 (ai (domain_bindings_1_b1_ok none self step hs l F N hF hY f0 a1 a2 a3 a4 a4 (Sum.inl o17) h12) (ai (elem_map (D.l TValue.D) h13) (ai (len_map TValue.D x19) (ai (domain_bindings_1_l6_ok none self step hs l F N hF hY a1 a2 a3 a4 x19 (x19.length : Int) o17 0 (Sum.inr o36) h24) (ti))))))) (by kernel_rfl)
   ·
    obtain rfl := si h
    exact runI_call mixed [(13, .int (a2.length : Int)), (14, .bit false)] [⟨[1, 0, 1, 1], [.live [1, 2, 3, 4, 5, 19], .keep [5]], .ret, (domain_bindings_1_b1_O l F f0 a1 a2 a3 a4 a4 (Sum.inr o18)).2⟩] [] (hF _).far (hF _).cls (ai (len_map (D.l TValue.D) a2) (ai h1 (ai (domain_bindings_1_b1_ok none self step hs l F N hF hY f0 a1 a2 a3 a4 a4 (Sum.inr o18) h12) (ti)))) (by kernel_rfl)
theorem domain_bindings_1_n_ok : ∀ (n : Nat) (ψ : Type) (step : ψ → (List TSlot) → Option (ψ × Bool)) (a1 : Int) (a2 : List (List TValue)) (a3 : List TSlot) (a4 : Bool) (f0 f1 : ψ), domain_bindings_1_n n ψ step a1 a2 a3 a4 f0 = some f1 → AIt Try.prog 60 [.eptr (D.cells ((D.i .i64) a1)), .eptr (D.cells ((D.l (D.l TValue.D)) a2)), .eptr (D.cells ((D.l TSlot.D) a3)), .eptr (D.cells (D.b a4))] domain_bindings_1_enc step f0 f1
  | 0, _, step, a1, a2, a3, a4, f0, f1, h => by simp [domain_bindings_1_n] at h
  | n + 1, _, step, a1, a2, a3, a4, f0, f1, h => domain_bindings_1_F_ok _ step (domain_bindings_1_n_ok n) a1 a2 a3 a4 f0 f1 h
theorem domain_bindings_1_ok {φ : Type} (step : φ → (List TSlot) → Option (φ × Bool)) (a1 : Int) (a2 : List (List TValue)) (a3 : List TSlot) (a4 : Bool) (f0 : φ) (f1 : φ) (h : domain_bindings_1 step a1 a2 a3 a4 f0 = some f1) : AIt Try.prog 60 [.eptr (D.cells ((D.i .i64) a1)), .eptr (D.cells ((D.l (D.l TValue.D)) a2)), .eptr (D.cells ((D.l TSlot.D) a3)), .eptr (D.cells (D.b a4))] domain_bindings_1_enc step f0 f1 := domain_bindings_1_n_ok 100000 _ step a1 a2 a3 a4 f0 f1 h
def slices_AppendSeq_Slot_Slot_b4_I (uz : List Value) (s6_1 : Int) (s6_2 : List (List TValue)) (s6_3 : List TSlot) (s6_4 : Bool) (s7 : List TSlot) (w600 : List (List TSlot)) (w998_1 : Int) (w998_2 : List (List TValue)) (w998_3 : List TSlot) (w998_4 : Bool) : St := ⟨sp 13 0 [(2, .box 2 0), (6, .clo (.func 60) [] [.eptr (D.cells ((D.i .i64) s6_1)), .eptr (D.cells ((D.l (D.l TValue.D)) s6_2)), .eptr (D.cells ((D.l TSlot.D) s6_3)), .eptr (D.cells (D.b s6_4))]), (7, .d ((D.l TSlot.D) s7))], [(2, .cells ([.row 600])), (600, .row 82 1 (w600.map (D.l TSlot.D))), (998, .vals (sp 13 0 [(2, .box 2 0), (6, .clo (.func 60) [] [.eptr (D.cells ((D.i .i64) w998_1)), .eptr (D.cells ((D.l (D.l TValue.D)) w998_2)), .eptr (D.cells ((D.l TSlot.D) w998_3)), .eptr (D.cells (D.b w998_4))])]) uz)], []⟩
def slices_AppendSeq_Slot_Slot_b4_O (uz : List Value) (s6_1 : Int) (s6_2 : List (List TValue)) (s6_3 : List TSlot) (s6_4 : Bool) (s7 : List TSlot) (w600 : List (List TSlot)) (w998_1 : Int) (w998_2 : List (List TValue)) (w998_3 : List TSlot) (w998_4 : Bool) (o : Unit) : Ex × St := (.normal, ⟨sp 13 0 [(2, .box 2 0), (5, .d ((D.l TSlot.D) s7)), (6, .clo (.func 60) [] [.eptr (D.cells ((D.i .i64) s6_1)), .eptr (D.cells ((D.l (D.l TValue.D)) s6_2)), .eptr (D.cells ((D.l TSlot.D) s6_3)), .eptr (D.cells (D.b s6_4))])], [(2, .cells ([.row 600])), (600, .row 82 1 (w600.map (D.l TSlot.D))), (998, .vals (sp 13 0 [(2, .box 2 0), (6, .clo (.func 60) [] [.eptr (D.cells ((D.i .i64) w998_1)), .eptr (D.cells ((D.l (D.l TValue.D)) w998_2)), .eptr (D.cells ((D.l TSlot.D) w998_3)), .eptr (D.cells (D.b w998_4))])]) uz)], []⟩)
theorem slices_AppendSeq_Slot_Slot_b4_ok (rd : Option Nat) (uz : List Value) (s6_1 : Int) (s6_2 : List (List TValue)) (s6_3 : List TSlot) (s6_4 : Bool) (s7 : List TSlot) (w600 : List (List TSlot)) (w998_1 : Int) (w998_2 : List (List TValue)) (w998_3 : List TSlot) (w998_4 : Bool) (o : Unit) (h : slices_AppendSeq_Slot_Slot_b4 s6_1 s6_2 s6_3 s6_4 s7 w600 w998_1 w998_2 w998_3 w998_4 = some o) : LpOf Try.prog rd (fbody Try.prog 59) [0, 0, 1, 0, 1] (slices_AppendSeq_Slot_Slot_b4_I uz s6_1 s6_2 s6_3 s6_4 s7 w600 w998_1 w998_2 w998_3 w998_4) (slices_AppendSeq_Slot_Slot_b4_O uz s6_1 s6_2 s6_3 s6_4 s7 w600 w998_1 w998_2 w998_3 w998_4 o).1 (slices_AppendSeq_Slot_Slot_b4_O uz s6_1 s6_2 s6_3 s6_4 s7 w600 w998_1 w998_2 w998_3 w998_4 o).2 := by
  unfold slices_AppendSeq_Slot_Slot_b4 at h
  obtain rfl := si h
  exact (runB_arr mixed [] [] [.live [2, 5, 6], .keep [2, 600, 998]] (ti) (by kernel_rfl)).lp
def slices_AppendSeq_Slot_Slot_b6_I (uz : List Value) (s5 : List TSlot) (s6_1 : Int) (s6_2 : List (List TValue)) (s6_3 : List TSlot) (s6_4 : Bool) (w600 : List (List TSlot)) (w998_1 : Int) (w998_2 : List (List TValue)) (w998_3 : List TSlot) (w998_4 : Bool) : St := ⟨sp 13 0 [(2, .box 2 0), (5, .d ((D.l TSlot.D) s5)), (6, .clo (.func 60) [] [.eptr (D.cells ((D.i .i64) s6_1)), .eptr (D.cells ((D.l (D.l TValue.D)) s6_2)), .eptr (D.cells ((D.l TSlot.D) s6_3)), .eptr (D.cells (D.b s6_4))])], [(2, .cells ([.row 600])), (600, .row 82 1 (w600.map (D.l TSlot.D))), (998, .vals (sp 13 0 [(2, .box 2 0), (6, .clo (.func 60) [] [.eptr (D.cells ((D.i .i64) w998_1)), .eptr (D.cells ((D.l (D.l TValue.D)) w998_2)), .eptr (D.cells ((D.l TSlot.D) w998_3)), .eptr (D.cells (D.b w998_4))])]) uz)], []⟩
def slices_AppendSeq_Slot_Slot_b6_O (uz : List Value) (s5 : List TSlot) (s6_1 : Int) (s6_2 : List (List TValue)) (s6_3 : List TSlot) (s6_4 : Bool) (w600 : List (List TSlot)) (w998_1 : Int) (w998_2 : List (List TValue)) (w998_3 : List TSlot) (w998_4 : Bool) (o : Unit) : Ex × St := (.normal, ⟨sp 13 0 [], [(2, .cells ([.row 600])), (600, .row 82 1 ((w600 ++ [s5]).map (D.l TSlot.D))), (998, .vals (sp 13 0 [(2, .box 2 0), (6, .clo (.func 60) [] [.eptr (D.cells ((D.i .i64) w998_1)), .eptr (D.cells ((D.l (D.l TValue.D)) w998_2)), .eptr (D.cells ((D.l TSlot.D) w998_3)), .eptr (D.cells (D.b w998_4))])]) uz)], []⟩)
theorem slices_AppendSeq_Slot_Slot_b6_ok (rd : Option Nat) (uz : List Value) (s5 : List TSlot) (s6_1 : Int) (s6_2 : List (List TValue)) (s6_3 : List TSlot) (s6_4 : Bool) (w600 : List (List TSlot)) (w998_1 : Int) (w998_2 : List (List TValue)) (w998_3 : List TSlot) (w998_4 : Bool) (o : Unit) (h : slices_AppendSeq_Slot_Slot_b6 s5 s6_1 s6_2 s6_3 s6_4 w600 w998_1 w998_2 w998_3 w998_4 = some o) : LpOf Try.prog rd (fbody Try.prog 59) [1, 0, 1, 0, 1] (slices_AppendSeq_Slot_Slot_b6_I uz s5 s6_1 s6_2 s6_3 s6_4 w600 w998_1 w998_2 w998_3 w998_4) (slices_AppendSeq_Slot_Slot_b6_O uz s5 s6_1 s6_2 s6_3 s6_4 w600 w998_1 w998_2 w998_3 w998_4 o).1 (slices_AppendSeq_Slot_Slot_b6_O uz s5 s6_1 s6_2 s6_3 s6_4 w600 w998_1 w998_2 w998_3 w998_4 o).2 := by
  unfold slices_AppendSeq_Slot_Slot_b6 at h
  obtain ⟨h3, h⟩ := cS h
  obtain rfl := si h
  exact (runB_arr mixed [(11, .sl ((w600 ++ [s5]).map (D.l TSlot.D)))] [] [.live [], .keep [2, 11, 998], .ren 11 600, .sort] (ai (nc_ok (D.l TSlot.D) [s5]) (ai (nc_ok (D.l TSlot.D) [s5]) (ai (fit_map (D.l TSlot.D) h3) (ai (app_map (D.l TSlot.D) w600 [s5]) (ti))))) (by kernel_rfl)).lp
def slices_AppendSeq_Slot_Slot_r1_E (s6_1 : Int) (s6_2 : List (List TValue)) (s6_3 : List TSlot) (s6_4 : Bool) : List A := sp 13 0 [(2, .box 2 0), (6, .clo (.func 60) [] [.eptr (D.cells ((D.i .i64) s6_1)), .eptr (D.cells ((D.l (D.l TValue.D)) s6_2)), .eptr (D.cells ((D.l TSlot.D) s6_3)), .eptr (D.cells (D.b s6_4))])]
def slices_AppendSeq_Slot_Slot_r1_BL (s6_1 : Int) (s6_2 : List (List TValue)) (s6_3 : List TSlot) (s6_4 : Bool) (s : List (List TSlot)) : Bx := [(2, .cells ([.row 600])), (600, .row 82 1 (s.map (D.l TSlot.D)))]
def slices_AppendSeq_Slot_Slot_r1_BT (s6_1 : Int) (s6_2 : List (List TValue)) (s6_3 : List TSlot) (s6_4 : Bool) (t : Empty) : Bx := t.elim
def slices_AppendSeq_Slot_Slot_r1_X (t : Empty) : Ex := t.elim
def slices_AppendSeq_Slot_Slot_r1_O (s6_1 : Int) (s6_2 : List (List TValue)) (s6_3 : List TSlot) (s6_4 : Bool) (o : (List (List TSlot)) ⊕ (Empty)) : Ex × St := (rex slices_AppendSeq_Slot_Slot_r1_X o, ⟨slices_AppendSeq_Slot_Slot_r1_E s6_1 s6_2 s6_3 s6_4, rbx (slices_AppendSeq_Slot_Slot_r1_BL s6_1 s6_2 s6_3 s6_4) (slices_AppendSeq_Slot_Slot_r1_BT s6_1 s6_2 s6_3 s6_4) o, rbx (fun _ => []) (fun _ => []) o⟩)
theorem slices_AppendSeq_Slot_Slot_r1_rnd (s6_1 : Int) (s6_2 : List (List TValue)) (s6_3 : List TSlot) (s6_4 : Bool) (s : List (List TSlot)) (x : (List TSlot)) (o : (List (List TSlot)) ⊕ (Empty)) (h : slices_AppendSeq_Slot_Slot_r1_rd s6_1 s6_2 s6_3 s6_4 s x = some o) (m : Nat) (uz : List Value) : ∃ M E1, LpOf Try.prog (some m) (fbody Try.prog 59) (0 :: [0, 1, 0, 1]) ⟨setPs (slices_AppendSeq_Slot_Slot_r1_E s6_1 s6_2 s6_3 s6_4) ((Array.toList #[7]).zip (domain_bindings_1_enc x)), slices_AppendSeq_Slot_Slot_r1_BL s6_1 s6_2 s6_3 s6_4 s ++ [(vn, .vals (slices_AppendSeq_Slot_Slot_r1_E s6_1 s6_2 s6_3 s6_4) uz)], (fun _ => []) s⟩ .normal M ∧
    LpOf Try.prog (some m) (fbody Try.prog 59) (1 :: [0, 1, 0, 1]) M (rex slices_AppendSeq_Slot_Slot_r1_X o) ⟨E1, rbx (slices_AppendSeq_Slot_Slot_r1_BL s6_1 s6_2 s6_3 s6_4) (slices_AppendSeq_Slot_Slot_r1_BT s6_1 s6_2 s6_3 s6_4) o ++ [(vn, .vals (slices_AppendSeq_Slot_Slot_r1_E s6_1 s6_2 s6_3 s6_4) uz)], rbx (fun _ => []) (fun _ => []) o⟩ := by
  unfold slices_AppendSeq_Slot_Slot_r1_rd at h
  obtain ⟨o5, h5, h⟩ := bS h
  obtain ⟨o6, h6, h⟩ := bS h
  obtain rfl := si h
  exact ⟨(slices_AppendSeq_Slot_Slot_b4_O uz s6_1 s6_2 s6_3 s6_4 x s s6_1 s6_2 s6_3 s6_4 o5).2, sp 13 0 [], lp_wks (w := [.live [2, 6, 7], .keep [2, 600, 998]]) (s1 := slices_AppendSeq_Slot_Slot_b4_I uz s6_1 s6_2 s6_3 s6_4 x s s6_1 s6_2 s6_3 s6_4) (by kernel_rfl) (lp_cast (slices_AppendSeq_Slot_Slot_b4_ok (some m) uz s6_1 s6_2 s6_3 s6_4 x s s6_1 s6_2 s6_3 s6_4 o5 h5) rfl (by kernel_rfl) rfl), lp_wks (w := [.live [2, 5, 6], .keep [2, 600, 998]]) (s1 := slices_AppendSeq_Slot_Slot_b6_I uz x s6_1 s6_2 s6_3 s6_4 s s6_1 s6_2 s6_3 s6_4) (by kernel_rfl) (lp_cast (slices_AppendSeq_Slot_Slot_b6_ok (some m) uz x s6_1 s6_2 s6_3 s6_4 s s6_1 s6_2 s6_3 s6_4 o6 h6) rfl (by kernel_rfl) (by kernel_rfl))⟩
theorem slices_AppendSeq_Slot_Slot_r1_ok (s6_1 : Int) (s6_2 : List (List TValue)) (s6_3 : List TSlot) (s6_4 : Bool) (s : List (List TSlot)) (o : (List (List TSlot)) ⊕ (Empty)) (h : domain_bindings_1 (stepOf (slices_AppendSeq_Slot_Slot_r1_rd s6_1 s6_2 s6_3 s6_4)) s6_1 s6_2 s6_3 s6_4 (.inl s) = some o) : LpOf Try.prog none (fbody Try.prog 59) [0, 1, 0, 1] ⟨slices_AppendSeq_Slot_Slot_r1_E s6_1 s6_2 s6_3 s6_4, slices_AppendSeq_Slot_Slot_r1_BL s6_1 s6_2 s6_3 s6_4 s, (fun _ => []) s⟩ (slices_AppendSeq_Slot_Slot_r1_O s6_1 s6_2 s6_3 s6_4 o).1 (slices_AppendSeq_Slot_Slot_r1_O s6_1 s6_2 s6_3 s6_4 o).2 :=
  range_ok (p := [0, 1, 0, 1]) (g := .tmp 6) (ps := #[7]) (assign := codeAt (fbody Try.prog 59) (0 :: [0, 1, 0, 1])) (body := codeAt (fbody Try.prog 59) (1 :: [0, 1, 0, 1])) (by kernel_rfl) (slices_AppendSeq_Slot_Slot_r1_BL s6_1 s6_2 s6_3 s6_4) (slices_AppendSeq_Slot_Slot_r1_BT s6_1 s6_2 s6_3 s6_4) (fun _ => []) (fun _ => []) slices_AppendSeq_Slot_Slot_r1_X domain_bindings_1_enc (slices_AppendSeq_Slot_Slot_r1_rd s6_1 s6_2 s6_3 s6_4) (gf := 60) (cs := [.eptr (D.cells ((D.i .i64) s6_1)), .eptr (D.cells ((D.l (D.l TValue.D)) s6_2)), .eptr (D.cells ((D.l TSlot.D) s6_3)), .eptr (D.cells (D.b s6_4))]) (by kernel_rfl) (by kernel_rfl) (by kernel_rfl) (fun x => ⟨by kernel_rfl, by kernel_rfl⟩) (fun s us => by kernel_rfl) (fun t us => t.elim) (fun s => rfl) (fun t => t.elim) (by kernel_rfl) (fun t => t.elim) (fun s => FOk.nil) (fun t => FOk.nil) (fun s x o h m us => slices_AppendSeq_Slot_Slot_r1_rnd s6_1 s6_2 s6_3 s6_4 s x o h m us) (domain_bindings_1_ok (stepOf (slices_AppendSeq_Slot_Slot_r1_rd s6_1 s6_2 s6_3 s6_4)) s6_1 s6_2 s6_3 s6_4 (.inl s) o h)
theorem slices_AppendSeq_Slot_Slot_ok (a1_1 : Int) (a1_2 : List (List TValue)) (a1_3 : List TSlot) (a1_4 : Bool) (r : List (List TSlot)) (h : slices_AppendSeq_Slot_Slot a1_1 a1_2 a1_3 a1_4 = some r) : ACall Try.prog 59 [.nil, .clo (.func 60) [] [.eptr (D.cells ((D.i .i64) a1_1)), .eptr (D.cells ((D.l (D.l TValue.D)) a1_2)), .eptr (D.cells ((D.l TSlot.D) a1_3)), .eptr (D.cells (D.b a1_4))]] [] (.d ((D.l (D.l TSlot.D)) r)) [] := by
  unfold slices_AppendSeq_Slot_Slot at h
  obtain ⟨o7, h4, h⟩ := bS h
  replace h := sumE_some h
  rcases h with ⟨o8, rfl, h⟩ | ⟨o9, rfl, h⟩
  ·
   obtain rfl := si h
   exact runF_call mixed [] [⟨[0, 1, 0, 1], [.live [2, 6], .keep [2], .nilc 2 0 600 82 1, .frz 600, .sort], .normal, (slices_AppendSeq_Slot_Slot_r1_O a1_1 a1_2 a1_3 a1_4 (Sum.inl o8)).2⟩] [] (ai (slices_AppendSeq_Slot_Slot_r1_ok a1_1 a1_2 a1_3 a1_4 ([] : List (List TSlot)) (Sum.inl o8) h4) (ti)) (by kernel_rfl)
  ·
   cases h
theorem slices_Collect_Slot_ok (a0_1 : Int) (a0_2 : List (List TValue)) (a0_3 : List TSlot) (a0_4 : Bool) (r : List (List TSlot)) (h : slices_Collect_Slot a0_1 a0_2 a0_3 a0_4 = some r) : ACall Try.prog 45 [.clo (.func 60) [] [.eptr (D.cells ((D.i .i64) a0_1)), .eptr (D.cells ((D.l (D.l TValue.D)) a0_2)), .eptr (D.cells ((D.l TSlot.D) a0_3)), .eptr (D.cells (D.b a0_4))]] [] (.d ((D.l (D.l TSlot.D)) r)) [] := by
  unfold slices_Collect_Slot at h
  obtain ⟨r1, h1, h⟩ := bS h
  obtain rfl := si h
  exact runF_call mixed [(4, .cx true [] [] (.d ((D.l (D.l TSlot.D)) r1)) [])] [] [] (ai (slices_AppendSeq_Slot_Slot_ok a0_1 a0_2 a0_3 a0_4 r1 h1) (ti)) (by kernel_rfl)
theorem domain_list_ok (a0 : List (List TValue)) (a1 : Bool) (r : List (List TSlot)) (h : domain_list a0 a1 = some r) : ACall Try.prog 27 [.d ((D.l (D.l TValue.D)) a0), .d (D.b a1)] [] (.d ((D.l (D.l TSlot.D)) r)) [] := by
  unfold domain_list at h
  obtain ⟨r1, h1, h⟩ := bS h
  rcases iS h with ⟨h2, h⟩ | ⟨h2, h⟩
  ·
   obtain rfl := si h
   exact runF_call mixed [(7, .ret (.d ((D.i .i64) r1))), (9, .bit true)] [] [] (ai (domain_Many_ok a0 a1 r1 h1) (ai h2 (ti))) (by kernel_rfl)
  ·
   rcases iS h with ⟨h3, h⟩ | ⟨h3, h⟩
   ·
    obtain rfl := si h
    exact runF_call mixed [(7, .ret (.d ((D.i .i64) r1))), (9, .bit false), (11, .int (a0.length : Int)), (13, .bit true)] [] [] (ai (domain_Many_ok a0 a1 r1 h1) (ai h2 (ai (len_map (D.l TValue.D) a0) (ai h3 (ti))))) (by kernel_rfl)
   ·
    obtain ⟨r2, h4, h⟩ := bS h
    obtain ⟨r3, h5, h⟩ := bS h
    obtain rfl := si h
    exact runF_call mixed [(7, .ret (.d ((D.i .i64) r1))), (9, .bit false), (11, .int (a0.length : Int)), (13, .bit false), (16, .ret (.clo (.func 60) [] [.eptr (D.cells ((D.i .i64) r2.1)), .eptr (D.cells ((D.l (D.l TValue.D)) r2.2.1)), .eptr (D.cells ((D.l TSlot.D) r2.2.2.1)), .eptr (D.cells (D.b r2.2.2.2))])), (17, .ret (.d ((D.l (D.l TSlot.D)) r3)))] [] [] (ai (domain_Many_ok a0 a1 r1 h1) (ai h2 (ai (len_map (D.l TValue.D) a0) (ai h3 (ai (domain_bindings_ok a0 0 ([] : List TSlot) a1 r2 h4) (ai (slices_Collect_Slot_ok r2.1 r2.2.1 r2.2.2.1 r2.2.2.2 r3 h5) (ti))))))) (by kernel_rfl)
theorem domain_Full_ok (a0 : List (List TValue)) (r : List (List TSlot)) (h : domain_Full a0 = some r) : ACall Try.prog 8 [.d ((D.l (D.l TValue.D)) a0)] [] (.d ((D.l (D.l TSlot.D)) r)) [] := by
  unfold domain_Full at h
  obtain ⟨r1, h1, h⟩ := bS h
  obtain rfl := si h
  exact runF_call mixed [(4, .ret (.d ((D.l (D.l TSlot.D)) r1)))] [] [] (ai (domain_list_ok a0 false r1 h1) (ti)) (by kernel_rfl)
theorem domain_Parts_ok (a0 : List (List TValue)) (r : List (List TSlot)) (h : domain_Parts a0 = some r) : ACall Try.prog 26 [.d ((D.l (D.l TValue.D)) a0)] [] (.d ((D.l (D.l TSlot.D)) r)) [] := by
  unfold domain_Parts at h
  obtain ⟨r1, h1, h⟩ := bS h
  obtain rfl := si h
  exact runF_call mixed [(4, .ret (.d ((D.l (D.l TSlot.D)) r1)))] [] [] (ai (domain_list_ok a0 true r1 h1) (ti)) (by kernel_rfl)
theorem law20_awake_ok (r : Bool) (h : law20_awake = some r) : ACall Try.prog 6 [] [] (.d (D.b r)) [] := by
  unfold law20_awake at h
  obtain ⟨r1, h1, h⟩ := bS h
  obtain ⟨r2, h2, h⟩ := bS h
  obtain ⟨r3, h3, h⟩ := bS h
  obtain ⟨r4, h4, h⟩ := bS h
  rcases iS h with ⟨h5, h⟩ | ⟨h5, h⟩
  ·
   obtain ⟨r5, h6, h⟩ := bS h
   rcases iS h with ⟨h7, h⟩ | ⟨h7, h⟩
   ·
    obtain ⟨r6, h8, h⟩ := bS h
    obtain rfl := si h
    exact runF_call mixed [(2, .ret (.d (TValue.D r1))), (3, .ret (.d (TValue.D r2))), (5, .ret (.d (TValue.D r3))), (9, .ret (.d ((D.l (D.l TSlot.D)) r4))), (10, .int (r4.length : Int)), (12, .bit true), (14, .ret (.d ((D.l (D.l TSlot.D)) r5))), (15, .int (r5.length : Int)), (18, .bit true), (20, .ret (.d ((D.i .i64) r6)))] [] [] (ai (law20_one_ok 5 r1 h1) (ai (law20_one_ok 6 r2 h2) (ai (nc_ok TValue.D [r1, r2]) (ai (law20_one_ok 7 r3 h3) (ai (nc_ok TValue.D [r3]) (ai (nc_ok (D.l TValue.D) ([[r1, r2], [r3]])) (ai (domain_Full_ok ([[r1, r2], [r3]]) r4 h4) (ai (len_map (D.l TSlot.D) r4) (ai h5 (ai (domain_Parts_ok ([[r1, r2], [r3]]) r5 h6) (ai (len_map (D.l TSlot.D) r5) (ai h7 (ai (domain_Many_ok ([[r1, r2], [r3]]) true r6 h8) (ti)))))))))))))) (by kernel_rfl)
   ·
    obtain rfl := si h
    exact runF_call mixed [(2, .ret (.d (TValue.D r1))), (3, .ret (.d (TValue.D r2))), (5, .ret (.d (TValue.D r3))), (9, .ret (.d ((D.l (D.l TSlot.D)) r4))), (10, .int (r4.length : Int)), (12, .bit true), (14, .ret (.d ((D.l (D.l TSlot.D)) r5))), (15, .int (r5.length : Int)), (18, .bit false)] [] [] (ai (law20_one_ok 5 r1 h1) (ai (law20_one_ok 6 r2 h2) (ai (nc_ok TValue.D [r1, r2]) (ai (law20_one_ok 7 r3 h3) (ai (nc_ok TValue.D [r3]) (ai (nc_ok (D.l TValue.D) ([[r1, r2], [r3]])) (ai (domain_Full_ok ([[r1, r2], [r3]]) r4 h4) (ai (len_map (D.l TSlot.D) r4) (ai h5 (ai (domain_Parts_ok ([[r1, r2], [r3]]) r5 h6) (ai (len_map (D.l TSlot.D) r5) (ai h7 (ti))))))))))))) (by kernel_rfl)
  ·
   obtain rfl := si h
   exact runF_call mixed [(2, .ret (.d (TValue.D r1))), (3, .ret (.d (TValue.D r2))), (5, .ret (.d (TValue.D r3))), (9, .ret (.d ((D.l (D.l TSlot.D)) r4))), (10, .int (r4.length : Int)), (12, .bit false)] [] [] (ai (law20_one_ok 5 r1 h1) (ai (law20_one_ok 6 r2 h2) (ai (nc_ok TValue.D [r1, r2]) (ai (law20_one_ok 7 r3 h3) (ai (nc_ok TValue.D [r3]) (ai (nc_ok (D.l TValue.D) ([[r1, r2], [r3]])) (ai (domain_Full_ok ([[r1, r2], [r3]]) r4 h4) (ai (len_map (D.l TSlot.D) r4) (ai h5 (ti)))))))))) (by kernel_rfl)
theorem match_hits_ok (a0 : TQea) (a1 : TEvent) (r : TQea × TEvent) (h : match_hits a0 a1 = some r) : ACall Try.prog 56 [.d (TQea.D a0), .d (TEvent.D a1)] [] (.clo (.func 72) [] [.eptr (D.cells (TQea.D r.1)), .eptr (D.cells (TEvent.D r.2))]) [] := by
  unfold match_hits at h
  obtain rfl := si h
  exact runF_call mixed [(2, .frz), (3, .frz)] [] [] (ti) (by kernel_rfl)
theorem schema_Find_1_ok (a0 : TDecl) (a1 : List UInt8) (r : Bool) (h : schema_Find_1 a0 a1 = some r) : ACall Try.prog 91 [.d (TDecl.D a0), .eptr (D.cells (D.s a1))] [] (.d (D.b r)) [] := by
  unfold schema_Find_1 at h
  obtain rfl := si h
  exact runF_call mixed [] [] [] (ti) (by kernel_rfl)
def slices_IndexFunc_Decl_Decl_l1_I (s0 : List TDecl) (s1 : List UInt8) (s7 : Int) (s8 : Int) : St := ⟨sp 19 0 [(0, .d ((D.l TDecl.D) s0)), (1, .clo (.func 91) [] [.eptr (D.cells (D.s s1))]), (7, .d ((D.i .i64) s7)), (8, .d ((D.i .i64) s8))], [], []⟩
def slices_IndexFunc_Decl_Decl_l1_O (s0 : List TDecl) (s1 : List UInt8) (s7 : Int) (o : Unit ⊕ Int) : Ex × St := match o with
  | .inl o => (.exit 0, ⟨sp 19 0 [], [], []⟩)
  | .inr o => (.ret, ⟨sp 19 0 [(4, .d ((D.i .i64) o))], [], []⟩)
theorem slices_IndexFunc_Decl_Decl_l1_rnd (rd : Option Nat) (s0 : List TDecl) (s1 : List UInt8) (s7 : Int) (s8 : Int) (o : (Int) ⊕ (Unit ⊕ Int)) (h : slices_IndexFunc_Decl_Decl_l1_s s0 s1 s7 s8 = some o) : Arr Try.prog rd (fbody Try.prog 90) (0 :: [0, 1, 0, 1]) (slices_IndexFunc_Decl_Decl_l1_I s0 s1 s7 s8) (rR (fun s : Int => slices_IndexFunc_Decl_Decl_l1_I s0 s1 s7 s) (slices_IndexFunc_Decl_Decl_l1_O s0 s1 s7) o).1 (rR (fun s : Int => slices_IndexFunc_Decl_Decl_l1_I s0 s1 s7 s) (slices_IndexFunc_Decl_Decl_l1_O s0 s1 s7) o).2 := by
  unfold slices_IndexFunc_Decl_Decl_l1_s at h
  rcases iS h with ⟨h1, h⟩ | ⟨h1, h⟩
  ·
   obtain ⟨x1, h2, h⟩ := xS h
   obtain ⟨r2, h3, h⟩ := bS h
   cases r2 with
   | true =>
    replace h := iteT h
    obtain rfl := si h
    exact runB_arr mixed [(9, .bit true), (14, .el (TDecl.D x1)), (16, .ret (.d (D.b true)))] [] [.live [4], .keep []] (ai h1 (ai (elem_map TDecl.D h2) (ai (schema_Find_1_ok x1 s1 true h3) (ti)))) (by kernel_rfl)
   | false =>
    replace h := iteF h
    obtain rfl := si h
    exact runB_arr mixed [(9, .bit true), (14, .el (TDecl.D x1)), (16, .ret (.d (D.b false)))] [] [.live [0, 1, 7, 8], .keep []] (ai h1 (ai (elem_map TDecl.D h2) (ai (schema_Find_1_ok x1 s1 false h3) (ti)))) (by kernel_rfl)
  ·
   obtain rfl := si h
   exact runB_arr mixed [(9, .bit false)] [] [.live [], .keep []] (ai h1 (ti)) (by kernel_rfl)
theorem slices_IndexFunc_Decl_Decl_l1_ok (rd : Option Nat) (s0 : List TDecl) (s1 : List UInt8) (s7 : Int) (s8 : Int) (t : Unit ⊕ Int) (h : slices_IndexFunc_Decl_Decl_l1 s0 s1 s7 s8 = some t) : LpOf Try.prog rd (fbody Try.prog 90) [0, 1, 0, 1] (slices_IndexFunc_Decl_Decl_l1_I s0 s1 s7 s8) ((slices_IndexFunc_Decl_Decl_l1_O s0 s1 s7) t).1 ((slices_IndexFunc_Decl_Decl_l1_O s0 s1 s7) t).2 :=
  loopE_lpR (fun s : Int => slices_IndexFunc_Decl_Decl_l1_I s0 s1 s7 s) (slices_IndexFunc_Decl_Decl_l1_O s0 s1 s7) (by kernel_rfl) (fun t => isN_ne (by rcases t with (_ | _) <;> rfl)) (fun s o h => slices_IndexFunc_Decl_Decl_l1_rnd rd s0 s1 s7 s o h) (s := s8) (t := t) h
theorem slices_IndexFunc_Decl_Decl_ok (a0 : List TDecl) (a1 : List UInt8) (r : Int) (h : slices_IndexFunc_Decl_Decl a0 a1 = some r) : ACall Try.prog 90 [.d ((D.l TDecl.D) a0), .clo (.func 91) [] [.eptr (D.cells (D.s a1))]] [] (.d ((D.i .i64) r)) [] := by
  unfold slices_IndexFunc_Decl_Decl at h
  obtain ⟨o3, h5, h⟩ := bS h
  replace h := sumE_some h
  rcases h with ⟨o4, rfl, h⟩ | ⟨o5, rfl, h⟩
  ·
   obtain rfl := si h
   exact runF_call mixed [(7, .int (a0.length : Int))] [⟨[0, 1, 0, 1], [.live [0, 1, 7, 8], .keep []], .exit 0, (slices_IndexFunc_Decl_Decl_l1_O a0 a1 (a0.length : Int) (Sum.inl o4)).2⟩] [] (ai (len_map TDecl.D a0) (ai (slices_IndexFunc_Decl_Decl_l1_ok none a0 a1 (a0.length : Int) 0 (Sum.inl o4) h5) (ti))) (by kernel_rfl)
  ·
   obtain rfl := si h
   exact runF_call mixed [(7, .int (a0.length : Int))] [⟨[0, 1, 0, 1], [.live [0, 1, 7, 8], .keep []], .ret, (slices_IndexFunc_Decl_Decl_l1_O a0 a1 (a0.length : Int) (Sum.inr o5)).2⟩] [] (ai (len_map TDecl.D a0) (ai (slices_IndexFunc_Decl_Decl_l1_ok none a0 a1 (a0.length : Int) 0 (Sum.inr o5) h5) (ti))) (by kernel_rfl)
theorem schema_Find_ok (a0 : List TDecl) (a1 : List UInt8) (r : Int × Bool) (h : schema_Find a0 a1 = some r) : ACall Try.prog 84 [.d ((D.l TDecl.D) a0), .d (D.s a1)] [] (.tup [.d ((D.i .i64) r.1), .d (D.b r.2)]) [] := by
  unfold schema_Find at h
  obtain ⟨r1, h1, h⟩ := bS h
  obtain rfl := si h
  exact runF_call mixed [(3, .frz), (9, .ret (.d ((D.i .i64) r1))), (11, .int (maxE r1 0))] [] [] (ai (slices_IndexFunc_Decl_Decl_ok a0 a1 r1 h1) (ai (rfl : maxE r1 0 = maxE r1 0) (ti))) (by kernel_rfl)
theorem value_Int_ok (a0 : Int) (r : TValue) (h : value_Int a0 = some r) : ACall Try.prog 92 [.d ((D.i .i64) a0)] [] (.d (TValue.D r)) [] := by
  unfold value_Int at h
  obtain rfl := si h
  exact runF_call mixed [] [] [] (ti) (by kernel_rfl)
theorem value_Str_ok (a0 : List UInt8) (r : TValue) (h : value_Str a0 = some r) : ACall Try.prog 93 [.d (D.s a0)] [] (.d (TValue.D r)) [] := by
  unfold value_Str at h
  obtain rfl := si h
  exact runF_call mixed [] [] [] (ti) (by kernel_rfl)
theorem value_Bool_ok (a0 : Bool) (r : TValue) (h : value_Bool a0 = some r) : ACall Try.prog 94 [.d (D.b a0)] [] (.d (TValue.D r)) [] := by
  unfold value_Bool at h
  obtain rfl := si h
  exact runF_call mixed [] [] [] (ti) (by kernel_rfl)
theorem value_Right_ok (a0 : TValue) (r : Bool) (h : value_Right a0 = some r) : ACall Try.prog 87 [.d (TValue.D a0)] [] (.d (D.b r)) [] := by
  unfold value_Right at h
  rcases iS h with ⟨h1, h⟩ | ⟨h1, h⟩
  ·
   obtain ⟨r1, h2, h⟩ := bS h
   obtain rfl := si h
   exact runF_call mixed [(5, .bit true), (10, .ret (.d (TValue.D r1)))] [] [] (ai h1 (ai (value_Int_ok a0.int r1 h2) (ti))) (by kernel_rfl)
  ·
   rcases iS h with ⟨h3, h⟩ | ⟨h3, h⟩
   ·
    obtain ⟨r2, h4, h⟩ := bS h
    rcases iS h with ⟨h5, h⟩ | ⟨h5, h⟩
    ·
     obtain rfl := si h
     exact runF_call mixed [(5, .bit false), (12, .bit true), (17, .ret (.d (TValue.D r2))), (19, .bit true), (22, .int (a0.str.length : Int))] [] [] (ai h1 (ai h3 (ai (value_Str_ok a0.str r2 h4) (ai h5 (ai (len_str a0.str) (ti)))))) (by kernel_rfl)
    ·
     obtain rfl := si h
     exact runF_call mixed [(5, .bit false), (12, .bit true), (17, .ret (.d (TValue.D r2))), (19, .bit false)] [] [] (ai h1 (ai h3 (ai (value_Str_ok a0.str r2 h4) (ai h5 (ti))))) (by kernel_rfl)
   ·
    rcases iS h with ⟨h6, h⟩ | ⟨h6, h⟩
    ·
     obtain ⟨r3, h7, h⟩ := bS h
     obtain rfl := si h
     exact runF_call mixed [(5, .bit false), (12, .bit false), (25, .bit true), (30, .ret (.d (TValue.D r3)))] [] [] (ai h1 (ai h3 (ai h6 (ai (value_Bool_ok a0.bool r3 h7) (ti))))) (by kernel_rfl)
    ·
     obtain rfl := si h
     exact runF_call mixed [(5, .bit false), (12, .bit false), (25, .bit false)] [] [] (ai h1 (ai h3 (ai h6 (ti)))) (by kernel_rfl)
theorem event_Right_1_ok (a0 : TValue) (a1 : Int) (r : Bool) (h : event_Right_1 a0 a1 = some r) : ACall Try.prog 86 [.d (TValue.D a0), .d ((D.i .i64) a1)] [] (.d (D.b r)) [] := by
  unfold event_Right_1 at h
  rcases iS h with ⟨h1, h⟩ | ⟨h1, h⟩
  ·
   obtain ⟨r1, h2, h⟩ := bS h
   obtain rfl := si h
   exact runF_call mixed [(9, .bit true), (11, .ret (.d (D.b r1)))] [] [] (ai h1 (ai (value_Right_ok a0 r1 h2) (ti))) (by kernel_rfl)
  ·
   obtain rfl := si h
   exact runF_call mixed [(9, .bit false)] [] [] (ai h1 (ti)) (by kernel_rfl)
def slices_EqualFunc_Value_int_Value_int_l1_I (s1 : List Int) (s15 : List TValue) (s16 : Int) (s17 : Int) : St := ⟨sp 32 0 [(1, .d ((D.l (D.i .i64)) s1)), (2, .clo (.func 86) [] []), (15, .d ((D.l TValue.D) s15)), (16, .d ((D.i .i64) s16)), (17, .d ((D.i .i64) s17))], [], []⟩
def slices_EqualFunc_Value_int_Value_int_l1_O (s1 : List Int) (s15 : List TValue) (s16 : Int) (o : Unit ⊕ Unit) : Ex × St := match o with
  | .inl o => (.exit 0, ⟨sp 32 0 [], [], []⟩)
  | .inr o => (.ret, ⟨sp 32 0 [(6, .d (D.b false))], [], []⟩)
theorem slices_EqualFunc_Value_int_Value_int_l1_rnd (rd : Option Nat) (s1 : List Int) (s15 : List TValue) (s16 : Int) (s17 : Int) (o : (Int) ⊕ (Unit ⊕ Unit)) (h : slices_EqualFunc_Value_int_Value_int_l1_s s1 s15 s16 s17 = some o) : Arr Try.prog rd (fbody Try.prog 85) (0 :: [0, 1, 0, 1, 1]) (slices_EqualFunc_Value_int_Value_int_l1_I s1 s15 s16 s17) (rR (fun s : Int => slices_EqualFunc_Value_int_Value_int_l1_I s1 s15 s16 s) (slices_EqualFunc_Value_int_Value_int_l1_O s1 s15 s16) o).1 (rR (fun s : Int => slices_EqualFunc_Value_int_Value_int_l1_I s1 s15 s16 s) (slices_EqualFunc_Value_int_Value_int_l1_O s1 s15 s16) o).2 := by
  unfold slices_EqualFunc_Value_int_Value_int_l1_s at h
  rcases iS h with ⟨h2, h⟩ | ⟨h2, h⟩
  ·
   obtain ⟨x1, h3, h⟩ := xS h
   obtain ⟨x2, h4, h⟩ := xS h
   obtain ⟨r3, h5, h⟩ := bS h
   rcases iS h with ⟨h6, h⟩ | ⟨h6, h⟩
   ·
    obtain rfl := si h
    exact runB_arr mixed [(18, .bit true), (20, .el (TValue.D x1)), (24, .el ((D.i .i64) x2)), (29, .ret (.d (D.b r3))), (30, .bit true)] [] [.live [6], .keep []] (ai h2 (ai (elem_map TValue.D h3) (ai (elem_map (D.i .i64) h4) (ai (event_Right_1_ok x1 x2 r3 h5) (ai h6 (ti)))))) (by kernel_rfl)
   ·
    obtain rfl := si h
    exact runB_arr mixed [(18, .bit true), (20, .el (TValue.D x1)), (24, .el ((D.i .i64) x2)), (29, .ret (.d (D.b r3))), (30, .bit false)] [] [.live [1, 2, 15, 16, 17], .keep []] (ai h2 (ai (elem_map TValue.D h3) (ai (elem_map (D.i .i64) h4) (ai (event_Right_1_ok x1 x2 r3 h5) (ai h6 (ti)))))) (by kernel_rfl)
  ·
   obtain rfl := si h
   exact runB_arr mixed [(18, .bit false)] [] [.live [], .keep []] (ai h2 (ti)) (by kernel_rfl)
theorem slices_EqualFunc_Value_int_Value_int_l1_ok (rd : Option Nat) (s1 : List Int) (s15 : List TValue) (s16 : Int) (s17 : Int) (t : Unit ⊕ Unit) (h : slices_EqualFunc_Value_int_Value_int_l1 s1 s15 s16 s17 = some t) : LpOf Try.prog rd (fbody Try.prog 85) [0, 1, 0, 1, 1] (slices_EqualFunc_Value_int_Value_int_l1_I s1 s15 s16 s17) ((slices_EqualFunc_Value_int_Value_int_l1_O s1 s15 s16) t).1 ((slices_EqualFunc_Value_int_Value_int_l1_O s1 s15 s16) t).2 :=
  loopE_lpR (fun s : Int => slices_EqualFunc_Value_int_Value_int_l1_I s1 s15 s16 s) (slices_EqualFunc_Value_int_Value_int_l1_O s1 s15 s16) (by kernel_rfl) (fun t => isN_ne (by rcases t with (_ | _) <;> rfl)) (fun s o h => slices_EqualFunc_Value_int_Value_int_l1_rnd rd s1 s15 s16 s o h) (s := s17) (t := t) h
theorem slices_EqualFunc_Value_int_Value_int_ok (a0 : List TValue) (a1 : List Int) (r : Bool) (h : slices_EqualFunc_Value_int_Value_int a0 a1 = some r) : ACall Try.prog 85 [.d ((D.l TValue.D) a0), .d ((D.l (D.i .i64)) a1), .clo (.func 86) [] []] [] (.d (D.b r)) [] := by
  unfold slices_EqualFunc_Value_int_Value_int at h
  rcases iS h with ⟨h1, h⟩ | ⟨h1, h⟩
  ·
   obtain rfl := si h
   exact runF_call mixed [(11, .int (a0.length : Int)), (13, .int (a1.length : Int)), (14, .bit true)] [] [] (ai (len_map TValue.D a0) (ai (len_map (D.i .i64) a1) (ai h1 (ti)))) (by kernel_rfl)
  ·
   obtain ⟨o4, h7, h⟩ := bS h
   replace h := sumE_some h
   rcases h with ⟨o5, rfl, h⟩ | ⟨o6, rfl, h⟩
   ·
    obtain rfl := si h
    exact runF_call mixed [(11, .int (a0.length : Int)), (13, .int (a1.length : Int)), (14, .bit false), (16, .int (a0.length : Int))] [⟨[0, 1, 0, 1, 1], [.live [1, 2, 15, 16, 17], .keep []], .exit 0, (slices_EqualFunc_Value_int_Value_int_l1_O a1 a0 (a0.length : Int) (Sum.inl o5)).2⟩] [] (ai (len_map TValue.D a0) (ai (len_map (D.i .i64) a1) (ai h1 (ai (len_map TValue.D a0) (ai (slices_EqualFunc_Value_int_Value_int_l1_ok none a1 a0 (a0.length : Int) 0 (Sum.inl o5) h7) (ti)))))) (by kernel_rfl)
   ·
    obtain rfl := si h
    exact runF_call mixed [(11, .int (a0.length : Int)), (13, .int (a1.length : Int)), (14, .bit false), (16, .int (a0.length : Int))] [⟨[0, 1, 0, 1, 1], [.live [1, 2, 15, 16, 17], .keep []], .ret, (slices_EqualFunc_Value_int_Value_int_l1_O a1 a0 (a0.length : Int) (Sum.inr o6)).2⟩] [] (ai (len_map TValue.D a0) (ai (len_map (D.i .i64) a1) (ai h1 (ai (len_map TValue.D a0) (ai (slices_EqualFunc_Value_int_Value_int_l1_ok none a1 a0 (a0.length : Int) 0 (Sum.inr o6) h7) (ti)))))) (by kernel_rfl)
theorem event_Right_ok (a0 : List TDecl) (a1 : TEvent) (r : Bool) (h : event_Right a0 a1 = some r) : ACall Try.prog 73 [.d ((D.l TDecl.D) a0), .d (TEvent.D a1)] [] (.d (D.b r)) [] := by
  unfold event_Right at h
  obtain ⟨r1, h1, h⟩ := bS h
  rcases iS h with ⟨h2, h⟩ | ⟨h2, h⟩
  ·
   obtain rfl := si h
   exact runF_call mixed [(11, .ret (.tup [.d ((D.i .i64) r1.1), .d (D.b r1.2)])), (15, .bit true)] [] [] (ai (schema_Find_ok a0 a1.name r1 h1) (ai h2 (ti))) (by kernel_rfl)
  ·
   obtain ⟨x2, h3, h⟩ := xS h
   obtain ⟨r3, h4, h⟩ := bS h
   obtain rfl := si h
   exact runF_call mixed [(11, .ret (.tup [.d ((D.i .i64) r1.1), .d (D.b r1.2)])), (15, .bit false), (20, .el (TDecl.D x2)), (23, .ret (.d (D.b r3)))] [] [] (ai (schema_Find_ok a0 a1.name r1 h1) (ai h2 (ai (elem_map TDecl.D h3) (ai (slices_EqualFunc_Value_int_Value_int_ok a1.args x2.types r3 h4) (ti))))) (by kernel_rfl)
theorem match_slots_put_1_ok (a0 : TSlot) (a1 : Int) (r : Int) (h : match_slots_put_1 a0 a1 = some r) : ACall Try.prog 98 [.d (TSlot.D a0), .d ((D.i .i64) a1)] [] (.d ((D.i .i64) r)) [] := by
  unfold match_slots_put_1 at h
  obtain rfl := si h
  exact runF_call mixed [] [] [] (ti) (by kernel_rfl)
def slices_BinarySearchFunc_Slot_Slot_int_b3_I (s0 : List TSlot) (s1 : Int) (s8 : Int) (s9 : Int) (s10 : Int) (s11 : Int) (s31 : Bool) : St := ⟨sp 49 0 [(0, .d ((D.l TSlot.D) s0)), (1, .d ((D.i .i64) s1)), (2, .clo (.func 98) [] []), (8, .d ((D.i .i64) s8)), (9, .d ((D.i .i64) s9)), (10, .d ((D.i .i64) s10)), (11, .d ((D.i .i64) s11)), (31, .d (D.b s31))], [], []⟩
def slices_BinarySearchFunc_Slot_Slot_int_b3_O (s0 : List TSlot) (s1 : Int) (s8 : Int) (s9 : Int) (s10 : Int) (s11 : Int) (s31 : Bool) (o : (Int × Int)) : Ex × St := (.normal, ⟨sp 49 0 [(0, .d ((D.l TSlot.D) s0)), (1, .d ((D.i .i64) s1)), (2, .clo (.func 98) [] []), (8, .d ((D.i .i64) s8)), (9, .d ((D.i .i64) o.1)), (10, .d ((D.i .i64) o.2))], [], []⟩)
theorem slices_BinarySearchFunc_Slot_Slot_int_b3_ok (rd : Option Nat) (s0 : List TSlot) (s1 : Int) (s8 : Int) (s9 : Int) (s10 : Int) (s11 : Int) (s31 : Bool) (o : (Int × Int)) (h : slices_BinarySearchFunc_Slot_Slot_int_b3 s0 s1 s8 s9 s10 s11 s31 = some o) : LpOf Try.prog rd (fbody Try.prog 97) [1, 1, 0, 1, 0, 0, 0, 1, 1, 1] (slices_BinarySearchFunc_Slot_Slot_int_b3_I s0 s1 s8 s9 s10 s11 s31) (slices_BinarySearchFunc_Slot_Slot_int_b3_O s0 s1 s8 s9 s10 s11 s31 o).1 (slices_BinarySearchFunc_Slot_Slot_int_b3_O s0 s1 s8 s9 s10 s11 s31 o).2 := by
  unfold slices_BinarySearchFunc_Slot_Slot_int_b3 at h
  cases s31 with
  | true =>
   replace h := iteT h
   obtain rfl := si h
   exact (runB_arr mixed [] [] [.live [0, 1, 2, 8, 9, 10], .keep []] (ti) (by kernel_rfl)).lp
  | false =>
   replace h := iteF h
   obtain rfl := si h
   exact (runB_arr mixed [] [] [.live [0, 1, 2, 8, 9, 10], .keep []] (ti) (by kernel_rfl)).lp
def slices_BinarySearchFunc_Slot_Slot_int_b2_I (s0 : List TSlot) (s1 : Int) (s8 : Int) (s9 : Int) (s10 : Int) : St := ⟨sp 49 0 [(0, .d ((D.l TSlot.D) s0)), (1, .d ((D.i .i64) s1)), (2, .clo (.func 98) [] []), (8, .d ((D.i .i64) s8)), (9, .d ((D.i .i64) s9)), (10, .d ((D.i .i64) s10))], [], []⟩
def slices_BinarySearchFunc_Slot_Slot_int_b2_O (s0 : List TSlot) (s1 : Int) (s8 : Int) (s9 : Int) (s10 : Int) (o : (Int × Int)) : Ex × St := (.normal, ⟨sp 49 0 [(0, .d ((D.l TSlot.D) s0)), (1, .d ((D.i .i64) s1)), (2, .clo (.func 98) [] []), (8, .d ((D.i .i64) s8)), (9, .d ((D.i .i64) o.1)), (10, .d ((D.i .i64) o.2))], [], []⟩)
theorem slices_BinarySearchFunc_Slot_Slot_int_b2_ok (rd : Option Nat) (s0 : List TSlot) (s1 : Int) (s8 : Int) (s9 : Int) (s10 : Int) (o : (Int × Int)) (h : slices_BinarySearchFunc_Slot_Slot_int_b2 s0 s1 s8 s9 s10 = some o) : LpOf Try.prog rd (fbody Try.prog 97) [1, 0, 0, 0, 1, 1, 1] (slices_BinarySearchFunc_Slot_Slot_int_b2_I s0 s1 s8 s9 s10) (slices_BinarySearchFunc_Slot_Slot_int_b2_O s0 s1 s8 s9 s10 o).1 (slices_BinarySearchFunc_Slot_Slot_int_b2_O s0 s1 s8 s9 s10 o).2 := by
  unfold slices_BinarySearchFunc_Slot_Slot_int_b2 at h
  obtain ⟨x1, h2, h⟩ := xS h
  obtain ⟨r2, h3, h⟩ := bS h
  obtain ⟨o3, h5, h⟩ := bS h
  obtain rfl := si h
  exact (runB_arr mixed [(27, .el (TSlot.D x1)), (30, .ret (.d ((D.i .i64) r2)))] [⟨[1, 1, 0, 1, 0, 0, 0, 1, 1, 1], [.live [0, 1, 2, 8, 9, 10, 11, 31], .keep []], .normal, (slices_BinarySearchFunc_Slot_Slot_int_b3_O s0 s1 s8 s9 s10 (IntKind.wrap .i64 (intVal .shr .u64 (IntKind.wrap .u64 (intVal .add .i64 s9 s10)) 1)) (decide (r2 < 0)) o3).2⟩] [.live [0, 1, 2, 8, 9, 10], .keep []] (ai (of_decide_eq_true rfl : (0 : Int) ≤ 1) (ai (elem_map TSlot.D h2) (ai (match_slots_put_1_ok x1 s1 r2 h3) (ai (slices_BinarySearchFunc_Slot_Slot_int_b3_ok rd s0 s1 s8 s9 s10 (IntKind.wrap .i64 (intVal .shr .u64 (IntKind.wrap .u64 (intVal .add .i64 s9 s10)) 1)) (decide (r2 < 0)) o3 h5) (ti))))) (by kernel_rfl)).lp
def slices_BinarySearchFunc_Slot_Slot_int_l1_I (s0 : List TSlot) (s1 : Int) (s8 : Int) (s9 : Int) (s10 : Int) : St := ⟨sp 49 0 [(0, .d ((D.l TSlot.D) s0)), (1, .d ((D.i .i64) s1)), (2, .clo (.func 98) [] []), (8, .d ((D.i .i64) s8)), (9, .d ((D.i .i64) s9)), (10, .d ((D.i .i64) s10))], [], []⟩
def slices_BinarySearchFunc_Slot_Slot_int_l1_O (s0 : List TSlot) (s1 : Int) (s8 : Int) (o : Int) : Ex × St := (.exit 0, ⟨sp 49 0 [(0, .d ((D.l TSlot.D) s0)), (1, .d ((D.i .i64) s1)), (2, .clo (.func 98) [] []), (8, .d ((D.i .i64) s8)), (9, .d ((D.i .i64) o))], [], []⟩)
theorem slices_BinarySearchFunc_Slot_Slot_int_l1_rnd (rd : Option Nat) (s0 : List TSlot) (s1 : Int) (s8 : Int) (s9 : Int) (s10 : Int) (o : (Int × Int) ⊕ (Int)) (h : slices_BinarySearchFunc_Slot_Slot_int_l1_s s0 s1 s8 s9 s10 = some o) : Arr Try.prog rd (fbody Try.prog 97) (0 :: [0, 0, 1, 1, 1]) (slices_BinarySearchFunc_Slot_Slot_int_l1_I s0 s1 s8 s9 s10) (rR (fun s : Int × Int => slices_BinarySearchFunc_Slot_Slot_int_l1_I s0 s1 s8 s.1 s.2) (slices_BinarySearchFunc_Slot_Slot_int_l1_O s0 s1 s8) o).1 (rR (fun s : Int × Int => slices_BinarySearchFunc_Slot_Slot_int_l1_I s0 s1 s8 s.1 s.2) (slices_BinarySearchFunc_Slot_Slot_int_l1_O s0 s1 s8) o).2 := by
  unfold slices_BinarySearchFunc_Slot_Slot_int_l1_s at h
  rcases iS h with ⟨h1, h⟩ | ⟨h1, h⟩
  ·
   obtain ⟨o4, h6, h⟩ := bS h
   obtain rfl := si h
   exact runB_arr mixed [(17, .bit true)] [⟨[1, 0, 0, 0, 1, 1, 1], [.live [0, 1, 2, 8, 9, 10], .keep []], .normal, (slices_BinarySearchFunc_Slot_Slot_int_b2_O s0 s1 s8 s9 s10 o4).2⟩] [.live [0, 1, 2, 8, 9, 10], .keep []] (ai h1 (ai (slices_BinarySearchFunc_Slot_Slot_int_b2_ok rd s0 s1 s8 s9 s10 o4 h6) (ti))) (by kernel_rfl)
  ·
   obtain rfl := si h
   exact runB_arr mixed [(17, .bit false)] [] [.live [0, 1, 2, 8, 9], .keep []] (ai h1 (ti)) (by kernel_rfl)
theorem slices_BinarySearchFunc_Slot_Slot_int_l1_ok (rd : Option Nat) (s0 : List TSlot) (s1 : Int) (s8 : Int) (s9 : Int) (s10 : Int) (t : Int) (h : slices_BinarySearchFunc_Slot_Slot_int_l1 s0 s1 s8 s9 s10 = some t) : LpOf Try.prog rd (fbody Try.prog 97) [0, 0, 1, 1, 1] (slices_BinarySearchFunc_Slot_Slot_int_l1_I s0 s1 s8 s9 s10) ((slices_BinarySearchFunc_Slot_Slot_int_l1_O s0 s1 s8) t).1 ((slices_BinarySearchFunc_Slot_Slot_int_l1_O s0 s1 s8) t).2 :=
  loopE_lpR (fun s : Int × Int => slices_BinarySearchFunc_Slot_Slot_int_l1_I s0 s1 s8 s.1 s.2) (slices_BinarySearchFunc_Slot_Slot_int_l1_O s0 s1 s8) (by kernel_rfl) (fun t => isN_ne (by rfl)) (fun s o h => slices_BinarySearchFunc_Slot_Slot_int_l1_rnd rd s0 s1 s8 s.1 s.2 o h) (s := (s9, s10)) (t := t) h
theorem slices_BinarySearchFunc_Slot_Slot_int_ok (a0 : List TSlot) (a1 : Int) (r : Int × Bool) (h : slices_BinarySearchFunc_Slot_Slot_int a0 a1 = some r) : ACall Try.prog 97 [.d ((D.l TSlot.D) a0), .d ((D.i .i64) a1), .clo (.func 98) [] []] [] (.tup [.d ((D.i .i64) r.1), .d (D.b r.2)]) [] := by
  unfold slices_BinarySearchFunc_Slot_Slot_int at h
  obtain ⟨o5, h7, h⟩ := bS h
  rcases iS h with ⟨h8, h⟩ | ⟨h8, h⟩
  ·
   obtain ⟨x6, h9, h⟩ := xS h
   obtain ⟨r7, h10, h⟩ := bS h
   obtain rfl := si h
   exact runF_call mixed [(13, .int (a0.length : Int)), (39, .bit true), (43, .el (TSlot.D x6)), (46, .ret (.d ((D.i .i64) r7)))] [⟨[0, 0, 1, 1, 1], [.live [0, 1, 2, 8, 9, 10], .keep []], .exit 0, (slices_BinarySearchFunc_Slot_Slot_int_l1_O a0 a1 (a0.length : Int) o5).2⟩] [] (ai (len_map TSlot.D a0) (ai (slices_BinarySearchFunc_Slot_Slot_int_l1_ok none a0 a1 (a0.length : Int) 0 (a0.length : Int) o5 h7) (ai h8 (ai (elem_map TSlot.D h9) (ai (match_slots_put_1_ok x6 a1 r7 h10) (ti)))))) (by kernel_rfl)
  ·
   obtain rfl := si h
   exact runF_call mixed [(13, .int (a0.length : Int)), (39, .bit false)] [⟨[0, 0, 1, 1, 1], [.live [0, 1, 2, 8, 9, 10], .keep []], .exit 0, (slices_BinarySearchFunc_Slot_Slot_int_l1_O a0 a1 (a0.length : Int) o5).2⟩] [] (ai (len_map TSlot.D a0) (ai (slices_BinarySearchFunc_Slot_Slot_int_l1_ok none a0 a1 (a0.length : Int) 0 (a0.length : Int) o5 h7) (ai h8 (ti)))) (by kernel_rfl)
theorem slices_Insert_Slot_Slot_ok (i : Int) (ys r : List TSlot) (h : slices_Insert_Slot_Slot i ys = some r) : ACall Try.prog 99 [.nil, .d (D.i .i64 i), .row 0] [(0, .row 119 5 (ys.map TSlot.D))] (.row 1) [(1, .rw 119 5 (r.map TSlot.D))] :=
  insN_ok (ρ := ⟨fun n => if n = 22 then 99 else if n = 29 then 102 else 103, fun n => if n = 0 then 0 else if n = 3 then 3 else if n = 4 then 4 else if n = 24 then 82 else 119, id⟩) (by_ := 48) TSlot.D mixed rfl ⟨ "slices.Insert[[]proctor/api.Slot,proctor/api.Slot]", by decide, (Try.func99).trans (by kernel_rfl)⟩ Try.underlying3 Try.underlying4 Try.underlying82 (by kernel_rfl) (by decide) i ys r h
theorem match_slots_put_v2_ok (a1 : TSlot) (r : Bool × List TSlot) (h : match_slots_put_v2 a1 = some r) : ACall Try.prog 95 [.box 0 0, .d (TSlot.D a1)] [(0, .cells ([.nil]))] (.d (D.b r.1)) [(0, .cells ([.row 1])), (1, .rw 119 5 (r.2.map TSlot.D))] := by
  unfold match_slots_put_v2 at h
  obtain ⟨r1, h1, h⟩ := bS h
  rcases iS h with ⟨h2, h⟩ | ⟨h2, h⟩
  ·
   obtain ⟨x2, h3, h⟩ := xS h
   obtain rfl := si h
   exact runX_call mixed (fun us => [(14, .ret (.tup [.d ((D.i .i64) r1.1), .d (D.b r1.2)])), (17, .bit true), (23, .el (TSlot.D x2))]) (fun us => []) [.live [4], .keep [0, 997], .nilc 0 0 1 119 5, .sort] [0] (fun us => ai (slices_BinarySearchFunc_Slot_Slot_int_ok ([] : List TSlot) a1.var r1 h1) (ai h2 (ai (elem_map TSlot.D h3) (ti)))) (by kernel_rfl)
  ·
   obtain ⟨r3, h4, h⟩ := bS h
   obtain rfl := si h
   exact runX_call mixed (fun us => [(14, .ret (.tup [.d ((D.i .i64) r1.1), .d (D.b r1.2)])), (17, .bit false), (35, .cx true [(0, 34)] [(1, 35)] (.row 1) [(1, .rw 119 5 (r3.map TSlot.D))])]) (fun us => []) [.live [4], .keep [0, 35, 997], .ren 35 1, .sort] [0] (fun us => ai (slices_BinarySearchFunc_Slot_Slot_int_ok ([] : List TSlot) a1.var r1 h1) (ai h2 (ai (nc_ok TSlot.D [a1]) (ai (slices_Insert_Slot_Slot_ok r1.1 [a1] r3 h4) (ti))))) (by kernel_rfl)
theorem slices_Insert_Slot_Slot_v2_ok (i : Int) (xs ys r : List TSlot) (h : slices_Insert_Slot_Slot_v2 i xs ys = some r) : ACall Try.prog 99 [.row 0, .d (D.i .i64 i), .row 1] [(0, .rw 119 5 (xs.map TSlot.D)), (1, .row 119 5 (ys.map TSlot.D))] (.row 2) [(2, .rw 119 5 (r.map TSlot.D))] :=
  insE_ok (ρ := ⟨fun n => if n = 22 then 99 else if n = 29 then 102 else 103, fun n => if n = 0 then 0 else if n = 3 then 3 else if n = 4 then 4 else if n = 24 then 82 else 119, id⟩) (by_ := 48) TSlot.D mixed rfl ⟨ "slices.Insert[[]proctor/api.Slot,proctor/api.Slot]", by decide, (Try.func99).trans (by kernel_rfl)⟩ Try.underlying3 Try.underlying4 Try.underlying82 (by kernel_rfl) (by decide) (by decide)
    (fun args w => run_callFunc_extern Try.func102 (by kernel_rfl) (by kernel_rfl) (by kernel_rfl) (e := Go.Extern.SlicesOverlaps.overlaps #[82, 82] #[4]) (by kernel_rfl) args w) i xs ys r h
theorem match_slots_put_v3_ok (a1 : TSlot) (w1 : List TSlot) (r : Bool × List TSlot) (h : match_slots_put_v3 a1 w1 = some r) : ACall Try.prog 95 [.box 0 0, .d (TSlot.D a1)] [(0, .cells ([.row 1])), (1, .rw 119 5 (w1.map TSlot.D))] (.d (D.b r.1)) [(0, .cells ([.row 2])), (2, .rw 119 5 (r.2.map TSlot.D))] := by
  unfold match_slots_put_v3 at h
  obtain ⟨r1, h1, h⟩ := bS h
  rcases iS h with ⟨h2, h⟩ | ⟨h2, h⟩
  ·
   obtain ⟨h3, h⟩ := cS h
   obtain ⟨x2, h4, h⟩ := xS h
   obtain rfl := si h
   exact runX_call mixed (fun us => [(14, .lend [1] (.tup [.d ((D.i .i64) r1.1), .d (D.b r1.2)])), (17, .bit true), (24, .el (TSlot.D x2))]) (fun us => []) [.live [4], .keep [0, 1, 997], .ren 1 2, .sort] [0] (fun us => ai (slices_BinarySearchFunc_Slot_Slot_int_ok w1 a1.var r1 h1) (ai h2 (ai h3.1 (ai (le_map TSlot.D h3.2) (ai (elem_ep TSlot.D h4) (ti)))))) (by kernel_rfl)
  ·
   obtain ⟨r3, h5, h⟩ := bS h
   obtain rfl := si h
   exact runX_call mixed (fun us => [(14, .lend [1] (.tup [.d ((D.i .i64) r1.1), .d (D.b r1.2)])), (17, .bit false), (35, .cx true [(0, 1), (1, 34)] [(2, 35)] (.row 2) [(2, .rw 119 5 (r3.map TSlot.D))])]) (fun us => []) [.live [4], .keep [0, 35, 997], .ren 35 2, .sort] [0] (fun us => ai (slices_BinarySearchFunc_Slot_Slot_int_ok w1 a1.var r1 h1) (ai h2 (ai (nc_ok TSlot.D [a1]) (ai (slices_Insert_Slot_Slot_v2_ok r1.1 w1 [a1] r3 h5) (ti))))) (by kernel_rfl)
def match_fit_v2_l1_I (us : List Value) (s13 : List TArg) (s14 : Int) (w5 : TEvent) (s15 : Int) (w600 : List TSlot) (w601 : List TSlot) : St := ⟨sp 60 0 [(2, .box 0 0), (3, .box 1 0), (5, .box 5 0), (13, .d ((D.l TArg.D) s13)), (14, .d ((D.i .i64) s14)), (15, .d ((D.i .i64) s15))], [(0, .cells ([.row 600])), (1, .cells ([.row 601])), (5, .cells ((cellsA (TEvent.D w5)))), (600, .rw 119 5 (w600.map TSlot.D)), (601, .rw 119 5 (w601.map TSlot.D)), (997, .vals [.box 0 0, .box 1 0] us)], []⟩
def match_fit_v2_l1_O (us : List Value) (s13 : List TArg) (s14 : Int) (w5 : TEvent) (o : (List TSlot × List TSlot) ⊕ (List TSlot × List TSlot)) : Ex × St := match o with
  | .inl o => (.exit 0, ⟨sp 60 0 [], [(0, .cells ([.row 600])), (1, .cells ([.row 601])), (600, .rw 119 5 (o.1.map TSlot.D)), (601, .rw 119 5 (o.2.map TSlot.D)), (997, .vals [.box 0 0, .box 1 0] us)], []⟩)
  | .inr o => (.ret, ⟨sp 60 0 [(8, .d (D.b false))], [(0, .cells ([.row 600])), (1, .cells ([.row 601])), (600, .rw 119 5 (o.1.map TSlot.D)), (601, .rw 119 5 (o.2.map TSlot.D)), (997, .vals [.box 0 0, .box 1 0] us)], []⟩)
theorem match_fit_v2_l1_rnd (rd : Option Nat) (us : List Value) (s13 : List TArg) (s14 : Int) (w5 : TEvent) (s15 : Int) (w600 : List TSlot) (w601 : List TSlot) (o : (Int × List TSlot × List TSlot) ⊕ ((List TSlot × List TSlot) ⊕ (List TSlot × List TSlot))) (h : match_fit_v2_l1_s s13 s14 w5 s15 w600 w601 = some o) : Arr Try.prog rd (fbody Try.prog 88) (0 :: [0, 1, 0, 1]) (match_fit_v2_l1_I us s13 s14 w5 s15 w600 w601) (rR (fun s : Int × List TSlot × List TSlot => match_fit_v2_l1_I us s13 s14 w5 s.1 s.2.1 s.2.2) (match_fit_v2_l1_O us s13 s14 w5) o).1 (rR (fun s : Int × List TSlot × List TSlot => match_fit_v2_l1_I us s13 s14 w5 s.1 s.2.1 s.2.2) (match_fit_v2_l1_O us s13 s14 w5) o).2 := by
  unfold match_fit_v2_l1_s at h
  rcases iS h with ⟨h24, h⟩ | ⟨h24, h⟩
  ·
   obtain ⟨x9, h25, h⟩ := xS h
   obtain ⟨x10, h26, h⟩ := xS h
   rcases iS h with ⟨h27, h⟩ | ⟨h27, h⟩
   ·
    rcases iS h with ⟨h28, h⟩ | ⟨h28, h⟩
    ·
     obtain rfl := si h
     exact runB_arr mixed [(16, .bit true), (18, .el (TArg.D x9)), (25, .el (TValue.D x10)), (32, .bit true), (28, .bit true)] [] [.live [8], .keep [0, 1, 600, 601, 997]] (ai h24 (ai (elem_map TArg.D h25) (ai (elem_map TValue.D h26) (ai h27 (ai h28 (ti)))))) (by kernel_rfl)
    ·
     rcases iS h with ⟨h29, h⟩ | ⟨h29, h⟩
     ·
      obtain ⟨r11, h30, h⟩ := bS h
      rcases iS h with ⟨h31, h⟩ | ⟨h31, h⟩
      ·
       obtain rfl := si h
       exact runB_arr mixed [(16, .bit true), (18, .el (TArg.D x9)), (25, .el (TValue.D x10)), (32, .bit true), (28, .bit false), (43, .bit true), (46, .cx false [(0, 0), (1, 600)] [(2, 46)] (.d (D.b r11.1)) [(0, .cells ([.row 2])), (2, .rw 119 5 (r11.2.map TSlot.D))]), (39, .bit true)] [] [.live [8], .keep [0, 1, 46, 601, 997], .ren 46 600, .sort] (ai h24 (ai (elem_map TArg.D h25) (ai (elem_map TValue.D h26) (ai h27 (ai h28 (ai h29 (ai (match_slots_put_v3_ok (TSlot.mk x9.n x10) w600 r11 h30) (ai h31 (ti))))))))) (by kernel_rfl)
      ·
       rcases iS h with ⟨h32, h⟩ | ⟨h32, h⟩
       ·
        obtain ⟨r12, h33, h⟩ := bS h
        rcases iS h with ⟨h34, h⟩ | ⟨h34, h⟩
        ·
         obtain rfl := si h
         exact runB_arr mixed [(16, .bit true), (18, .el (TArg.D x9)), (25, .el (TValue.D x10)), (32, .bit true), (28, .bit false), (43, .bit true), (46, .cx false [(0, 0), (1, 600)] [(2, 46)] (.d (D.b r11.1)) [(0, .cells ([.row 2])), (2, .rw 119 5 (r11.2.map TSlot.D))]), (39, .bit false), (53, .bit true), (56, .cx false [(0, 1), (1, 601)] [(2, 56)] (.d (D.b r12.1)) [(0, .cells ([.row 2])), (2, .rw 119 5 (r12.2.map TSlot.D))]), (49, .bit true)] [] [.live [8], .keep [0, 1, 46, 56, 997], .ren 46 600, .ren 56 601, .sort] (ai h24 (ai (elem_map TArg.D h25) (ai (elem_map TValue.D h26) (ai h27 (ai h28 (ai h29 (ai (match_slots_put_v3_ok (TSlot.mk x9.n x10) w600 r11 h30) (ai h31 (ai h32 (ai (match_slots_put_v3_ok (TSlot.mk x9.n x10) w601 r12 h33) (ai h34 (ti)))))))))))) (by kernel_rfl)
        ·
         obtain rfl := si h
         exact runB_arr mixed [(16, .bit true), (18, .el (TArg.D x9)), (25, .el (TValue.D x10)), (32, .bit true), (28, .bit false), (43, .bit true), (46, .cx false [(0, 0), (1, 600)] [(2, 46)] (.d (D.b r11.1)) [(0, .cells ([.row 2])), (2, .rw 119 5 (r11.2.map TSlot.D))]), (39, .bit false), (53, .bit true), (56, .cx false [(0, 1), (1, 601)] [(2, 56)] (.d (D.b r12.1)) [(0, .cells ([.row 2])), (2, .rw 119 5 (r12.2.map TSlot.D))]), (49, .bit false)] [] [.live [2, 3, 5, 13, 14, 15], .keep [0, 1, 5, 46, 56, 997], .ren 46 600, .ren 56 601, .sort] (ai h24 (ai (elem_map TArg.D h25) (ai (elem_map TValue.D h26) (ai h27 (ai h28 (ai h29 (ai (match_slots_put_v3_ok (TSlot.mk x9.n x10) w600 r11 h30) (ai h31 (ai h32 (ai (match_slots_put_v3_ok (TSlot.mk x9.n x10) w601 r12 h33) (ai h34 (ti)))))))))))) (by kernel_rfl)
       ·
        obtain rfl := si h
        exact runB_arr mixed [(16, .bit true), (18, .el (TArg.D x9)), (25, .el (TValue.D x10)), (32, .bit true), (28, .bit false), (43, .bit true), (46, .cx false [(0, 0), (1, 600)] [(2, 46)] (.d (D.b r11.1)) [(0, .cells ([.row 2])), (2, .rw 119 5 (r11.2.map TSlot.D))]), (39, .bit false), (53, .bit false)] [] [.live [2, 3, 5, 13, 14, 15], .keep [0, 1, 5, 46, 601, 997], .ren 46 600, .sort] (ai h24 (ai (elem_map TArg.D h25) (ai (elem_map TValue.D h26) (ai h27 (ai h28 (ai h29 (ai (match_slots_put_v3_ok (TSlot.mk x9.n x10) w600 r11 h30) (ai h31 (ai h32 (ti)))))))))) (by kernel_rfl)
     ·
      rcases iS h with ⟨h35, h⟩ | ⟨h35, h⟩
      ·
       obtain ⟨r13, h36, h⟩ := bS h
       rcases iS h with ⟨h37, h⟩ | ⟨h37, h⟩
       ·
        obtain rfl := si h
        exact runB_arr mixed [(16, .bit true), (18, .el (TArg.D x9)), (25, .el (TValue.D x10)), (32, .bit true), (28, .bit false), (43, .bit false), (53, .bit true), (56, .cx false [(0, 1), (1, 601)] [(2, 56)] (.d (D.b r13.1)) [(0, .cells ([.row 2])), (2, .rw 119 5 (r13.2.map TSlot.D))]), (49, .bit true)] [] [.live [8], .keep [0, 1, 56, 600, 997], .ren 56 601, .sort] (ai h24 (ai (elem_map TArg.D h25) (ai (elem_map TValue.D h26) (ai h27 (ai h28 (ai h29 (ai h35 (ai (match_slots_put_v3_ok (TSlot.mk x9.n x10) w601 r13 h36) (ai h37 (ti)))))))))) (by kernel_rfl)
       ·
        obtain rfl := si h
        exact runB_arr mixed [(16, .bit true), (18, .el (TArg.D x9)), (25, .el (TValue.D x10)), (32, .bit true), (28, .bit false), (43, .bit false), (53, .bit true), (56, .cx false [(0, 1), (1, 601)] [(2, 56)] (.d (D.b r13.1)) [(0, .cells ([.row 2])), (2, .rw 119 5 (r13.2.map TSlot.D))]), (49, .bit false)] [] [.live [2, 3, 5, 13, 14, 15], .keep [0, 1, 5, 56, 600, 997], .ren 56 601, .sort] (ai h24 (ai (elem_map TArg.D h25) (ai (elem_map TValue.D h26) (ai h27 (ai h28 (ai h29 (ai h35 (ai (match_slots_put_v3_ok (TSlot.mk x9.n x10) w601 r13 h36) (ai h37 (ti)))))))))) (by kernel_rfl)
      ·
       obtain rfl := si h
       exact runB_arr mixed [(16, .bit true), (18, .el (TArg.D x9)), (25, .el (TValue.D x10)), (32, .bit true), (28, .bit false), (43, .bit false), (53, .bit false)] [] [.live [2, 3, 5, 13, 14, 15], .keep [0, 1, 5, 600, 601, 997]] (ai h24 (ai (elem_map TArg.D h25) (ai (elem_map TValue.D h26) (ai h27 (ai h28 (ai h29 (ai h35 (ti)))))))) (by kernel_rfl)
   ·
    rcases iS h with ⟨h38, h⟩ | ⟨h38, h⟩
    ·
     obtain ⟨r14, h39, h⟩ := bS h
     rcases iS h with ⟨h40, h⟩ | ⟨h40, h⟩
     ·
      obtain rfl := si h
      exact runB_arr mixed [(16, .bit true), (18, .el (TArg.D x9)), (25, .el (TValue.D x10)), (32, .bit false), (43, .bit true), (46, .cx false [(0, 0), (1, 600)] [(2, 46)] (.d (D.b r14.1)) [(0, .cells ([.row 2])), (2, .rw 119 5 (r14.2.map TSlot.D))]), (39, .bit true)] [] [.live [8], .keep [0, 1, 46, 601, 997], .ren 46 600, .sort] (ai h24 (ai (elem_map TArg.D h25) (ai (elem_map TValue.D h26) (ai h27 (ai h38 (ai (match_slots_put_v3_ok (TSlot.mk x9.n x10) w600 r14 h39) (ai h40 (ti)))))))) (by kernel_rfl)
     ·
      rcases iS h with ⟨h41, h⟩ | ⟨h41, h⟩
      ·
       obtain ⟨r15, h42, h⟩ := bS h
       rcases iS h with ⟨h43, h⟩ | ⟨h43, h⟩
       ·
        obtain rfl := si h
        exact runB_arr mixed [(16, .bit true), (18, .el (TArg.D x9)), (25, .el (TValue.D x10)), (32, .bit false), (43, .bit true), (46, .cx false [(0, 0), (1, 600)] [(2, 46)] (.d (D.b r14.1)) [(0, .cells ([.row 2])), (2, .rw 119 5 (r14.2.map TSlot.D))]), (39, .bit false), (53, .bit true), (56, .cx false [(0, 1), (1, 601)] [(2, 56)] (.d (D.b r15.1)) [(0, .cells ([.row 2])), (2, .rw 119 5 (r15.2.map TSlot.D))]), (49, .bit true)] [] [.live [8], .keep [0, 1, 46, 56, 997], .ren 46 600, .ren 56 601, .sort] (ai h24 (ai (elem_map TArg.D h25) (ai (elem_map TValue.D h26) (ai h27 (ai h38 (ai (match_slots_put_v3_ok (TSlot.mk x9.n x10) w600 r14 h39) (ai h40 (ai h41 (ai (match_slots_put_v3_ok (TSlot.mk x9.n x10) w601 r15 h42) (ai h43 (ti))))))))))) (by kernel_rfl)
       ·
        obtain rfl := si h
        exact runB_arr mixed [(16, .bit true), (18, .el (TArg.D x9)), (25, .el (TValue.D x10)), (32, .bit false), (43, .bit true), (46, .cx false [(0, 0), (1, 600)] [(2, 46)] (.d (D.b r14.1)) [(0, .cells ([.row 2])), (2, .rw 119 5 (r14.2.map TSlot.D))]), (39, .bit false), (53, .bit true), (56, .cx false [(0, 1), (1, 601)] [(2, 56)] (.d (D.b r15.1)) [(0, .cells ([.row 2])), (2, .rw 119 5 (r15.2.map TSlot.D))]), (49, .bit false)] [] [.live [2, 3, 5, 13, 14, 15], .keep [0, 1, 5, 46, 56, 997], .ren 46 600, .ren 56 601, .sort] (ai h24 (ai (elem_map TArg.D h25) (ai (elem_map TValue.D h26) (ai h27 (ai h38 (ai (match_slots_put_v3_ok (TSlot.mk x9.n x10) w600 r14 h39) (ai h40 (ai h41 (ai (match_slots_put_v3_ok (TSlot.mk x9.n x10) w601 r15 h42) (ai h43 (ti))))))))))) (by kernel_rfl)
      ·
       obtain rfl := si h
       exact runB_arr mixed [(16, .bit true), (18, .el (TArg.D x9)), (25, .el (TValue.D x10)), (32, .bit false), (43, .bit true), (46, .cx false [(0, 0), (1, 600)] [(2, 46)] (.d (D.b r14.1)) [(0, .cells ([.row 2])), (2, .rw 119 5 (r14.2.map TSlot.D))]), (39, .bit false), (53, .bit false)] [] [.live [2, 3, 5, 13, 14, 15], .keep [0, 1, 5, 46, 601, 997], .ren 46 600, .sort] (ai h24 (ai (elem_map TArg.D h25) (ai (elem_map TValue.D h26) (ai h27 (ai h38 (ai (match_slots_put_v3_ok (TSlot.mk x9.n x10) w600 r14 h39) (ai h40 (ai h41 (ti))))))))) (by kernel_rfl)
    ·
     rcases iS h with ⟨h44, h⟩ | ⟨h44, h⟩
     ·
      obtain ⟨r16, h45, h⟩ := bS h
      rcases iS h with ⟨h46, h⟩ | ⟨h46, h⟩
      ·
       obtain rfl := si h
       exact runB_arr mixed [(16, .bit true), (18, .el (TArg.D x9)), (25, .el (TValue.D x10)), (32, .bit false), (43, .bit false), (53, .bit true), (56, .cx false [(0, 1), (1, 601)] [(2, 56)] (.d (D.b r16.1)) [(0, .cells ([.row 2])), (2, .rw 119 5 (r16.2.map TSlot.D))]), (49, .bit true)] [] [.live [8], .keep [0, 1, 56, 600, 997], .ren 56 601, .sort] (ai h24 (ai (elem_map TArg.D h25) (ai (elem_map TValue.D h26) (ai h27 (ai h38 (ai h44 (ai (match_slots_put_v3_ok (TSlot.mk x9.n x10) w601 r16 h45) (ai h46 (ti))))))))) (by kernel_rfl)
      ·
       obtain rfl := si h
       exact runB_arr mixed [(16, .bit true), (18, .el (TArg.D x9)), (25, .el (TValue.D x10)), (32, .bit false), (43, .bit false), (53, .bit true), (56, .cx false [(0, 1), (1, 601)] [(2, 56)] (.d (D.b r16.1)) [(0, .cells ([.row 2])), (2, .rw 119 5 (r16.2.map TSlot.D))]), (49, .bit false)] [] [.live [2, 3, 5, 13, 14, 15], .keep [0, 1, 5, 56, 600, 997], .ren 56 601, .sort] (ai h24 (ai (elem_map TArg.D h25) (ai (elem_map TValue.D h26) (ai h27 (ai h38 (ai h44 (ai (match_slots_put_v3_ok (TSlot.mk x9.n x10) w601 r16 h45) (ai h46 (ti))))))))) (by kernel_rfl)
     ·
      obtain rfl := si h
      exact runB_arr mixed [(16, .bit true), (18, .el (TArg.D x9)), (25, .el (TValue.D x10)), (32, .bit false), (43, .bit false), (53, .bit false)] [] [.live [2, 3, 5, 13, 14, 15], .keep [0, 1, 5, 600, 601, 997]] (ai h24 (ai (elem_map TArg.D h25) (ai (elem_map TValue.D h26) (ai h27 (ai h38 (ai h44 (ti))))))) (by kernel_rfl)
  ·
   obtain rfl := si h
   exact runB_arr mixed [(16, .bit false)] [] [.live [], .keep [0, 1, 600, 601, 997]] (ai h24 (ti)) (by kernel_rfl)
theorem match_fit_v2_l1_ok (rd : Option Nat) (us : List Value) (s13 : List TArg) (s14 : Int) (w5 : TEvent) (s15 : Int) (w600 : List TSlot) (w601 : List TSlot) (t : (List TSlot × List TSlot) ⊕ (List TSlot × List TSlot)) (h : match_fit_v2_l1 s13 s14 w5 s15 w600 w601 = some t) : LpOf Try.prog rd (fbody Try.prog 88) [0, 1, 0, 1] (match_fit_v2_l1_I us s13 s14 w5 s15 w600 w601) ((match_fit_v2_l1_O us s13 s14 w5) t).1 ((match_fit_v2_l1_O us s13 s14 w5) t).2 :=
  loopE_lpR (fun s : Int × List TSlot × List TSlot => match_fit_v2_l1_I us s13 s14 w5 s.1 s.2.1 s.2.2) (match_fit_v2_l1_O us s13 s14 w5) (by kernel_rfl) (fun t => isN_ne (by rcases t with (_ | _) <;> rfl)) (fun s o h => match_fit_v2_l1_rnd rd us s13 s14 w5 s.1 s.2.1 s.2.2 o h) (s := (s15, w600, w601)) (t := t) h
theorem match_fit_v2_ok (a0 : TSymbol) (a1 : TEvent) (r : Bool × List TSlot × List TSlot) (h : match_fit_v2 a0 a1 = some r) : ACall Try.prog 88 [.d (TSymbol.D a0), .d (TEvent.D a1), .box 0 0, .box 1 0] [(0, .cells ([.nil])), (1, .cells ([.nil]))] (.d (D.b r.1)) [(0, .cells ([.row 2])), (1, .cells ([.row 3])), (2, .rw 119 5 (r.2.1.map TSlot.D)), (3, .rw 119 5 (r.2.2.map TSlot.D))] := by
  unfold match_fit_v2 at h
  obtain ⟨o17, h47, h⟩ := bS h
  replace h := sumE_some h
  rcases h with ⟨o18, rfl, h⟩ | ⟨o19, rfl, h⟩
  ·
   obtain rfl := si h
   exact runX_call mixed (fun us => [(14, .int (a0.args.length : Int))]) (fun us => [⟨[0, 1, 0, 1], [.live [2, 3, 5, 13, 14, 15], .keep [0, 1, 5, 997], .nilc 0 0 600 119 5, .nilc 1 0 601 119 5, .sort], .exit 0, (match_fit_v2_l1_O us a0.args (a0.args.length : Int) a1 (Sum.inl o18)).2⟩]) [.live [8], .keep [0, 1, 600, 601, 997], .ren 600 2, .ren 601 3, .sort] [2, 3] (fun us => ai (len_map TArg.D a0.args) (ai (match_fit_v2_l1_ok none us a0.args (a0.args.length : Int) a1 0 ([] : List TSlot) ([] : List TSlot) (Sum.inl o18) h47) (ti))) (by kernel_rfl)
  ·
   obtain rfl := si h
   exact runX_call mixed (fun us => [(14, .int (a0.args.length : Int))]) (fun us => [⟨[0, 1, 0, 1], [.live [2, 3, 5, 13, 14, 15], .keep [0, 1, 5, 997], .nilc 0 0 600 119 5, .nilc 1 0 601 119 5, .sort], .ret, (match_fit_v2_l1_O us a0.args (a0.args.length : Int) a1 (Sum.inr o19)).2⟩]) [.live [8], .keep [0, 1, 600, 601, 997], .ren 600 2, .ren 601 3, .sort] [2, 3] (fun us => ai (len_map TArg.D a0.args) (ai (match_fit_v2_l1_ok none us a0.args (a0.args.length : Int) a1 0 ([] : List TSlot) ([] : List TSlot) (Sum.inr o19) h47) (ti))) (by kernel_rfl)
theorem match_one_ok (a0 : TQea) (a1 : Int) (a2 : TEvent) (r : THit × Bool) (h : match_one a0 a1 a2 = some r) : ACall Try.prog 74 [.d (TQea.D a0), .d ((D.i .i64) a1), .d (TEvent.D a2)] [] (.tup [.d (THit.D r.1), .d (D.b r.2)]) [] := by
  unfold match_one at h
  obtain ⟨x1, h1, h⟩ := xS h
  obtain ⟨x2, h2, h⟩ := xS h
  rcases iS h with ⟨h3, h⟩ | ⟨h3, h⟩
  ·
   obtain rfl := si h
   exact runF_call mixed [(14, .el (TSymbol.D x1)), (20, .el (TDecl.D x2)), (25, .bit true)] [] [] (ai (elem_map TSymbol.D h1) (ai (elem_map TDecl.D h2) (ai h3 (ti)))) (by kernel_rfl)
  ·
   obtain ⟨r3, h4, h⟩ := bS h
   rcases iS h with ⟨h5, h⟩ | ⟨h5, h⟩
   ·
    obtain rfl := si h
    exact runF_call mixed [(14, .el (TSymbol.D x1)), (20, .el (TDecl.D x2)), (25, .bit false), (29, .cx false [(0, 9), (1, 10)] [(2, 29), (3, 436)] (.d (D.b r3.1)) [(0, .cells ([.row 2])), (1, .cells ([.row 3])), (2, .rw 119 5 (r3.2.1.map TSlot.D)), (3, .rw 119 5 (r3.2.2.map TSlot.D))]), (30, .bit true)] [] [] (ai (elem_map TSymbol.D h1) (ai (elem_map TDecl.D h2) (ai h3 (ai (match_fit_v2_ok x1 a2 r3 h4) (ai h5 (ti)))))) (by kernel_rfl)
   ·
    obtain rfl := si h
    exact runF_call mixed [(14, .el (TSymbol.D x1)), (20, .el (TDecl.D x2)), (25, .bit false), (29, .cx false [(0, 9), (1, 10)] [(2, 29), (3, 436)] (.d (D.b r3.1)) [(0, .cells ([.row 2])), (1, .cells ([.row 3])), (2, .rw 119 5 (r3.2.1.map TSlot.D)), (3, .rw 119 5 (r3.2.2.map TSlot.D))]), (30, .bit false), (34, .fzn 29), (36, .fzn 436)] [] [] (ai (elem_map TSymbol.D h1) (ai (elem_map TDecl.D h2) (ai h3 (ai (match_fit_v2_ok x1 a2 r3 h4) (ai h5 (ti)))))) (by kernel_rfl)
def match_hits_1_enc (x : THit) : List A := [.d (THit.D x)]
def match_hits_1_l1_I {φ : Type} (l : Nat) (F : φ → Bx) (s1 : TQea) (s2 : TEvent) (s14 : Int) (f0 : φ) (s15 : Int) : St := ⟨sp 33 0 [(0, .d (.v (.func (.yield l) #[] #[]))), (1, .eptr (D.cells (TQea.D s1))), (2, .eptr (D.cells (TEvent.D s2))), (14, .d ((D.i .i64) s14)), (15, .d ((D.i .i64) s15))], [], (F f0)⟩
def match_hits_1_l1_O {φ : Type} (l : Nat) (F : φ → Bx) (s1 : TQea) (s2 : TEvent) (s14 : Int) (o : φ ⊕ φ) : Ex × St := match o with
  | .inl o => (.exit 0, ⟨sp 33 0 [], [], (F o)⟩)
  | .inr o => (.ret, ⟨sp 33 0 [], [], (F o)⟩)
theorem match_hits_1_l1_rnd (rd : Option Nat) {φ : Type} (step : φ → THit → Option (φ × Bool)) (l : Nat) (F : φ → Bx) (N : List Nat) (hF : ∀ f, FOk (F f) N) (hY : ∀ f x r, step f x = some r → AYield Try.prog l (match_hits_1_enc x) (F f) (.d (D.b r.2)) (F r.1)) (s1 : TQea) (s2 : TEvent) (s14 : Int) (f0 : φ) (s15 : Int) (o : (φ × Int) ⊕ (φ ⊕ φ)) (h : match_hits_1_l1_s step s1 s2 s14 f0 s15 = some o) : Arr Try.prog rd (fbody Try.prog 72) (0 :: [0, 1, 1]) (match_hits_1_l1_I l F s1 s2 s14 f0 s15) (rR (fun s : φ × Int => match_hits_1_l1_I l F s1 s2 s14 s.1 s.2) (match_hits_1_l1_O l F s1 s2 s14) o).1 (rR (fun s : φ × Int => match_hits_1_l1_I l F s1 s2 s14 s.1 s.2) (match_hits_1_l1_O l F s1 s2 s14) o).2 := by
  unfold match_hits_1_l1_s at h
  rcases iS h with ⟨h3, h⟩ | ⟨h3, h⟩
  ·
   obtain ⟨r2, h4, h⟩ := bS h
   rcases iS h with ⟨h5, h⟩ | ⟨h5, h⟩
   ·
    rcases yldE_some h with ⟨f3, h6, h⟩ | ⟨f4, h7, h⟩
    ·
     obtain rfl := si h
     exact runB_arr mixed [(16, .bit true), (22, .ret (.tup [.d (THit.D r2.1), .d (D.b r2.2)])), (26, .bit true), (29, .own false (.d (D.b true)) [] (F f3))] [] [.live [0, 1, 2, 14, 15], .keep []] (ai h3 (ai (match_one_ok s1 s15 s2 r2 h4) (ai h5 (ai (hY f0 r2.1 (f3, true) h6) (ai (Or.inr ⟨(hF _).nms.trans (hF _).nms.symm, (hF _).far⟩ : F f3 = F f0 ∨ (names (F f3) = names (F f0) ∧ Far (F f3))) (ti)))))) (by kernel_rfl)
    ·
     obtain rfl := si h
     exact runB_arr mixed [(16, .bit true), (22, .ret (.tup [.d (THit.D r2.1), .d (D.b r2.2)])), (26, .bit true), (29, .own false (.d (D.b false)) [] (F f4))] [] [.live [], .keep []] (ai h3 (ai (match_one_ok s1 s15 s2 r2 h4) (ai h5 (ai (hY f0 r2.1 (f4, false) h7) (ai (Or.inr ⟨(hF _).nms.trans (hF _).nms.symm, (hF _).far⟩ : F f4 = F f0 ∨ (names (F f4) = names (F f0) ∧ Far (F f4))) (ti)))))) (by kernel_rfl)
   ·
    obtain rfl := si h
    exact runB_arr mixed [(16, .bit true), (22, .ret (.tup [.d (THit.D r2.1), .d (D.b r2.2)])), (26, .bit false)] [] [.live [0, 1, 2, 14, 15], .keep []] (ai h3 (ai (match_one_ok s1 s15 s2 r2 h4) (ai h5 (ti)))) (by kernel_rfl)
  ·
   obtain rfl := si h
   exact runB_arr mixed [(16, .bit false)] [] [.live [], .keep []] (ai h3 (ti)) (by kernel_rfl)
theorem match_hits_1_l1_ok (rd : Option Nat) {φ : Type} (step : φ → THit → Option (φ × Bool)) (l : Nat) (F : φ → Bx) (N : List Nat) (hF : ∀ f, FOk (F f) N) (hY : ∀ f x r, step f x = some r → AYield Try.prog l (match_hits_1_enc x) (F f) (.d (D.b r.2)) (F r.1)) (s1 : TQea) (s2 : TEvent) (s14 : Int) (f0 : φ) (s15 : Int) (t : φ ⊕ φ) (h : match_hits_1_l1 step s1 s2 s14 f0 s15 = some t) : LpOf Try.prog rd (fbody Try.prog 72) [0, 1, 1] (match_hits_1_l1_I l F s1 s2 s14 f0 s15) ((match_hits_1_l1_O l F s1 s2 s14) t).1 ((match_hits_1_l1_O l F s1 s2 s14) t).2 :=
  loopE_lpR (fun s : φ × Int => match_hits_1_l1_I l F s1 s2 s14 s.1 s.2) (match_hits_1_l1_O l F s1 s2 s14) (by kernel_rfl) (fun t => isN_ne (by rcases t with (_ | _) <;> rfl)) (fun s o h => match_hits_1_l1_rnd rd step l F N hF hY s1 s2 s14 s.1 s.2 o h) (s := (f0, s15)) (t := t) h
theorem match_hits_1_ok {φ : Type} (step : φ → THit → Option (φ × Bool)) (a1 : TQea) (a2 : TEvent) (f0 : φ) (f1 : φ) (h : match_hits_1 step a1 a2 f0 = some f1) : AIt Try.prog 72 [.eptr (D.cells (TQea.D a1)), .eptr (D.cells (TEvent.D a2))] match_hits_1_enc step f0 f1 := by
  intro l F N hF hY
  refine ⟨.tup [], ?_⟩
  unfold match_hits_1 at h
  obtain ⟨r1, h1, h⟩ := bS h
  rcases iS h with ⟨h2, h⟩ | ⟨h2, h⟩
  ·
   obtain rfl := si h
   exact runI_call mixed [(10, .ret (.d (D.b r1))), (11, .bit true)] [] [] (hF _).far (hF _).cls (ai (event_Right_ok a1.decls a2 r1 h1) (ai h2 (ti))) (by kernel_rfl)
  ·
   obtain ⟨o5, h8, h⟩ := bS h
   replace h := sumE_some h
   rcases h with ⟨o6, rfl, h⟩ | ⟨o7, rfl, h⟩
   ·
    obtain rfl := si h
    exact runI_call mixed [(10, .ret (.d (D.b r1))), (11, .bit false), (14, .int (a1.symbols.length : Int))] [⟨[0, 1, 1], [.live [0, 1, 2, 14, 15], .keep []], .exit 0, (match_hits_1_l1_O l F a1 a2 (a1.symbols.length : Int) (Sum.inl o6)).2⟩] [] (hF _).far (hF _).cls (ai (event_Right_ok a1.decls a2 r1 h1) (ai h2 (ai (len_map TSymbol.D a1.symbols) (ai (match_hits_1_l1_ok none step l F N hF hY a1 a2 (a1.symbols.length : Int) f0 0 (Sum.inl o6) h8) (ti))))) (by kernel_rfl)
   ·
    obtain rfl := si h
    exact runI_call mixed [(10, .ret (.d (D.b r1))), (11, .bit false), (14, .int (a1.symbols.length : Int))] [⟨[0, 1, 1], [.live [0, 1, 2, 14, 15], .keep []], .ret, (match_hits_1_l1_O l F a1 a2 (a1.symbols.length : Int) (Sum.inr o7)).2⟩] [] (hF _).far (hF _).cls (ai (event_Right_ok a1.decls a2 r1 h1) (ai h2 (ai (len_map TSymbol.D a1.symbols) (ai (match_hits_1_l1_ok none step l F N hF hY a1 a2 (a1.symbols.length : Int) f0 0 (Sum.inr o7) h8) (ti))))) (by kernel_rfl)
def slices_AppendSeq_Hit_Hit_b4_I (uz : List Value) (s6_1 : TQea) (s6_2 : TEvent) (s7 : THit) (w600 : List THit) (w998_1 : TQea) (w998_2 : TEvent) : St := ⟨sp 13 0 [(2, .box 2 0), (6, .clo (.func 72) [] [.eptr (D.cells (TQea.D s6_1)), .eptr (D.cells (TEvent.D s6_2))]), (7, .d (THit.D s7))], [(2, .cells ([.row 600])), (600, .row 84 3 (w600.map THit.D)), (998, .vals (sp 13 0 [(2, .box 2 0), (6, .clo (.func 72) [] [.eptr (D.cells (TQea.D w998_1)), .eptr (D.cells (TEvent.D w998_2))])]) uz)], []⟩
def slices_AppendSeq_Hit_Hit_b4_O (uz : List Value) (s6_1 : TQea) (s6_2 : TEvent) (s7 : THit) (w600 : List THit) (w998_1 : TQea) (w998_2 : TEvent) (o : Unit) : Ex × St := (.normal, ⟨sp 13 0 [(2, .box 2 0), (5, .box 5 0), (6, .clo (.func 72) [] [.eptr (D.cells (TQea.D s6_1)), .eptr (D.cells (TEvent.D s6_2))])], [(2, .cells ([.row 600])), (5, .cells ((cellsA (THit.D s7)))), (600, .row 84 3 (w600.map THit.D)), (998, .vals (sp 13 0 [(2, .box 2 0), (6, .clo (.func 72) [] [.eptr (D.cells (TQea.D w998_1)), .eptr (D.cells (TEvent.D w998_2))])]) uz)], []⟩)
theorem slices_AppendSeq_Hit_Hit_b4_ok (rd : Option Nat) (uz : List Value) (s6_1 : TQea) (s6_2 : TEvent) (s7 : THit) (w600 : List THit) (w998_1 : TQea) (w998_2 : TEvent) (o : Unit) (h : slices_AppendSeq_Hit_Hit_b4 s6_1 s6_2 s7 w600 w998_1 w998_2 = some o) : LpOf Try.prog rd (fbody Try.prog 71) [0, 0, 1, 0, 1] (slices_AppendSeq_Hit_Hit_b4_I uz s6_1 s6_2 s7 w600 w998_1 w998_2) (slices_AppendSeq_Hit_Hit_b4_O uz s6_1 s6_2 s7 w600 w998_1 w998_2 o).1 (slices_AppendSeq_Hit_Hit_b4_O uz s6_1 s6_2 s7 w600 w998_1 w998_2 o).2 := by
  unfold slices_AppendSeq_Hit_Hit_b4 at h
  obtain rfl := si h
  exact (runB_arr mixed [] [] [.live [2, 5, 6], .keep [2, 5, 600, 998]] (ti) (by kernel_rfl)).lp
def slices_AppendSeq_Hit_Hit_b6_I (uz : List Value) (s6_1 : TQea) (s6_2 : TEvent) (w5 : THit) (w600 : List THit) (w998_1 : TQea) (w998_2 : TEvent) : St := ⟨sp 13 0 [(2, .box 2 0), (5, .box 5 0), (6, .clo (.func 72) [] [.eptr (D.cells (TQea.D s6_1)), .eptr (D.cells (TEvent.D s6_2))])], [(2, .cells ([.row 600])), (5, .cells ((cellsA (THit.D w5)))), (600, .row 84 3 (w600.map THit.D)), (998, .vals (sp 13 0 [(2, .box 2 0), (6, .clo (.func 72) [] [.eptr (D.cells (TQea.D w998_1)), .eptr (D.cells (TEvent.D w998_2))])]) uz)], []⟩
def slices_AppendSeq_Hit_Hit_b6_O (uz : List Value) (s6_1 : TQea) (s6_2 : TEvent) (w5 : THit) (w600 : List THit) (w998_1 : TQea) (w998_2 : TEvent) (o : Unit) : Ex × St := (.normal, ⟨sp 13 0 [], [(2, .cells ([.row 600])), (600, .row 84 3 ((w600 ++ [w5]).map THit.D)), (998, .vals (sp 13 0 [(2, .box 2 0), (6, .clo (.func 72) [] [.eptr (D.cells (TQea.D w998_1)), .eptr (D.cells (TEvent.D w998_2))])]) uz)], []⟩)
theorem slices_AppendSeq_Hit_Hit_b6_ok (rd : Option Nat) (uz : List Value) (s6_1 : TQea) (s6_2 : TEvent) (w5 : THit) (w600 : List THit) (w998_1 : TQea) (w998_2 : TEvent) (o : Unit) (h : slices_AppendSeq_Hit_Hit_b6 s6_1 s6_2 w5 w600 w998_1 w998_2 = some o) : LpOf Try.prog rd (fbody Try.prog 71) [1, 0, 1, 0, 1] (slices_AppendSeq_Hit_Hit_b6_I uz s6_1 s6_2 w5 w600 w998_1 w998_2) (slices_AppendSeq_Hit_Hit_b6_O uz s6_1 s6_2 w5 w600 w998_1 w998_2 o).1 (slices_AppendSeq_Hit_Hit_b6_O uz s6_1 s6_2 w5 w600 w998_1 w998_2 o).2 := by
  unfold slices_AppendSeq_Hit_Hit_b6 at h
  obtain ⟨h3, h⟩ := cS h
  obtain rfl := si h
  exact (runB_arr mixed [(11, .sl ((w600 ++ [w5]).map THit.D))] [] [.live [], .keep [2, 11, 998], .ren 11 600, .sort] (ai (nc_ok THit.D [w5]) (ai (nc_ok THit.D [w5]) (ai (fit_map THit.D h3) (ai (app_map THit.D w600 [w5]) (ti))))) (by kernel_rfl)).lp
def slices_AppendSeq_Hit_Hit_r1_E (s6_1 : TQea) (s6_2 : TEvent) : List A := sp 13 0 [(2, .box 2 0), (6, .clo (.func 72) [] [.eptr (D.cells (TQea.D s6_1)), .eptr (D.cells (TEvent.D s6_2))])]
def slices_AppendSeq_Hit_Hit_r1_BL (s6_1 : TQea) (s6_2 : TEvent) (s : List THit) : Bx := [(2, .cells ([.row 600])), (600, .row 84 3 (s.map THit.D))]
def slices_AppendSeq_Hit_Hit_r1_BT (s6_1 : TQea) (s6_2 : TEvent) (t : Empty) : Bx := t.elim
def slices_AppendSeq_Hit_Hit_r1_X (t : Empty) : Ex := t.elim
def slices_AppendSeq_Hit_Hit_r1_O (s6_1 : TQea) (s6_2 : TEvent) (o : (List THit) ⊕ (Empty)) : Ex × St := (rex slices_AppendSeq_Hit_Hit_r1_X o, ⟨slices_AppendSeq_Hit_Hit_r1_E s6_1 s6_2, rbx (slices_AppendSeq_Hit_Hit_r1_BL s6_1 s6_2) (slices_AppendSeq_Hit_Hit_r1_BT s6_1 s6_2) o, rbx (fun _ => []) (fun _ => []) o⟩)
theorem slices_AppendSeq_Hit_Hit_r1_rnd (s6_1 : TQea) (s6_2 : TEvent) (s : List THit) (x : THit) (o : (List THit) ⊕ (Empty)) (h : slices_AppendSeq_Hit_Hit_r1_rd s6_1 s6_2 s x = some o) (m : Nat) (uz : List Value) : ∃ M E1, LpOf Try.prog (some m) (fbody Try.prog 71) (0 :: [0, 1, 0, 1]) ⟨setPs (slices_AppendSeq_Hit_Hit_r1_E s6_1 s6_2) ((Array.toList #[7]).zip (match_hits_1_enc x)), slices_AppendSeq_Hit_Hit_r1_BL s6_1 s6_2 s ++ [(vn, .vals (slices_AppendSeq_Hit_Hit_r1_E s6_1 s6_2) uz)], (fun _ => []) s⟩ .normal M ∧
    LpOf Try.prog (some m) (fbody Try.prog 71) (1 :: [0, 1, 0, 1]) M (rex slices_AppendSeq_Hit_Hit_r1_X o) ⟨E1, rbx (slices_AppendSeq_Hit_Hit_r1_BL s6_1 s6_2) (slices_AppendSeq_Hit_Hit_r1_BT s6_1 s6_2) o ++ [(vn, .vals (slices_AppendSeq_Hit_Hit_r1_E s6_1 s6_2) uz)], rbx (fun _ => []) (fun _ => []) o⟩ := by
  unfold slices_AppendSeq_Hit_Hit_r1_rd at h
  obtain ⟨o5, h5, h⟩ := bS h
  obtain ⟨o6, h6, h⟩ := bS h
  obtain rfl := si h
  exact ⟨(slices_AppendSeq_Hit_Hit_b4_O uz s6_1 s6_2 x s s6_1 s6_2 o5).2, sp 13 0 [], lp_wks (w := [.live [2, 6, 7], .keep [2, 600, 998]]) (s1 := slices_AppendSeq_Hit_Hit_b4_I uz s6_1 s6_2 x s s6_1 s6_2) (by kernel_rfl) (lp_cast (slices_AppendSeq_Hit_Hit_b4_ok (some m) uz s6_1 s6_2 x s s6_1 s6_2 o5 h5) rfl (by kernel_rfl) rfl), lp_wks (w := [.live [2, 5, 6], .keep [2, 5, 600, 998]]) (s1 := slices_AppendSeq_Hit_Hit_b6_I uz s6_1 s6_2 x s s6_1 s6_2) (by kernel_rfl) (lp_cast (slices_AppendSeq_Hit_Hit_b6_ok (some m) uz s6_1 s6_2 x s s6_1 s6_2 o6 h6) rfl (by kernel_rfl) (by kernel_rfl))⟩
theorem slices_AppendSeq_Hit_Hit_r1_ok (s6_1 : TQea) (s6_2 : TEvent) (s : List THit) (o : (List THit) ⊕ (Empty)) (h : match_hits_1 (stepOf (slices_AppendSeq_Hit_Hit_r1_rd s6_1 s6_2)) s6_1 s6_2 (.inl s) = some o) : LpOf Try.prog none (fbody Try.prog 71) [0, 1, 0, 1] ⟨slices_AppendSeq_Hit_Hit_r1_E s6_1 s6_2, slices_AppendSeq_Hit_Hit_r1_BL s6_1 s6_2 s, (fun _ => []) s⟩ (slices_AppendSeq_Hit_Hit_r1_O s6_1 s6_2 o).1 (slices_AppendSeq_Hit_Hit_r1_O s6_1 s6_2 o).2 :=
  range_ok (p := [0, 1, 0, 1]) (g := .tmp 6) (ps := #[7]) (assign := codeAt (fbody Try.prog 71) (0 :: [0, 1, 0, 1])) (body := codeAt (fbody Try.prog 71) (1 :: [0, 1, 0, 1])) (by kernel_rfl) (slices_AppendSeq_Hit_Hit_r1_BL s6_1 s6_2) (slices_AppendSeq_Hit_Hit_r1_BT s6_1 s6_2) (fun _ => []) (fun _ => []) slices_AppendSeq_Hit_Hit_r1_X match_hits_1_enc (slices_AppendSeq_Hit_Hit_r1_rd s6_1 s6_2) (gf := 72) (cs := [.eptr (D.cells (TQea.D s6_1)), .eptr (D.cells (TEvent.D s6_2))]) (by kernel_rfl) (by kernel_rfl) (by kernel_rfl) (fun x => ⟨by kernel_rfl, by kernel_rfl⟩) (fun s us => by kernel_rfl) (fun t us => t.elim) (fun s => rfl) (fun t => t.elim) (by kernel_rfl) (fun t => t.elim) (fun s => FOk.nil) (fun t => FOk.nil) (fun s x o h m us => slices_AppendSeq_Hit_Hit_r1_rnd s6_1 s6_2 s x o h m us) (match_hits_1_ok (stepOf (slices_AppendSeq_Hit_Hit_r1_rd s6_1 s6_2)) s6_1 s6_2 (.inl s) o h)
theorem slices_AppendSeq_Hit_Hit_ok (a1_1 : TQea) (a1_2 : TEvent) (r : List THit) (h : slices_AppendSeq_Hit_Hit a1_1 a1_2 = some r) : ACall Try.prog 71 [.nil, .clo (.func 72) [] [.eptr (D.cells (TQea.D a1_1)), .eptr (D.cells (TEvent.D a1_2))]] [] (.d ((D.l THit.D) r)) [] := by
  unfold slices_AppendSeq_Hit_Hit at h
  obtain ⟨o7, h4, h⟩ := bS h
  replace h := sumE_some h
  rcases h with ⟨o8, rfl, h⟩ | ⟨o9, rfl, h⟩
  ·
   obtain rfl := si h
   exact runF_call mixed [] [⟨[0, 1, 0, 1], [.live [2, 6], .keep [2], .nilc 2 0 600 84 3, .frz 600, .sort], .normal, (slices_AppendSeq_Hit_Hit_r1_O a1_1 a1_2 (Sum.inl o8)).2⟩] [] (ai (slices_AppendSeq_Hit_Hit_r1_ok a1_1 a1_2 ([] : List THit) (Sum.inl o8) h4) (ti)) (by kernel_rfl)
  ·
   cases h
theorem slices_Collect_Hit_ok (a0_1 : TQea) (a0_2 : TEvent) (r : List THit) (h : slices_Collect_Hit a0_1 a0_2 = some r) : ACall Try.prog 55 [.clo (.func 72) [] [.eptr (D.cells (TQea.D a0_1)), .eptr (D.cells (TEvent.D a0_2))]] [] (.d ((D.l THit.D) r)) [] := by
  unfold slices_Collect_Hit at h
  obtain ⟨r1, h1, h⟩ := bS h
  obtain rfl := si h
  exact runF_call mixed [(4, .cx true [] [] (.d ((D.l THit.D) r1)) [])] [] [] (ai (slices_AppendSeq_Hit_Hit_ok a0_1 a0_2 r1 h1) (ti)) (by kernel_rfl)
theorem match_All_ok (a0 : TQea) (a1 : TEvent) (r : List THit) (h : match_All a0 a1 = some r) : ACall Try.prog 39 [.d (TQea.D a0), .d (TEvent.D a1)] [] (.d ((D.l THit.D) r)) [] := by
  unfold match_All at h
  obtain ⟨r1, h1, h⟩ := bS h
  obtain ⟨r2, h2, h⟩ := bS h
  obtain rfl := si h
  exact runF_call mixed [(7, .ret (.clo (.func 72) [] [.eptr (D.cells (TQea.D r1.1)), .eptr (D.cells (TEvent.D r1.2))])), (8, .ret (.d ((D.l THit.D) r2)))] [] [] (ai (match_hits_ok a0 a1 r1 h1) (ai (slices_Collect_Hit_ok r1.1 r1.2 r2 h2) (ti))) (by kernel_rfl)
theorem domain_NewSet_Value_v2_ok (r : Unit) (h : domain_NewSet_Value_v2 = some r) : ACall Try.prog 9 [.clo (.func 40) [] []] [] (.box 0 0) [(0, .cells ([.nil, .clo (.func 40) [] []]))] := by
  unfold domain_NewSet_Value_v2 at h
  obtain rfl := si h
  exact runX_call mixed (fun us => []) (fun us => []) [.live [2], .keep [5, 997], .ren 5 0, .sort] [] (fun us => ti) (by kernel_rfl)
theorem slices_Clone_Value_Value_ok (l r : List TValue) (h : slices_Clone_Value_Value l = some r) : ACall Try.prog 32 [.d (D.l TValue.D l)] [] (.row 0) [(0, .rw 26 4 (r.map TValue.D))] :=
  cloneE_own (ρ := ⟨fun _ => 32, fun n => if n = 4 then 4 else if n = 22 then 24 else 26, id⟩) (by_ := 40) TValue.D rfl rfl (cloneL mixed ⟨ "slices.Clone[[]proctor/api.Value,proctor/api.Value]", by decide, (Try.func32).trans (by kernel_rfl)⟩ Try.underlying4 Try.underlying24 (by kernel_rfl) (by kernel_rfl) (by kernel_rfl) (by kernel_rfl)) (by kernel_rfl) (by decide) l r h
def binding_Get_l1_I (s1 : Int) (s8 : List TSlot) (s9 : Int) (w4 : TValue) (s10 : Int) : St := ⟨sp 22 0 [(1, .d ((D.i .i64) s1)), (4, .box 4 0), (8, .d ((D.l TSlot.D) s8)), (9, .d ((D.i .i64) s9)), (10, .d ((D.i .i64) s10))], [(4, .cells ((cellsA (TValue.D w4))))], []⟩
def binding_Get_l1_O (s1 : Int) (s8 : List TSlot) (s9 : Int) (w4 : TValue) (o : Unit ⊕ TValue) : Ex × St := match o with
  | .inl o => (.exit 0, ⟨sp 22 0 [(4, .box 4 0)], [(4, .cells ((cellsA (TValue.D w4))))], []⟩)
  | .inr o => (.ret, ⟨sp 22 0 [(4, .box 4 0), (5, .d (D.b true))], [(4, .cells ((cellsA (TValue.D o))))], []⟩)
theorem binding_Get_l1_rnd (rd : Option Nat) (s1 : Int) (s8 : List TSlot) (s9 : Int) (w4 : TValue) (s10 : Int) (o : (Int) ⊕ (Unit ⊕ TValue)) (h : binding_Get_l1_s s1 s8 s9 w4 s10 = some o) : Arr Try.prog rd (fbody Try.prog 41) (0 :: [0, 1, 0, 1]) (binding_Get_l1_I s1 s8 s9 w4 s10) (rR (fun s : Int => binding_Get_l1_I s1 s8 s9 w4 s) (binding_Get_l1_O s1 s8 s9 w4) o).1 (rR (fun s : Int => binding_Get_l1_I s1 s8 s9 w4 s) (binding_Get_l1_O s1 s8 s9 w4) o).2 := by
  unfold binding_Get_l1_s at h
  rcases iS h with ⟨h1, h⟩ | ⟨h1, h⟩
  ·
   obtain ⟨x1, h2, h⟩ := xS h
   rcases iS h with ⟨h3, h⟩ | ⟨h3, h⟩
   ·
    obtain rfl := si h
    exact runB_arr mixed [(11, .bit true), (12, .el (TSlot.D x1)), (17, .bit true)] [] [.live [4, 5], .keep [4]] (ai h1 (ai (elem_map TSlot.D h2) (ai h3 (ti)))) (by kernel_rfl)
   ·
    obtain rfl := si h
    exact runB_arr mixed [(11, .bit true), (12, .el (TSlot.D x1)), (17, .bit false)] [] [.live [1, 4, 8, 9, 10], .keep [4]] (ai h1 (ai (elem_map TSlot.D h2) (ai h3 (ti)))) (by kernel_rfl)
  ·
   obtain rfl := si h
   exact runB_arr mixed [(11, .bit false)] [] [.live [4], .keep [4]] (ai h1 (ti)) (by kernel_rfl)
theorem binding_Get_l1_ok (rd : Option Nat) (s1 : Int) (s8 : List TSlot) (s9 : Int) (w4 : TValue) (s10 : Int) (t : Unit ⊕ TValue) (h : binding_Get_l1 s1 s8 s9 w4 s10 = some t) : LpOf Try.prog rd (fbody Try.prog 41) [0, 1, 0, 1] (binding_Get_l1_I s1 s8 s9 w4 s10) ((binding_Get_l1_O s1 s8 s9 w4) t).1 ((binding_Get_l1_O s1 s8 s9 w4) t).2 :=
  loopE_lpR (fun s : Int => binding_Get_l1_I s1 s8 s9 w4 s) (binding_Get_l1_O s1 s8 s9 w4) (by kernel_rfl) (fun t => isN_ne (by rcases t with (_ | _) <;> rfl)) (fun s o h => binding_Get_l1_rnd rd s1 s8 s9 w4 s o h) (s := s10) (t := t) h
theorem binding_Get_ok (a0 : List TSlot) (a1 : Int) (r : TValue × Bool) (h : binding_Get a0 a1 = some r) : ACall Try.prog 41 [.d ((D.l TSlot.D) a0), .d ((D.i .i64) a1)] [] (.tup [.d (TValue.D r.1), .d (D.b r.2)]) [] := by
  unfold binding_Get at h
  obtain ⟨o2, h4, h⟩ := bS h
  replace h := sumE_some h
  rcases h with ⟨o3, rfl, h⟩ | ⟨o4, rfl, h⟩
  ·
   obtain rfl := si h
   exact runF_call mixed [(9, .int (a0.length : Int))] [⟨[0, 1, 0, 1], [.live [1, 4, 8, 9, 10], .keep [4]], .exit 0, (binding_Get_l1_O a1 a0 (a0.length : Int) (TValue.mk 0 0 ([] : List UInt8) false) (Sum.inl o3)).2⟩] [] (ai (len_map TSlot.D a0) (ai (binding_Get_l1_ok none a1 a0 (a0.length : Int) (TValue.mk 0 0 ([] : List UInt8) false) 0 (Sum.inl o3) h4) (ti))) (by kernel_rfl)
  ·
   obtain rfl := si h
   exact runF_call mixed [(9, .int (a0.length : Int))] [⟨[0, 1, 0, 1], [.live [1, 4, 8, 9, 10], .keep [4]], .ret, (binding_Get_l1_O a1 a0 (a0.length : Int) (TValue.mk 0 0 ([] : List UInt8) false) (Sum.inr o4)).2⟩] [] (ai (len_map TSlot.D a0) (ai (binding_Get_l1_ok none a1 a0 (a0.length : Int) (TValue.mk 0 0 ([] : List UInt8) false) 0 (Sum.inr o4) h4) (ti))) (by kernel_rfl)
theorem value_Less_ok (a0 : TValue) (a1 : TValue) (r : Bool) (h : value_Less a0 a1 = some r) : ACall Try.prog 40 [.d (TValue.D a0), .d (TValue.D a1)] [] (.d (D.b r)) [] := by
  unfold value_Less at h
  rcases iS h with ⟨h1, h⟩ | ⟨h1, h⟩
  ·
   obtain rfl := si h
   exact runF_call mixed [(5, .bit true)] [] [] (ai h1 (ti)) (by kernel_rfl)
  ·
   rcases iS h with ⟨h2, h⟩ | ⟨h2, h⟩
   ·
    obtain rfl := si h
    exact runF_call mixed [(5, .bit false), (16, .bit true)] [] [] (ai h1 (ai h2 (ti))) (by kernel_rfl)
   ·
    rcases iS h with ⟨h3, h⟩ | ⟨h3, h⟩
    ·
     obtain rfl := si h
     exact runF_call mixed [(5, .bit false), (16, .bit false), (25, .bit true)] [] [] (ai h1 (ai h2 (ai h3 (ti)))) (by kernel_rfl)
    ·
     rcases iS h with ⟨h4, h⟩ | ⟨h4, h⟩
     ·
      obtain rfl := si h
      exact runF_call mixed [(5, .bit false), (16, .bit false), (25, .bit false), (37, .bit true)] [] [] (ai h1 (ai h2 (ai h3 (ai h4 (ti))))) (by kernel_rfl)
     ·
      obtain rfl := si h
      exact runF_call mixed [(5, .bit false), (16, .bit false), (25, .bit false), (37, .bit false)] [] [] (ai h1 (ai h2 (ai h3 (ai h4 (ti))))) (by kernel_rfl)
theorem domain_Set_Value_Put_1_ok (a0 : TValue) (a1 : TValue) (a2 : List TValue) (r : Int) (h : domain_Set_Value_Put_1 a0 a1 a2 = some r) : ACall Try.prog 30 [.d (TValue.D a0), .d (TValue.D a1), .eptr [.ptr ((D.cells ((D.l TValue.D) a2)) ++ [.v (.func (.func 40) #[] #[])])]] [] (.d ((D.i .i64) r)) [] := by
  unfold domain_Set_Value_Put_1 at h
  obtain ⟨r1, h1, h⟩ := bS h
  cases r1 with
  | true =>
   replace h := iteT h
   obtain rfl := si h
   exact runF_call mixed [(13, .ret (.d (D.b true)))] [] [] (ai (value_Less_ok a0 a1 true h1) (ti)) (by kernel_rfl)
  | false =>
   replace h := iteF h
   obtain ⟨r2, h3, h⟩ := bS h
   cases r2 with
   | true =>
    replace h := iteT h
    obtain rfl := si h
    exact runF_call mixed [(13, .ret (.d (D.b false))), (21, .ret (.d (D.b true)))] [] [] (ai (value_Less_ok a0 a1 false h1) (ai (value_Less_ok a1 a0 true h3) (ti))) (by kernel_rfl)
   | false =>
    replace h := iteF h
    obtain rfl := si h
    exact runF_call mixed [(13, .ret (.d (D.b false))), (21, .ret (.d (D.b false)))] [] [] (ai (value_Less_ok a0 a1 false h1) (ai (value_Less_ok a1 a0 false h3) (ti))) (by kernel_rfl)
def slices_BinarySearchFunc_Value_Value_Value_b3_I (s0 : List TValue) (s2 : List TValue) (s8 : Int) (s9 : Int) (s10 : Int) (s11 : Int) (s31 : Bool) (w4 : TValue) : St := ⟨sp 49 0 [(0, .d ((D.l TValue.D) s0)), (2, .clo (.func 30) [] [.eptr [.ptr ((D.cells ((D.l TValue.D) s2)) ++ [.v (.func (.func 40) #[] #[])])]]), (4, .box 4 0), (8, .d ((D.i .i64) s8)), (9, .d ((D.i .i64) s9)), (10, .d ((D.i .i64) s10)), (11, .d ((D.i .i64) s11)), (31, .d (D.b s31))], [(4, .cells ((cellsA (TValue.D w4))))], []⟩
def slices_BinarySearchFunc_Value_Value_Value_b3_O (s0 : List TValue) (s2 : List TValue) (s8 : Int) (s9 : Int) (s10 : Int) (s11 : Int) (s31 : Bool) (w4 : TValue) (o : (Int × Int)) : Ex × St := (.normal, ⟨sp 49 0 [(0, .d ((D.l TValue.D) s0)), (2, .clo (.func 30) [] [.eptr [.ptr ((D.cells ((D.l TValue.D) s2)) ++ [.v (.func (.func 40) #[] #[])])]]), (4, .box 4 0), (8, .d ((D.i .i64) s8)), (9, .d ((D.i .i64) o.1)), (10, .d ((D.i .i64) o.2))], [(4, .cells ((cellsA (TValue.D w4))))], []⟩)
theorem slices_BinarySearchFunc_Value_Value_Value_b3_ok (rd : Option Nat) (s0 : List TValue) (s2 : List TValue) (s8 : Int) (s9 : Int) (s10 : Int) (s11 : Int) (s31 : Bool) (w4 : TValue) (o : (Int × Int)) (h : slices_BinarySearchFunc_Value_Value_Value_b3 s0 s2 s8 s9 s10 s11 s31 w4 = some o) : LpOf Try.prog rd (fbody Try.prog 29) [1, 1, 0, 1, 0, 0, 0, 1, 1, 1] (slices_BinarySearchFunc_Value_Value_Value_b3_I s0 s2 s8 s9 s10 s11 s31 w4) (slices_BinarySearchFunc_Value_Value_Value_b3_O s0 s2 s8 s9 s10 s11 s31 w4 o).1 (slices_BinarySearchFunc_Value_Value_Value_b3_O s0 s2 s8 s9 s10 s11 s31 w4 o).2 := by
  unfold slices_BinarySearchFunc_Value_Value_Value_b3 at h
  cases s31 with
  | true =>
   replace h := iteT h
   obtain rfl := si h
   exact (runB_arr mixed [] [] [.live [0, 2, 4, 8, 9, 10], .keep [4]] (ti) (by kernel_rfl)).lp
  | false =>
   replace h := iteF h
   obtain rfl := si h
   exact (runB_arr mixed [] [] [.live [0, 2, 4, 8, 9, 10], .keep [4]] (ti) (by kernel_rfl)).lp
def slices_BinarySearchFunc_Value_Value_Value_b2_I (s0 : List TValue) (s2 : List TValue) (s8 : Int) (s9 : Int) (s10 : Int) (w4 : TValue) : St := ⟨sp 49 0 [(0, .d ((D.l TValue.D) s0)), (2, .clo (.func 30) [] [.eptr [.ptr ((D.cells ((D.l TValue.D) s2)) ++ [.v (.func (.func 40) #[] #[])])]]), (4, .box 4 0), (8, .d ((D.i .i64) s8)), (9, .d ((D.i .i64) s9)), (10, .d ((D.i .i64) s10))], [(4, .cells ((cellsA (TValue.D w4))))], []⟩
def slices_BinarySearchFunc_Value_Value_Value_b2_O (s0 : List TValue) (s2 : List TValue) (s8 : Int) (s9 : Int) (s10 : Int) (w4 : TValue) (o : (Int × Int)) : Ex × St := (.normal, ⟨sp 49 0 [(0, .d ((D.l TValue.D) s0)), (2, .clo (.func 30) [] [.eptr [.ptr ((D.cells ((D.l TValue.D) s2)) ++ [.v (.func (.func 40) #[] #[])])]]), (4, .box 4 0), (8, .d ((D.i .i64) s8)), (9, .d ((D.i .i64) o.1)), (10, .d ((D.i .i64) o.2))], [(4, .cells ((cellsA (TValue.D w4))))], []⟩)
theorem slices_BinarySearchFunc_Value_Value_Value_b2_ok (rd : Option Nat) (s0 : List TValue) (s2 : List TValue) (s8 : Int) (s9 : Int) (s10 : Int) (w4 : TValue) (o : (Int × Int)) (h : slices_BinarySearchFunc_Value_Value_Value_b2 s0 s2 s8 s9 s10 w4 = some o) : LpOf Try.prog rd (fbody Try.prog 29) [1, 0, 0, 0, 1, 1, 1] (slices_BinarySearchFunc_Value_Value_Value_b2_I s0 s2 s8 s9 s10 w4) (slices_BinarySearchFunc_Value_Value_Value_b2_O s0 s2 s8 s9 s10 w4 o).1 (slices_BinarySearchFunc_Value_Value_Value_b2_O s0 s2 s8 s9 s10 w4 o).2 := by
  unfold slices_BinarySearchFunc_Value_Value_Value_b2 at h
  obtain ⟨x1, h2, h⟩ := xS h
  obtain ⟨r2, h3, h⟩ := bS h
  obtain ⟨o3, h5, h⟩ := bS h
  obtain rfl := si h
  exact (runB_arr mixed [(27, .el (TValue.D x1)), (30, .ret (.d ((D.i .i64) r2)))] [⟨[1, 1, 0, 1, 0, 0, 0, 1, 1, 1], [.live [0, 2, 4, 8, 9, 10, 11, 31], .keep [4]], .normal, (slices_BinarySearchFunc_Value_Value_Value_b3_O s0 s2 s8 s9 s10 (IntKind.wrap .i64 (intVal .shr .u64 (IntKind.wrap .u64 (intVal .add .i64 s9 s10)) 1)) (decide (r2 < 0)) w4 o3).2⟩] [.live [0, 2, 4, 8, 9, 10], .keep [4]] (ai (of_decide_eq_true rfl : (0 : Int) ≤ 1) (ai (elem_map TValue.D h2) (ai (domain_Set_Value_Put_1_ok x1 w4 s2 r2 h3) (ai (slices_BinarySearchFunc_Value_Value_Value_b3_ok rd s0 s2 s8 s9 s10 (IntKind.wrap .i64 (intVal .shr .u64 (IntKind.wrap .u64 (intVal .add .i64 s9 s10)) 1)) (decide (r2 < 0)) w4 o3 h5) (ti))))) (by kernel_rfl)).lp
def slices_BinarySearchFunc_Value_Value_Value_l1_I (s0 : List TValue) (s2 : List TValue) (s8 : Int) (w4 : TValue) (s9 : Int) (s10 : Int) : St := ⟨sp 49 0 [(0, .d ((D.l TValue.D) s0)), (2, .clo (.func 30) [] [.eptr [.ptr ((D.cells ((D.l TValue.D) s2)) ++ [.v (.func (.func 40) #[] #[])])]]), (4, .box 4 0), (8, .d ((D.i .i64) s8)), (9, .d ((D.i .i64) s9)), (10, .d ((D.i .i64) s10))], [(4, .cells ((cellsA (TValue.D w4))))], []⟩
def slices_BinarySearchFunc_Value_Value_Value_l1_O (s0 : List TValue) (s2 : List TValue) (s8 : Int) (w4 : TValue) (o : Int) : Ex × St := (.exit 0, ⟨sp 49 0 [(0, .d ((D.l TValue.D) s0)), (2, .clo (.func 30) [] [.eptr [.ptr ((D.cells ((D.l TValue.D) s2)) ++ [.v (.func (.func 40) #[] #[])])]]), (4, .box 4 0), (8, .d ((D.i .i64) s8)), (9, .d ((D.i .i64) o))], [(4, .cells ((cellsA (TValue.D w4))))], []⟩)
theorem slices_BinarySearchFunc_Value_Value_Value_l1_rnd (rd : Option Nat) (s0 : List TValue) (s2 : List TValue) (s8 : Int) (w4 : TValue) (s9 : Int) (s10 : Int) (o : (Int × Int) ⊕ (Int)) (h : slices_BinarySearchFunc_Value_Value_Value_l1_s s0 s2 s8 w4 s9 s10 = some o) : Arr Try.prog rd (fbody Try.prog 29) (0 :: [0, 0, 1, 1, 1]) (slices_BinarySearchFunc_Value_Value_Value_l1_I s0 s2 s8 w4 s9 s10) (rR (fun s : Int × Int => slices_BinarySearchFunc_Value_Value_Value_l1_I s0 s2 s8 w4 s.1 s.2) (slices_BinarySearchFunc_Value_Value_Value_l1_O s0 s2 s8 w4) o).1 (rR (fun s : Int × Int => slices_BinarySearchFunc_Value_Value_Value_l1_I s0 s2 s8 w4 s.1 s.2) (slices_BinarySearchFunc_Value_Value_Value_l1_O s0 s2 s8 w4) o).2 := by
  unfold slices_BinarySearchFunc_Value_Value_Value_l1_s at h
  rcases iS h with ⟨h1, h⟩ | ⟨h1, h⟩
  ·
   obtain ⟨o4, h6, h⟩ := bS h
   obtain rfl := si h
   exact runB_arr mixed [(17, .bit true)] [⟨[1, 0, 0, 0, 1, 1, 1], [.live [0, 2, 4, 8, 9, 10], .keep [4]], .normal, (slices_BinarySearchFunc_Value_Value_Value_b2_O s0 s2 s8 s9 s10 w4 o4).2⟩] [.live [0, 2, 4, 8, 9, 10], .keep [4]] (ai h1 (ai (slices_BinarySearchFunc_Value_Value_Value_b2_ok rd s0 s2 s8 s9 s10 w4 o4 h6) (ti))) (by kernel_rfl)
  ·
   obtain rfl := si h
   exact runB_arr mixed [(17, .bit false)] [] [.live [0, 2, 4, 8, 9], .keep [4]] (ai h1 (ti)) (by kernel_rfl)
theorem slices_BinarySearchFunc_Value_Value_Value_l1_ok (rd : Option Nat) (s0 : List TValue) (s2 : List TValue) (s8 : Int) (w4 : TValue) (s9 : Int) (s10 : Int) (t : Int) (h : slices_BinarySearchFunc_Value_Value_Value_l1 s0 s2 s8 w4 s9 s10 = some t) : LpOf Try.prog rd (fbody Try.prog 29) [0, 0, 1, 1, 1] (slices_BinarySearchFunc_Value_Value_Value_l1_I s0 s2 s8 w4 s9 s10) ((slices_BinarySearchFunc_Value_Value_Value_l1_O s0 s2 s8 w4) t).1 ((slices_BinarySearchFunc_Value_Value_Value_l1_O s0 s2 s8 w4) t).2 :=
  loopE_lpR (fun s : Int × Int => slices_BinarySearchFunc_Value_Value_Value_l1_I s0 s2 s8 w4 s.1 s.2) (slices_BinarySearchFunc_Value_Value_Value_l1_O s0 s2 s8 w4) (by kernel_rfl) (fun t => isN_ne (by rfl)) (fun s o h => slices_BinarySearchFunc_Value_Value_Value_l1_rnd rd s0 s2 s8 w4 s.1 s.2 o h) (s := (s9, s10)) (t := t) h
theorem slices_BinarySearchFunc_Value_Value_Value_ok (a0 : List TValue) (a1 : TValue) (a2 : List TValue) (r : Int × Bool) (h : slices_BinarySearchFunc_Value_Value_Value a0 a1 a2 = some r) : ACall Try.prog 29 [.d ((D.l TValue.D) a0), .d (TValue.D a1), .clo (.func 30) [] [.eptr [.ptr ((D.cells ((D.l TValue.D) a2)) ++ [.v (.func (.func 40) #[] #[])])]]] [] (.tup [.d ((D.i .i64) r.1), .d (D.b r.2)]) [] := by
  unfold slices_BinarySearchFunc_Value_Value_Value at h
  obtain ⟨o5, h7, h⟩ := bS h
  rcases iS h with ⟨h8, h⟩ | ⟨h8, h⟩
  ·
   obtain ⟨x6, h9, h⟩ := xS h
   obtain ⟨r7, h10, h⟩ := bS h
   obtain rfl := si h
   exact runF_call mixed [(13, .int (a0.length : Int)), (39, .bit true), (43, .el (TValue.D x6)), (46, .ret (.d ((D.i .i64) r7)))] [⟨[0, 0, 1, 1, 1], [.live [0, 2, 4, 8, 9, 10], .keep [4]], .exit 0, (slices_BinarySearchFunc_Value_Value_Value_l1_O a0 a2 (a0.length : Int) a1 o5).2⟩] [] (ai (len_map TValue.D a0) (ai (slices_BinarySearchFunc_Value_Value_Value_l1_ok none a0 a2 (a0.length : Int) a1 0 (a0.length : Int) o5 h7) (ai h8 (ai (elem_map TValue.D h9) (ai (domain_Set_Value_Put_1_ok x6 a1 a2 r7 h10) (ti)))))) (by kernel_rfl)
  ·
   obtain rfl := si h
   exact runF_call mixed [(13, .int (a0.length : Int)), (39, .bit false)] [⟨[0, 0, 1, 1, 1], [.live [0, 2, 4, 8, 9, 10], .keep [4]], .exit 0, (slices_BinarySearchFunc_Value_Value_Value_l1_O a0 a2 (a0.length : Int) a1 o5).2⟩] [] (ai (len_map TValue.D a0) (ai (slices_BinarySearchFunc_Value_Value_Value_l1_ok none a0 a2 (a0.length : Int) a1 0 (a0.length : Int) o5 h7) (ai h8 (ti)))) (by kernel_rfl)
theorem slices_Insert_Value_Value_ok (i : Int) (xs ys r : List TValue) (h : slices_Insert_Value_Value i xs ys = some r) : ACall Try.prog 31 [.row 0, .d (D.i .i64 i), .row 1] [(0, .rw 26 4 (xs.map TValue.D)), (1, .row 26 4 (ys.map TValue.D))] (.row 2) [(2, .rw 26 4 (r.map TValue.D))] :=
  insE_ok (ρ := ⟨fun n => if n = 22 then 31 else if n = 29 then 47 else 48, fun n => if n = 0 then 0 else if n = 3 then 3 else if n = 4 then 4 else if n = 24 then 24 else 26, id⟩) (by_ := 40) TValue.D mixed rfl ⟨ "slices.Insert[[]proctor/api.Value,proctor/api.Value]", by decide, (Try.func31).trans (by kernel_rfl)⟩ Try.underlying3 Try.underlying4 Try.underlying24 (by kernel_rfl) (by decide) (by decide)
    (fun args w => run_callFunc_extern Try.func47 (by kernel_rfl) (by kernel_rfl) (by kernel_rfl) (e := Go.Extern.SlicesOverlaps.overlaps #[24, 24] #[4]) (by kernel_rfl) args w) i xs ys r h
def domain_Set_Value_Put_v2_b1_I (us : List Value) (s5 : Int) (s6 : Bool) (s20 : Bool) (w3 : TValue) (w501 : List TValue) : St := ⟨sp 34 0 [(2, .box 2 0), (3, .box 3 0), (5, .d ((D.i .i64) s5)), (6, .d (D.b s6)), (20, .d (D.b s20))], [(0, .cells ([.row 501, .clo (.func 40) [] []])), (2, .cells ([.box 0 0])), (3, .cells ((cellsA (TValue.D w3)))), (501, .rw 26 4 (w501.map TValue.D)), (997, .vals [.box 0 0] us)], []⟩
def domain_Set_Value_Put_v2_b1_O (us : List Value) (s5 : Int) (s6 : Bool) (s20 : Bool) (w3 : TValue) (w501 : List TValue) (o : (List TValue)) : Ex × St := (.normal, ⟨sp 34 0 [(6, .d (D.b s6))], [(0, .cells ([.row 529, .clo (.func 40) [] []])), (529, .rw 26 4 (o.map TValue.D)), (997, .vals [.box 0 0] us)], []⟩)
theorem domain_Set_Value_Put_v2_b1_ok (rd : Option Nat) (us : List Value) (s5 : Int) (s6 : Bool) (s20 : Bool) (w3 : TValue) (w501 : List TValue) (o : (List TValue)) (h : domain_Set_Value_Put_v2_b1 s5 s6 s20 w3 w501 = some o) : LpOf Try.prog rd (fbody Try.prog 13) [1, 0, 1, 1, 1] (domain_Set_Value_Put_v2_b1_I us s5 s6 s20 w3 w501) (domain_Set_Value_Put_v2_b1_O us s5 s6 s20 w3 w501 o).1 (domain_Set_Value_Put_v2_b1_O us s5 s6 s20 w3 w501 o).2 := by
  unfold domain_Set_Value_Put_v2_b1 at h
  cases s20 with
  | true =>
   replace h := iteT h
   obtain ⟨r2, h3, h⟩ := bS h
   obtain rfl := si h
   exact (runB_arr mixed [(29, .cx true [(0, 501), (1, 28)] [(2, 29)] (.row 2) [(2, .rw 26 4 (r2.map TValue.D))])] [] [.live [6], .keep [0, 29, 997], .ren 29 529, .sort] (ai (nc_ok TValue.D [w3]) (ai (slices_Insert_Value_Value_ok s5 w501 [w3] r2 h3) (ti))) (by kernel_rfl)).lp
  | false =>
   replace h := iteF h
   obtain rfl := si h
   exact (runB_arr mixed [] [] [.live [6], .keep [0, 501, 997], .ren 501 529, .sort] (ti) (by kernel_rfl)).lp
theorem domain_Set_Value_Put_v2_ok (a1 : TValue) (w1 : List TValue) (r : Bool × List TValue) (h : domain_Set_Value_Put_v2 a1 w1 = some r) : ACall Try.prog 13 [.box 0 0, .d (TValue.D a1)] [(0, .cells ([.row 1, .clo (.func 40) [] []])), (1, .rw 26 4 (w1.map TValue.D))] (.d (D.b r.1)) [(0, .cells ([.row 2, .clo (.func 40) [] []])), (2, .rw 26 4 (r.2.map TValue.D))] := by
  unfold domain_Set_Value_Put_v2 at h
  obtain ⟨r1, h1, h⟩ := bS h
  obtain ⟨o3, h4, h⟩ := bS h
  obtain rfl := si h
  exact runX_call mixed (fun us => [(16, .lend [0, 1, 2] (.tup [.d ((D.i .i64) r1.1), .d (D.b r1.2)]))]) (fun us => [⟨[1, 0, 1, 1, 1], [.live [2, 3, 5, 6, 20], .keep [0, 1, 2, 3, 997], .ren 1 501, .sort], .normal, (domain_Set_Value_Put_v2_b1_O us r1.1 r1.2 (!r1.2) a1 w1 o3).2⟩]) [.live [4], .keep [0, 529, 997], .ren 529 2, .sort] [0] (fun us => ai (slices_BinarySearchFunc_Value_Value_Value_ok w1 a1 w1 r1 h1) (ai (domain_Set_Value_Put_v2_b1_ok none us r1.1 r1.2 (!r1.2) a1 w1 o3 h4) (ti))) (by kernel_rfl)
def domain_Add_b3_I (s1 : List (List TValue)) (s7 : List THit) (s9 : Int) (s23 : Int) (s24 : Int) (s31 : Bool) (w8 : List (List TValue)) : St := ⟨sp 67 0 [(1, .d ((D.l (D.l TValue.D)) s1)), (7, .d ((D.l THit.D) s7)), (8, .row 8), (9, .d ((D.i .i64) s9)), (10, .box 10 0), (23, .d ((D.i .i64) s23)), (24, .d ((D.i .i64) s24)), (31, .d (D.b s31))], [(8, .buf true 24 1 (w8.map (D.l TValue.D))), (10, .cells ([.nil, .clo (.func 40) [] []]))], []⟩
def domain_Add_b3_O (s1 : List (List TValue)) (s7 : List THit) (s9 : Int) (s23 : Int) (s24 : Int) (s31 : Bool) (w8 : List (List TValue)) (o : (List TValue)) : Ex × St := (.normal, ⟨sp 67 0 [(1, .d ((D.l (D.l TValue.D)) s1)), (7, .d ((D.l THit.D) s7)), (8, .row 8), (9, .d ((D.i .i64) s9)), (10, .box 10 0), (23, .d ((D.i .i64) s23)), (24, .d ((D.i .i64) s24))], [(8, .buf true 24 1 (w8.map (D.l TValue.D))), (10, .cells ([.row 537, .clo (.func 40) [] []])), (537, .rw 26 4 (o.map TValue.D))], []⟩)
theorem domain_Add_b3_ok (rd : Option Nat) (s1 : List (List TValue)) (s7 : List THit) (s9 : Int) (s23 : Int) (s24 : Int) (s31 : Bool) (w8 : List (List TValue)) (o : (List TValue)) (h : domain_Add_b3 s1 s7 s9 s23 s24 s31 w8 = some o) : LpOf Try.prog rd (fbody Try.prog 21) [1, 0, 1, 1, 0, 0, 1, 1, 0, 0, 1, 0, 1, 1, 1] (domain_Add_b3_I s1 s7 s9 s23 s24 s31 w8) (domain_Add_b3_O s1 s7 s9 s23 s24 s31 w8 o).1 (domain_Add_b3_O s1 s7 s9 s23 s24 s31 w8 o).2 := by
  unfold domain_Add_b3 at h
  cases s31 with
  | true =>
   replace h := iteT h
   obtain ⟨x3, h6, h⟩ := xS h
   obtain ⟨r4, h7, h⟩ := bS h
   obtain rfl := si h
   exact (runB_arr mixed [(35, .el ((D.l TValue.D) x3)), (37, .cx true [] [(0, 37)] (.row 0) [(0, .rw 26 4 (r4.map TValue.D))])] [] [.live [1, 7, 8, 9, 10, 23, 24], .keep [8, 10, 37], .ren 37 537, .sort] (ai (elem_map (D.l TValue.D) h6) (ai (slices_Clone_Value_Value_ok x3 r4 h7) (ti))) (by kernel_rfl)).lp
  | false =>
   replace h := iteF h
   obtain rfl := si h
   exact (runB_arr mixed [] [] [.live [1, 7, 8, 9, 10, 23, 24], .keep [8, 10], .nilc 10 0 537 26 4, .sort] (ti) (by kernel_rfl)).lp
def domain_Add_b6_I (s1 : List (List TValue)) (s7 : List THit) (s9 : Int) (s23 : Int) (s24 : Int) (s40 : List THit) (s41 : Int) (s42 : Int) (s53 : Bool) (w8 : List (List TValue)) (w13 : TValue) (w537 : List TValue) : St := ⟨sp 67 0 [(1, .d ((D.l (D.l TValue.D)) s1)), (7, .d ((D.l THit.D) s7)), (8, .row 8), (9, .d ((D.i .i64) s9)), (10, .box 10 0), (13, .box 13 0), (23, .d ((D.i .i64) s23)), (24, .d ((D.i .i64) s24)), (40, .d ((D.l THit.D) s40)), (41, .d ((D.i .i64) s41)), (42, .d ((D.i .i64) s42)), (53, .d (D.b s53))], [(8, .buf true 24 1 (w8.map (D.l TValue.D))), (10, .cells ([.row 537, .clo (.func 40) [] []])), (13, .cells ((cellsA (TValue.D w13)))), (537, .rw 26 4 (w537.map TValue.D))], []⟩
def domain_Add_b6_O (s1 : List (List TValue)) (s7 : List THit) (s9 : Int) (s23 : Int) (s24 : Int) (s40 : List THit) (s41 : Int) (s42 : Int) (s53 : Bool) (w8 : List (List TValue)) (w13 : TValue) (w537 : List TValue) (o : (List TValue)) : Ex × St := (.normal, ⟨sp 67 0 [(1, .d ((D.l (D.l TValue.D)) s1)), (7, .d ((D.l THit.D) s7)), (8, .row 8), (9, .d ((D.i .i64) s9)), (10, .box 10 0), (23, .d ((D.i .i64) s23)), (24, .d ((D.i .i64) s24)), (40, .d ((D.l THit.D) s40)), (41, .d ((D.i .i64) s41)), (42, .d ((D.i .i64) s42))], [(8, .buf true 24 1 (w8.map (D.l TValue.D))), (10, .cells ([.row 556, .clo (.func 40) [] []])), (556, .rw 26 4 (o.map TValue.D))], []⟩)
theorem domain_Add_b6_ok (rd : Option Nat) (s1 : List (List TValue)) (s7 : List THit) (s9 : Int) (s23 : Int) (s24 : Int) (s40 : List THit) (s41 : Int) (s42 : Int) (s53 : Bool) (w8 : List (List TValue)) (w13 : TValue) (w537 : List TValue) (o : (List TValue)) (h : domain_Add_b6 s1 s7 s9 s23 s24 s40 s41 s42 s53 w8 w13 w537 = some o) : LpOf Try.prog rd (fbody Try.prog 21) [1, 1, 1, 0, 0, 1, 1, 0, 0, 1, 0, 1, 1, 1, 0, 0, 1, 1, 0, 0, 1, 0, 1, 1, 1] (domain_Add_b6_I s1 s7 s9 s23 s24 s40 s41 s42 s53 w8 w13 w537) (domain_Add_b6_O s1 s7 s9 s23 s24 s40 s41 s42 s53 w8 w13 w537 o).1 (domain_Add_b6_O s1 s7 s9 s23 s24 s40 s41 s42 s53 w8 w13 w537 o).2 := by
  unfold domain_Add_b6 at h
  cases s53 with
  | true =>
   replace h := iteT h
   obtain ⟨r8, h13, h⟩ := bS h
   obtain rfl := si h
   exact (runB_arr mixed [(56, .cx false [(0, 10), (1, 537)] [(2, 56)] (.d (D.b r8.1)) [(0, .cells ([.row 2, .clo (.func 40) [] []])), (2, .rw 26 4 (r8.2.map TValue.D))])] [] [.live [1, 7, 8, 9, 10, 23, 24, 40, 41, 42], .keep [8, 10, 56], .ren 56 556, .sort] (ai (domain_Set_Value_Put_v2_ok w13 w537 r8 h13) (ti)) (by kernel_rfl)).lp
  | false =>
   replace h := iteF h
   obtain rfl := si h
   exact (runB_arr mixed [] [] [.live [1, 7, 8, 9, 10, 23, 24, 40, 41, 42], .keep [8, 10, 537], .ren 537 556, .sort] (ti) (by kernel_rfl)).lp
def domain_Add_b5_I (s1 : List (List TValue)) (s7 : List THit) (s9 : Int) (s23 : Int) (s24 : Int) (s40 : List THit) (s41 : Int) (s42 : Int) (w8 : List (List TValue)) (w537 : List TValue) : St := ⟨sp 67 0 [(1, .d ((D.l (D.l TValue.D)) s1)), (7, .d ((D.l THit.D) s7)), (8, .row 8), (9, .d ((D.i .i64) s9)), (10, .box 10 0), (23, .d ((D.i .i64) s23)), (24, .d ((D.i .i64) s24)), (40, .d ((D.l THit.D) s40)), (41, .d ((D.i .i64) s41)), (42, .d ((D.i .i64) s42))], [(8, .buf true 24 1 (w8.map (D.l TValue.D))), (10, .cells ([.row 537, .clo (.func 40) [] []])), (537, .rw 26 4 (w537.map TValue.D))], []⟩
def domain_Add_b5_O (s1 : List (List TValue)) (s7 : List THit) (s9 : Int) (s23 : Int) (s24 : Int) (s40 : List THit) (s41 : Int) (s42 : Int) (w8 : List (List TValue)) (w537 : List TValue) (o : (List TValue)) : Ex × St := (.normal, ⟨sp 67 0 [(1, .d ((D.l (D.l TValue.D)) s1)), (7, .d ((D.l THit.D) s7)), (8, .row 8), (9, .d ((D.i .i64) s9)), (10, .box 10 0), (23, .d ((D.i .i64) s23)), (24, .d ((D.i .i64) s24)), (40, .d ((D.l THit.D) s40)), (41, .d ((D.i .i64) s41)), (42, .d ((D.i .i64) s42))], [(8, .buf true 24 1 (w8.map (D.l TValue.D))), (10, .cells ([.row 556, .clo (.func 40) [] []])), (556, .rw 26 4 (o.map TValue.D))], []⟩)
theorem domain_Add_b5_ok (rd : Option Nat) (s1 : List (List TValue)) (s7 : List THit) (s9 : Int) (s23 : Int) (s24 : Int) (s40 : List THit) (s41 : Int) (s42 : Int) (w8 : List (List TValue)) (w537 : List TValue) (o : (List TValue)) (h : domain_Add_b5 s1 s7 s9 s23 s24 s40 s41 s42 w8 w537 = some o) : LpOf Try.prog rd (fbody Try.prog 21) [0, 1, 1, 0, 0, 1, 0, 1, 1, 1, 0, 0, 1, 1, 0, 0, 1, 0, 1, 1, 1] (domain_Add_b5_I s1 s7 s9 s23 s24 s40 s41 s42 w8 w537) (domain_Add_b5_O s1 s7 s9 s23 s24 s40 s41 s42 w8 w537 o).1 (domain_Add_b5_O s1 s7 s9 s23 s24 s40 s41 s42 w8 w537 o).2 := by
  unfold domain_Add_b5 at h
  obtain ⟨x6, h10, h⟩ := xS h
  obtain ⟨r7, h11, h⟩ := bS h
  obtain ⟨o9, h14, h⟩ := bS h
  obtain rfl := si h
  exact (runB_arr mixed [(44, .el (THit.D x6)), (50, .ret (.tup [.d (TValue.D r7.1), .d (D.b r7.2)]))] [⟨[1, 1, 1, 0, 0, 1, 1, 0, 0, 1, 0, 1, 1, 1, 0, 0, 1, 1, 0, 0, 1, 0, 1, 1, 1], [.live [1, 7, 8, 9, 10, 13, 23, 24, 40, 41, 42, 53], .keep [8, 10, 13, 537]], .normal, (domain_Add_b6_O s1 s7 s9 s23 s24 s40 s41 s42 r7.2 w8 r7.1 w537 o9).2⟩] [.live [1, 7, 8, 9, 10, 23, 24, 40, 41, 42], .keep [8, 10, 556]] (ai (elem_map THit.D h10) (ai (binding_Get_ok x6.bind s9 r7 h11) (ai (domain_Add_b6_ok rd s1 s7 s9 s23 s24 s40 s41 s42 r7.2 w8 r7.1 w537 o9 h14) (ti)))) (by kernel_rfl)).lp
def domain_Add_l4_I (s1 : List (List TValue)) (s7 : List THit) (s9 : Int) (s23 : Int) (s24 : Int) (s40 : List THit) (s41 : Int) (w8 : List (List TValue)) (s42 : Int) (w537 : List TValue) : St := ⟨sp 67 0 [(1, .d ((D.l (D.l TValue.D)) s1)), (7, .d ((D.l THit.D) s7)), (8, .row 8), (9, .d ((D.i .i64) s9)), (10, .box 10 0), (23, .d ((D.i .i64) s23)), (24, .d ((D.i .i64) s24)), (40, .d ((D.l THit.D) s40)), (41, .d ((D.i .i64) s41)), (42, .d ((D.i .i64) s42))], [(8, .buf true 24 1 (w8.map (D.l TValue.D))), (10, .cells ([.row 537, .clo (.func 40) [] []])), (537, .rw 26 4 (w537.map TValue.D))], []⟩
def domain_Add_l4_O (s1 : List (List TValue)) (s7 : List THit) (s9 : Int) (s23 : Int) (s24 : Int) (s40 : List THit) (s41 : Int) (w8 : List (List TValue)) (o : (List TValue)) : Ex × St := (.exit 2, ⟨sp 67 0 [(1, .d ((D.l (D.l TValue.D)) s1)), (7, .d ((D.l THit.D) s7)), (8, .row 8), (9, .d ((D.i .i64) s9)), (10, .box 10 0), (23, .d ((D.i .i64) s23)), (24, .d ((D.i .i64) s24))], [(8, .buf true 24 1 (w8.map (D.l TValue.D))), (10, .cells ([.row 537, .clo (.func 40) [] []])), (537, .rw 26 4 (o.map TValue.D))], []⟩)
theorem domain_Add_l4_rnd (rd : Option Nat) (s1 : List (List TValue)) (s7 : List THit) (s9 : Int) (s23 : Int) (s24 : Int) (s40 : List THit) (s41 : Int) (w8 : List (List TValue)) (s42 : Int) (w537 : List TValue) (o : (Int × List TValue) ⊕ ((List TValue))) (h : domain_Add_l4_s s1 s7 s9 s23 s24 s40 s41 w8 s42 w537 = some o) : Arr Try.prog rd (fbody Try.prog 21) (0 :: [0, 1, 0, 1, 1, 1, 0, 0, 1, 1, 0, 0, 1, 0, 1, 1, 1]) (domain_Add_l4_I s1 s7 s9 s23 s24 s40 s41 w8 s42 w537) (rR (fun s : Int × List TValue => domain_Add_l4_I s1 s7 s9 s23 s24 s40 s41 w8 s.1 s.2) (domain_Add_l4_O s1 s7 s9 s23 s24 s40 s41 w8) o).1 (rR (fun s : Int × List TValue => domain_Add_l4_I s1 s7 s9 s23 s24 s40 s41 w8 s.1 s.2) (domain_Add_l4_O s1 s7 s9 s23 s24 s40 s41 w8) o).2 := by
  unfold domain_Add_l4_s at h
  rcases iS h with ⟨h9, h⟩ | ⟨h9, h⟩
  ·
   obtain ⟨o10, h15, h⟩ := bS h
   obtain rfl := si h
   exact runB_arr mixed [(43, .bit true)] [⟨[0, 1, 1, 0, 0, 1, 0, 1, 1, 1, 0, 0, 1, 1, 0, 0, 1, 0, 1, 1, 1], [.live [1, 7, 8, 9, 10, 23, 24, 40, 41, 42], .keep [8, 10, 537]], .normal, (domain_Add_b5_O s1 s7 s9 s23 s24 s40 s41 s42 w8 w537 o10).2⟩] [.live [1, 7, 8, 9, 10, 23, 24, 40, 41, 42], .keep [8, 10, 556], .ren 556 537, .sort] (ai h9 (ai (domain_Add_b5_ok rd s1 s7 s9 s23 s24 s40 s41 s42 w8 w537 o10 h15) (ti))) (by kernel_rfl)
  ·
   obtain rfl := si h
   exact runB_arr mixed [(43, .bit false)] [] [.live [1, 7, 8, 9, 10, 23, 24], .keep [8, 10, 537]] (ai h9 (ti)) (by kernel_rfl)
theorem domain_Add_l4_ok (rd : Option Nat) (s1 : List (List TValue)) (s7 : List THit) (s9 : Int) (s23 : Int) (s24 : Int) (s40 : List THit) (s41 : Int) (w8 : List (List TValue)) (s42 : Int) (w537 : List TValue) (t : (List TValue)) (h : domain_Add_l4 s1 s7 s9 s23 s24 s40 s41 w8 s42 w537 = some t) : LpOf Try.prog rd (fbody Try.prog 21) [0, 1, 0, 1, 1, 1, 0, 0, 1, 1, 0, 0, 1, 0, 1, 1, 1] (domain_Add_l4_I s1 s7 s9 s23 s24 s40 s41 w8 s42 w537) ((domain_Add_l4_O s1 s7 s9 s23 s24 s40 s41 w8) t).1 ((domain_Add_l4_O s1 s7 s9 s23 s24 s40 s41 w8) t).2 :=
  loopE_lpR (fun s : Int × List TValue => domain_Add_l4_I s1 s7 s9 s23 s24 s40 s41 w8 s.1 s.2) (domain_Add_l4_O s1 s7 s9 s23 s24 s40 s41 w8) (by kernel_rfl) (fun t => isN_ne (by rfl)) (fun s o h => domain_Add_l4_rnd rd s1 s7 s9 s23 s24 s40 s41 w8 s.1 s.2 o h) (s := (s42, w537)) (t := t) h
def domain_Add_b2_I (s1 : List (List TValue)) (s7 : List THit) (s23 : Int) (s24 : Int) (w8 : List (List TValue)) : St := ⟨sp 67 0 [(1, .d ((D.l (D.l TValue.D)) s1)), (7, .d ((D.l THit.D) s7)), (8, .row 8), (23, .d ((D.i .i64) s23)), (24, .d ((D.i .i64) s24))], [(8, .buf true 24 1 (w8.map (D.l TValue.D)))], []⟩
def domain_Add_b2_O (s1 : List (List TValue)) (s7 : List THit) (s23 : Int) (s24 : Int) (w8 : List (List TValue)) (o : (List (List TValue))) : Ex × St := (.normal, ⟨sp 67 0 [(1, .d ((D.l (D.l TValue.D)) s1)), (7, .d ((D.l THit.D) s7)), (8, .row 8), (23, .d ((D.i .i64) s23)), (24, .d ((D.i .i64) s24))], [(8, .buf true 24 1 (o.map (D.l TValue.D)))], []⟩)
theorem domain_Add_b2_ok (rd : Option Nat) (s1 : List (List TValue)) (s7 : List THit) (s23 : Int) (s24 : Int) (w8 : List (List TValue)) (o : (List (List TValue))) (h : domain_Add_b2 s1 s7 s23 s24 w8 = some o) : LpOf Try.prog rd (fbody Try.prog 21) [0, 1, 1, 0, 0, 1, 0, 1, 1, 1] (domain_Add_b2_I s1 s7 s23 s24 w8) (domain_Add_b2_O s1 s7 s23 s24 w8 o).1 (domain_Add_b2_O s1 s7 s23 s24 w8 o).2 := by
  unfold domain_Add_b2 at h
  obtain ⟨r2, h4, h⟩ := bS h
  obtain ⟨o5, h8, h⟩ := bS h
  obtain ⟨o11, h16, h⟩ := bS h
  obtain ⟨h17, h⟩ := cS h
  obtain ⟨h18, h⟩ := cS h
  obtain rfl := si h
  exact (runB_arr mixed [(27, .cx false [] [(0, 434)] (.box 0 0) [(0, .cells ([.nil, .clo (.func 40) [] []]))]), (30, .int (s1.length : Int)), (41, .int (s7.length : Int)), (63, .fzn 537), (10064, .sl ((w8.set s24.toNat o11).map (D.l TValue.D)))] [⟨[1, 0, 1, 1, 0, 0, 1, 1, 0, 0, 1, 0, 1, 1, 1], [.live [1, 7, 8, 9, 10, 23, 24, 31], .keep [8, 434], .ren 434 10, .sort], .normal, (domain_Add_b3_O s1 s7 s24 s23 s24 (decide (s24 < (s1.length : Int))) w8 o5).2⟩, ⟨[0, 1, 0, 1, 1, 1, 0, 0, 1, 1, 0, 0, 1, 0, 1, 1, 1], [.live [1, 7, 8, 9, 10, 23, 24, 40, 41, 42], .keep [8, 10, 537]], .exit 2, (domain_Add_l4_O s1 s7 s24 s23 s24 s7 (s7.length : Int) w8 o11).2⟩] [.live [1, 7, 8, 23, 24], .keep [8]] (ai (domain_NewSet_Value_v2_ok r2 h4) (ai (len_map (D.l TValue.D) s1) (ai (domain_Add_b3_ok rd s1 s7 s24 s23 s24 (decide (s24 < (s1.length : Int))) w8 o5 h8) (ai (len_map THit.D s7) (ai (domain_Add_l4_ok rd s1 s7 s24 s23 s24 s7 (s7.length : Int) w8 0 o5 o11 h16) (ai h17.1 (ai (le_map (D.l TValue.D) h17.2) (ai (le_ep (D.l TValue.D) h18) (ai (upd_map (D.l TValue.D) w8 s24 o11) (ti)))))))))) (by kernel_rfl)).lp
def domain_Add_l1_I (s1 : List (List TValue)) (s7 : List THit) (s23 : Int) (s24 : Int) (w8 : List (List TValue)) : St := ⟨sp 67 0 [(1, .d ((D.l (D.l TValue.D)) s1)), (7, .d ((D.l THit.D) s7)), (8, .row 8), (23, .d ((D.i .i64) s23)), (24, .d ((D.i .i64) s24))], [(8, .buf true 24 1 (w8.map (D.l TValue.D)))], []⟩
def domain_Add_l1_O (s1 : List (List TValue)) (s7 : List THit) (s23 : Int) (o : (List (List TValue))) : Ex × St := (.exit 0, ⟨sp 67 0 [(8, .row 8)], [(8, .buf true 24 1 (o.map (D.l TValue.D)))], []⟩)
theorem domain_Add_l1_rnd (rd : Option Nat) (s1 : List (List TValue)) (s7 : List THit) (s23 : Int) (s24 : Int) (w8 : List (List TValue)) (o : (Int × List (List TValue)) ⊕ ((List (List TValue)))) (h : domain_Add_l1_s s1 s7 s23 s24 w8 = some o) : Arr Try.prog rd (fbody Try.prog 21) (0 :: [0, 1, 0, 1, 1, 1]) (domain_Add_l1_I s1 s7 s23 s24 w8) (rR (fun s : Int × List (List TValue) => domain_Add_l1_I s1 s7 s23 s.1 s.2) (domain_Add_l1_O s1 s7 s23) o).1 (rR (fun s : Int × List (List TValue) => domain_Add_l1_I s1 s7 s23 s.1 s.2) (domain_Add_l1_O s1 s7 s23) o).2 := by
  unfold domain_Add_l1_s at h
  rcases iS h with ⟨h3, h⟩ | ⟨h3, h⟩
  ·
   obtain ⟨o12, h19, h⟩ := bS h
   obtain rfl := si h
   exact runB_arr mixed [(25, .bit true)] [⟨[0, 1, 1, 0, 0, 1, 0, 1, 1, 1], [.live [1, 7, 8, 23, 24], .keep [8]], .normal, (domain_Add_b2_O s1 s7 s23 s24 w8 o12).2⟩] [.live [1, 7, 8, 23, 24], .keep [8]] (ai h3 (ai (domain_Add_b2_ok rd s1 s7 s23 s24 w8 o12 h19) (ti))) (by kernel_rfl)
  ·
   obtain rfl := si h
   exact runB_arr mixed [(25, .bit false)] [] [.live [8], .keep [8]] (ai h3 (ti)) (by kernel_rfl)
theorem domain_Add_l1_ok (rd : Option Nat) (s1 : List (List TValue)) (s7 : List THit) (s23 : Int) (s24 : Int) (w8 : List (List TValue)) (t : (List (List TValue))) (h : domain_Add_l1 s1 s7 s23 s24 w8 = some t) : LpOf Try.prog rd (fbody Try.prog 21) [0, 1, 0, 1, 1, 1] (domain_Add_l1_I s1 s7 s23 s24 w8) ((domain_Add_l1_O s1 s7 s23) t).1 ((domain_Add_l1_O s1 s7 s23) t).2 :=
  loopE_lpR (fun s : Int × List (List TValue) => domain_Add_l1_I s1 s7 s23 s.1 s.2) (domain_Add_l1_O s1 s7 s23) (by kernel_rfl) (fun t => isN_ne (by rfl)) (fun s o h => domain_Add_l1_rnd rd s1 s7 s23 s.1 s.2 o h) (s := (s24, w8)) (t := t) h
theorem domain_Add_ok (a0 : TQea) (a1 : List (List TValue)) (a2 : TEvent) (r : List (List TValue)) (h : domain_Add a0 a1 a2 = some r) : ACall Try.prog 21 [.d (TQea.D a0), .d ((D.l (D.l TValue.D)) a1), .d (TEvent.D a2)] [] (.d ((D.l (D.l TValue.D)) r)) [] := by
  unfold domain_Add at h
  obtain ⟨r1, h1, h⟩ := bS h
  obtain ⟨h2, h⟩ := cS h
  obtain ⟨o13, h20, h⟩ := bS h
  obtain rfl := si h
  exact runF_call mixed [(17, .ret (.d ((D.l THit.D) r1))), (20, .int (a0.quants.length : Int)), (21, .sl ((List.replicate (a0.quants.length : Int).toNat ([] : List TValue)).map (D.l TValue.D))), (23, .int ((List.replicate (a0.quants.length : Int).toNat ([] : List TValue)).length : Int))] [⟨[0, 1, 0, 1, 1, 1], [.live [1, 7, 8, 23, 24], .keep [21], .ren 21 8, .sort], .exit 0, (domain_Add_l1_O a1 r1 ((List.replicate (a0.quants.length : Int).toNat ([] : List TValue)).length : Int) o13).2⟩] [.frz 8] (ai (match_All_ok a0 a2 r1 h1) (ai (len_map TQuant.D a0.quants) (ai h2.1 (ai (Int.le_refl (a0.quants.length : Int)) (ai (Int.le_refl (a0.quants.length : Int)) (ai (mk_fit (D.l TValue.D) ([] : List TValue) h2.2) (ai (mk_app (D.l TValue.D) (a0.quants.length : Int) ([] : List TValue)) (ai (len_map (D.l TValue.D) (List.replicate (a0.quants.length : Int).toNat ([] : List TValue))) (ai (domain_Add_l1_ok none a1 r1 ((List.replicate (a0.quants.length : Int).toNat ([] : List TValue)).length : Int) 0 (List.replicate (a0.quants.length : Int).toNat ([] : List TValue)) o13 h20) (ti)))))))))) (by kernel_rfl)
def domain_Of_l1_I (s12 : List TEvent) (s13 : Int) (w2 : TQea) (s5 : List (List TValue)) (s14 : Int) : St := ⟨sp 24 0 [(2, .box 2 0), (5, .d ((D.l (D.l TValue.D)) s5)), (12, .d ((D.l TEvent.D) s12)), (13, .d ((D.i .i64) s13)), (14, .d ((D.i .i64) s14))], [(2, .cells ((cellsA (TQea.D w2))))], []⟩
def domain_Of_l1_O (s12 : List TEvent) (s13 : Int) (w2 : TQea) (o : (List (List TValue))) : Ex × St := (.exit 0, ⟨sp 24 0 [(5, .d ((D.l (D.l TValue.D)) o))], [], []⟩)
theorem domain_Of_l1_rnd (rd : Option Nat) (s12 : List TEvent) (s13 : Int) (w2 : TQea) (s5 : List (List TValue)) (s14 : Int) (o : (List (List TValue) × Int) ⊕ ((List (List TValue)))) (h : domain_Of_l1_s s12 s13 w2 s5 s14 = some o) : Arr Try.prog rd (fbody Try.prog 19) (0 :: [0, 1, 0, 1, 1]) (domain_Of_l1_I s12 s13 w2 s5 s14) (rR (fun s : List (List TValue) × Int => domain_Of_l1_I s12 s13 w2 s.1 s.2) (domain_Of_l1_O s12 s13 w2) o).1 (rR (fun s : List (List TValue) × Int => domain_Of_l1_I s12 s13 w2 s.1 s.2) (domain_Of_l1_O s12 s13 w2) o).2 := by
  unfold domain_Of_l1_s at h
  rcases iS h with ⟨h5, h⟩ | ⟨h5, h⟩
  ·
   obtain ⟨x3, h6, h⟩ := xS h
   obtain ⟨r4, h7, h⟩ := bS h
   obtain rfl := si h
   exact runB_arr mixed [(15, .bit true), (16, .el (TEvent.D x3)), (21, .ret (.d ((D.l (D.l TValue.D)) r4)))] [] [.live [2, 5, 12, 13, 14], .keep [2]] (ai h5 (ai (elem_map TEvent.D h6) (ai (domain_Add_ok w2 s5 x3 r4 h7) (ti)))) (by kernel_rfl)
  ·
   obtain rfl := si h
   exact runB_arr mixed [(15, .bit false)] [] [.live [5], .keep []] (ai h5 (ti)) (by kernel_rfl)
theorem domain_Of_l1_ok (rd : Option Nat) (s12 : List TEvent) (s13 : Int) (w2 : TQea) (s5 : List (List TValue)) (s14 : Int) (t : (List (List TValue))) (h : domain_Of_l1 s12 s13 w2 s5 s14 = some t) : LpOf Try.prog rd (fbody Try.prog 19) [0, 1, 0, 1, 1] (domain_Of_l1_I s12 s13 w2 s5 s14) ((domain_Of_l1_O s12 s13 w2) t).1 ((domain_Of_l1_O s12 s13 w2) t).2 :=
  loopE_lpR (fun s : List (List TValue) × Int => domain_Of_l1_I s12 s13 w2 s.1 s.2) (domain_Of_l1_O s12 s13 w2) (by kernel_rfl) (fun t => isN_ne (by rfl)) (fun s o h => domain_Of_l1_rnd rd s12 s13 w2 s.1 s.2 o h) (s := (s5, s14)) (t := t) h
theorem domain_Of_ok (a0 : TQea) (a1 : List TEvent) (r : List (List TValue)) (h : domain_Of a0 a1 = some r) : ACall Try.prog 19 [.d (TQea.D a0), .d ((D.l TEvent.D) a1)] [] (.d ((D.l (D.l TValue.D)) r)) [] := by
  unfold domain_Of at h
  obtain ⟨h1, h⟩ := cS h
  obtain ⟨o5, h8, h⟩ := bS h
  obtain rfl := si h
  exact runF_call mixed [(10, .int (a0.quants.length : Int)), (11, .sl ((List.replicate (a0.quants.length : Int).toNat ([] : List TValue)).map (D.l TValue.D))), (13, .int (a1.length : Int))] [⟨[0, 1, 0, 1, 1], [.frz 11, .look 5, .live [2, 5, 12, 13, 14], .keep [2]], .exit 0, (domain_Of_l1_O a1 (a1.length : Int) a0 o5).2⟩] [] (ai (len_map TQuant.D a0.quants) (ai h1.1 (ai (Int.le_refl (a0.quants.length : Int)) (ai (Int.le_refl (a0.quants.length : Int)) (ai (mk_fit (D.l TValue.D) ([] : List TValue) h1.2) (ai (mk_app (D.l TValue.D) (a0.quants.length : Int) ([] : List TValue)) (ai (len_map TEvent.D a1) (ai (domain_Of_l1_ok none a1 (a1.length : Int) a0 (List.replicate (a0.quants.length : Int).toNat ([] : List TValue)) 0 o5 h8) (ti))))))))) (by kernel_rfl)
def ref08_Right_l1_I (s0 : List TDecl) (s5 : Int) (w3 : TEvent) (s6 : Int) : St := ⟨sp 56 0 [(0, .d ((D.l TDecl.D) s0)), (3, .box 3 0), (5, .d ((D.i .i64) s5)), (6, .d ((D.i .i64) s6))], [(3, .cells ((cellsA (TEvent.D w3))))], []⟩
def ref08_Right_l1_O (s0 : List TDecl) (s5 : Int) (w3 : TEvent) (o : Unit ⊕ Unit) : Ex × St := match o with
  | .inl o => (.exit 0, ⟨sp 56 0 [], [], []⟩)
  | .inr o => (.ret, ⟨sp 56 0 [(4, .d (D.b false))], [], []⟩)
theorem ref08_Right_l1_rnd (rd : Option Nat) (s0 : List TDecl) (s5 : Int) (w3 : TEvent) (s6 : Int) (o : (Int) ⊕ (Unit ⊕ Unit)) (h : ref08_Right_l1_s s0 s5 w3 s6 = some o) : Arr Try.prog rd (fbody Try.prog 42) (0 :: [0, 1, 0, 1, 1, 1]) (ref08_Right_l1_I s0 s5 w3 s6) (rR (fun s : Int => ref08_Right_l1_I s0 s5 w3 s) (ref08_Right_l1_O s0 s5 w3) o).1 (rR (fun s : Int => ref08_Right_l1_I s0 s5 w3 s) (ref08_Right_l1_O s0 s5 w3) o).2 := by
  unfold ref08_Right_l1_s at h
  rcases iS h with ⟨h5, h⟩ | ⟨h5, h⟩
  ·
   obtain ⟨x3, h6, h⟩ := xS h
   obtain ⟨x4, h7, h⟩ := xS h
   obtain ⟨x5, h8, h⟩ := xS h
   rcases iS h with ⟨h9, h⟩ | ⟨h9, h⟩
   ·
    obtain rfl := si h
    exact runB_arr mixed [(28, .int (w3.args.length : Int)), (29, .bit true), (35, .el (TValue.D x3)), (40, .el (TDecl.D x4)), (44, .el ((D.i .i64) x5)), (47, .bit true)] [] [.live [4], .keep []] (ai (len_map TValue.D w3.args) (ai h5 (ai (elem_map TValue.D h6) (ai (elem_map TDecl.D h7) (ai (elem_map (D.i .i64) h8) (ai h9 (ti))))))) (by kernel_rfl)
   ·
    obtain ⟨x6, h10, h⟩ := xS h
    obtain ⟨r7, h11, h⟩ := bS h
    rcases iS h with ⟨h12, h⟩ | ⟨h12, h⟩
    ·
     obtain rfl := si h
     exact runB_arr mixed [(28, .int (w3.args.length : Int)), (29, .bit true), (35, .el (TValue.D x3)), (40, .el (TDecl.D x4)), (44, .el ((D.i .i64) x5)), (47, .bit false), (51, .el (TValue.D x6)), (53, .ret (.d (D.b r7))), (55, .bit true)] [] [.live [4], .keep []] (ai (len_map TValue.D w3.args) (ai h5 (ai (elem_map TValue.D h6) (ai (elem_map TDecl.D h7) (ai (elem_map (D.i .i64) h8) (ai h9 (ai (elem_map TValue.D h10) (ai (ref03_Right_ok x6 r7 h11) (ai h12 (ti)))))))))) (by kernel_rfl)
    ·
     obtain rfl := si h
     exact runB_arr mixed [(28, .int (w3.args.length : Int)), (29, .bit true), (35, .el (TValue.D x3)), (40, .el (TDecl.D x4)), (44, .el ((D.i .i64) x5)), (47, .bit false), (51, .el (TValue.D x6)), (53, .ret (.d (D.b r7))), (55, .bit false)] [] [.live [0, 3, 5, 6], .keep [3]] (ai (len_map TValue.D w3.args) (ai h5 (ai (elem_map TValue.D h6) (ai (elem_map TDecl.D h7) (ai (elem_map (D.i .i64) h8) (ai h9 (ai (elem_map TValue.D h10) (ai (ref03_Right_ok x6 r7 h11) (ai h12 (ti)))))))))) (by kernel_rfl)
  ·
   obtain rfl := si h
   exact runB_arr mixed [(28, .int (w3.args.length : Int)), (29, .bit false)] [] [.live [], .keep []] (ai (len_map TValue.D w3.args) (ai h5 (ti))) (by kernel_rfl)
theorem ref08_Right_l1_ok (rd : Option Nat) (s0 : List TDecl) (s5 : Int) (w3 : TEvent) (s6 : Int) (t : Unit ⊕ Unit) (h : ref08_Right_l1 s0 s5 w3 s6 = some t) : LpOf Try.prog rd (fbody Try.prog 42) [0, 1, 0, 1, 1, 1] (ref08_Right_l1_I s0 s5 w3 s6) ((ref08_Right_l1_O s0 s5 w3) t).1 ((ref08_Right_l1_O s0 s5 w3) t).2 :=
  loopE_lpR (fun s : Int => ref08_Right_l1_I s0 s5 w3 s) (ref08_Right_l1_O s0 s5 w3) (by kernel_rfl) (fun t => isN_ne (by rcases t with (_ | _) <;> rfl)) (fun s o h => ref08_Right_l1_rnd rd s0 s5 w3 s o h) (s := s6) (t := t) h
end Go.Ac
