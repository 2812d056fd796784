/- Part M3 of the model: each function answers as its plain twin in this text says, whenever that twin answers. No other condition. (Printed by a program of this work.) -/
import Derived.Test.YtoioflodpmideaaM2
import Derived.Test.YtoioflodpmideaaAbs22
namespace Go.Syn
open Go.Abs Go.Proofs.Try
set_option linter.unusedVariables false
noncomputable def syntax_Script_O (a0 : Script) (a1 a2 : Int) : List O := []
noncomputable def syntax_Script_V (a0 : Script) (a1 a2 : Int) : V := .tup [.agg (ca a0), .one (.int .i64 a1), .one (.int .i64 a2)]
noncomputable def syntax_Script_J (a0 : Str) (r : (Script × Int × Int)) : Prop := Has prog 8 [.one (.str a0)] [] (syntax_Script_O r.1 r.2.1 r.2.2) (syntax_Script_V r.1 r.2.1 r.2.2)
noncomputable def syntax_Script (k : Nat) (a0 : Str) : Option (Script × Int × Int) :=
 (syntax_read_t k a0 1).bind fun (r1, r2, r3) =>
 some (r1, r2, r3)
theorem syntax_Script_ok {k : Nat} : Sd1 (syntax_Script k) syntax_Script_J := by
 intro a0 r h
 unfold syntax_Script at h
 refine ent (c := bodyOf f8) func8 rfl rfl rfl fun cx => ?_
 obtain ⟨⟨r1, r2, r3⟩, h1, h⟩ := bs h fun _ => syntax_read_t_ok
 obtain rfl := Option.some.inj h
 exact rr 6 [(1, .reg [(1, cl [] h1)] [])] [] [] 0 [pf h1]

noncomputable def l06_alive_O (a0 : Bool) : List O := []
noncomputable def l06_alive_V (a0 : Bool) : V := .one (.bool a0)
noncomputable def l06_alive_J (r : Bool) : Prop := Has prog 4 [] [] (l06_alive_O r) (l06_alive_V r)
noncomputable def l06_alive (k : Nat) : Option Bool :=
 (syntax_Expr k s_ax20x2bx20bx20x2ax20c).bind fun (r1, r2, r3) =>
 (syntax_Query k s_selectx20ax20asx20xx20fromx20t).bind fun (r4, r5, r6) =>
 (syntax_Script k s_skipx3bx20sipx3b).bind fun (r7, r8, r9) =>
 if (IntKind.i64.wrap (r3 + r6)) = 0 then (
  if r1.Kind = 10 then (
   if r1.S = s_x2b then (
    if (r1.Kids.length : Int) = 2 then (
     (idx r1.Kids 1).bind fun x10 =>
     if x10.S = s_x2a then (
      if r4.Kind = 1 then (
       if r4.Limit = (-1) then (
        if (r4.From.length : Int) = 1 then (
         (idx r4.From 0).bind fun x11 =>
         if x11.As = s_t then (
          if r9 = 10 then (
           some (decide (r8 = 6))
          ) else (
           some false
          )
         ) else (
          some false
         )
        ) else (
         some false
        )
       ) else (
        some false
       )
      ) else (
       some false
      )
     ) else (
      some false
     )
    ) else (
     some false
    )
   ) else (
    some false
   )
  ) else (
   some false
  )
 ) else (
  some false
 )
theorem l06_alive_ok {k : Nat} : Sd0 (l06_alive k) l06_alive_J := by
 intro r h
 unfold l06_alive at h
 refine ent (c := bodyOf f4) func4 rfl rfl rfl fun cx => ?_
 obtain ⟨⟨r1, r2, r3⟩, h1, h⟩ := bs h fun _ => syntax_Expr_ok
 obtain ⟨⟨r4, r5, r6⟩, h2, h⟩ := bs h fun _ => syntax_Query_ok
 obtain ⟨⟨r7, r8, r9⟩, h3, h⟩ := bs h fun _ => syntax_Script_ok
 obtain ⟨h4, h⟩ | ⟨h4, h⟩ := ite_some h
 · obtain ⟨h5, h⟩ | ⟨h5, h⟩ := ite_some h
   · obtain ⟨h6, h⟩ | ⟨h6, h⟩ := ite_some h
     · obtain ⟨h7, h⟩ | ⟨h7, h⟩ := ite_some h
       · obtain ⟨x10, h8, h⟩ := bind_some h
         obtain ⟨h9, h⟩ | ⟨h9, h⟩ := ite_some h
         · obtain ⟨h10, h⟩ | ⟨h10, h⟩ := ite_some h
           · obtain ⟨h11, h⟩ | ⟨h11, h⟩ := ite_some h
             · obtain ⟨h12, h⟩ | ⟨h12, h⟩ := ite_some h
               · obtain ⟨x11, h13, h⟩ := bind_some h
                 obtain ⟨h14, h⟩ | ⟨h14, h⟩ := ite_some h
                 · obtain ⟨h15, h⟩ | ⟨h15, h⟩ := ite_some h
                   · obtain rfl := Option.some.inj h
                     exact rr 12 [(1, .reg [(0, cl [] h1)] []), (2, .reg [(0, cl [] h2)] []), (3, .reg [(0, cl [] h3)] []), (4, .reg [(25, .row (Row.cells x10)), (49, .row (Row.cells x11))] [(4, .bool true), (9, .bool true), (14, .bool true), (17, .one (.int .i64 (r1.Kids.length : Int))), (20, .bool true), (28, .bool true), (33, .bool true), (38, .bool true), (41, .one (.int .i64 (r4.From.length : Int))), (44, .bool true), (52, .bool true), (56, .bool true)])] [] [] 0 [pf h1, pf h2, pf h3, pf (dt h4), pf (dt h5), pf (dt h6), @pf (LenP (α := Expr) r1.Kids) (lenP _), pf (dt h7), pf (inP h8), pf (atP h8), pf (dt h9), pf (dt h10), pf (dt h11), @pf (LenP (α := From) r4.From) (lenP _), pf (dt h12), pf (inP h13), pf (atP h13), pf (dt h14), pf (dt h15)]
                   · obtain rfl := Option.some.inj h
                     exact rr 12 [(1, .reg [(0, cl [] h1)] []), (2, .reg [(0, cl [] h2)] []), (3, .reg [(0, cl [] h3)] []), (4, .reg [(25, .row (Row.cells x10)), (49, .row (Row.cells x11))] [(4, .bool true), (9, .bool true), (14, .bool true), (17, .one (.int .i64 (r1.Kids.length : Int))), (20, .bool true), (28, .bool true), (33, .bool true), (38, .bool true), (41, .one (.int .i64 (r4.From.length : Int))), (44, .bool true), (52, .bool true), (56, .bool false)])] [] [] 0 [pf h1, pf h2, pf h3, pf (dt h4), pf (dt h5), pf (dt h6), @pf (LenP (α := Expr) r1.Kids) (lenP _), pf (dt h7), pf (inP h8), pf (atP h8), pf (dt h9), pf (dt h10), pf (dt h11), @pf (LenP (α := From) r4.From) (lenP _), pf (dt h12), pf (inP h13), pf (atP h13), pf (dt h14), pf (df h15)]
                 · obtain rfl := Option.some.inj h
                   exact rr 12 [(1, .reg [(0, cl [] h1)] []), (2, .reg [(0, cl [] h2)] []), (3, .reg [(0, cl [] h3)] []), (4, .reg [(25, .row (Row.cells x10)), (49, .row (Row.cells x11))] [(4, .bool true), (9, .bool true), (14, .bool true), (17, .one (.int .i64 (r1.Kids.length : Int))), (20, .bool true), (28, .bool true), (33, .bool true), (38, .bool true), (41, .one (.int .i64 (r4.From.length : Int))), (44, .bool true), (52, .bool false)])] [] [] 0 [pf h1, pf h2, pf h3, pf (dt h4), pf (dt h5), pf (dt h6), @pf (LenP (α := Expr) r1.Kids) (lenP _), pf (dt h7), pf (inP h8), pf (atP h8), pf (dt h9), pf (dt h10), pf (dt h11), @pf (LenP (α := From) r4.From) (lenP _), pf (dt h12), pf (inP h13), pf (atP h13), pf (df h14)]
               · obtain rfl := Option.some.inj h
                 exact rr 12 [(1, .reg [(0, cl [] h1)] []), (2, .reg [(0, cl [] h2)] []), (3, .reg [(0, cl [] h3)] []), (4, .reg [(25, .row (Row.cells x10))] [(4, .bool true), (9, .bool true), (14, .bool true), (17, .one (.int .i64 (r1.Kids.length : Int))), (20, .bool true), (28, .bool true), (33, .bool true), (38, .bool true), (41, .one (.int .i64 (r4.From.length : Int))), (44, .bool false)])] [] [] 0 [pf h1, pf h2, pf h3, pf (dt h4), pf (dt h5), pf (dt h6), @pf (LenP (α := Expr) r1.Kids) (lenP _), pf (dt h7), pf (inP h8), pf (atP h8), pf (dt h9), pf (dt h10), pf (dt h11), @pf (LenP (α := From) r4.From) (lenP _), pf (df h12)]
             · obtain rfl := Option.some.inj h
               exact rr 12 [(1, .reg [(0, cl [] h1)] []), (2, .reg [(0, cl [] h2)] []), (3, .reg [(0, cl [] h3)] []), (4, .reg [(25, .row (Row.cells x10))] [(4, .bool true), (9, .bool true), (14, .bool true), (17, .one (.int .i64 (r1.Kids.length : Int))), (20, .bool true), (28, .bool true), (33, .bool true), (38, .bool false)])] [] [] 0 [pf h1, pf h2, pf h3, pf (dt h4), pf (dt h5), pf (dt h6), @pf (LenP (α := Expr) r1.Kids) (lenP _), pf (dt h7), pf (inP h8), pf (atP h8), pf (dt h9), pf (dt h10), pf (df h11)]
           · obtain rfl := Option.some.inj h
             exact rr 12 [(1, .reg [(0, cl [] h1)] []), (2, .reg [(0, cl [] h2)] []), (3, .reg [(0, cl [] h3)] []), (4, .reg [(25, .row (Row.cells x10))] [(4, .bool true), (9, .bool true), (14, .bool true), (17, .one (.int .i64 (r1.Kids.length : Int))), (20, .bool true), (28, .bool true), (33, .bool false)])] [] [] 0 [pf h1, pf h2, pf h3, pf (dt h4), pf (dt h5), pf (dt h6), @pf (LenP (α := Expr) r1.Kids) (lenP _), pf (dt h7), pf (inP h8), pf (atP h8), pf (dt h9), pf (df h10)]
         · obtain rfl := Option.some.inj h
           exact rr 12 [(1, .reg [(0, cl [] h1)] []), (2, .reg [(0, cl [] h2)] []), (3, .reg [(0, cl [] h3)] []), (4, .reg [(25, .row (Row.cells x10))] [(4, .bool true), (9, .bool true), (14, .bool true), (17, .one (.int .i64 (r1.Kids.length : Int))), (20, .bool true), (28, .bool false)])] [] [] 0 [pf h1, pf h2, pf h3, pf (dt h4), pf (dt h5), pf (dt h6), @pf (LenP (α := Expr) r1.Kids) (lenP _), pf (dt h7), pf (inP h8), pf (atP h8), pf (df h9)]
       · obtain rfl := Option.some.inj h
         exact rr 12 [(1, .reg [(0, cl [] h1)] []), (2, .reg [(0, cl [] h2)] []), (3, .reg [(0, cl [] h3)] []), (4, .reg [] [(4, .bool true), (9, .bool true), (14, .bool true), (17, .one (.int .i64 (r1.Kids.length : Int))), (20, .bool false)])] [] [] 0 [pf h1, pf h2, pf h3, pf (dt h4), pf (dt h5), pf (dt h6), @pf (LenP (α := Expr) r1.Kids) (lenP _), pf (df h7)]
     · obtain rfl := Option.some.inj h
       exact rr 12 [(1, .reg [(0, cl [] h1)] []), (2, .reg [(0, cl [] h2)] []), (3, .reg [(0, cl [] h3)] []), (4, .reg [] [(4, .bool true), (9, .bool true), (14, .bool false)])] [] [] 0 [pf h1, pf h2, pf h3, pf (dt h4), pf (dt h5), pf (df h6)]
   · obtain rfl := Option.some.inj h
     exact rr 12 [(1, .reg [(0, cl [] h1)] []), (2, .reg [(0, cl [] h2)] []), (3, .reg [(0, cl [] h3)] []), (4, .reg [] [(4, .bool true), (9, .bool false)])] [] [] 0 [pf h1, pf h2, pf h3, pf (dt h4), pf (df h5)]
 · obtain rfl := Option.some.inj h
   exact rr 12 [(1, .reg [(0, cl [] h1)] []), (2, .reg [(0, cl [] h2)] []), (3, .reg [(0, cl [] h3)] []), (4, .reg [] [(4, .bool false)])] [] [] 0 [pf h1, pf h2, pf h3, pf (df h4)]

noncomputable def r06_SameQuery_O (a0 : Bool) : List O := []
noncomputable def r06_SameQuery_V (a0 : Bool) : V := .one (.bool a0)
noncomputable def r06_SameQuery_J (a0 a1 : Query) (r : Bool) : Prop := Has prog 29 [.agg (ca a0), .agg (ca a1)] [] (r06_SameQuery_O r) (r06_SameQuery_V r)
noncomputable def r06_SameFroms_O (a0 : Bool) : List O := []
noncomputable def r06_SameFroms_V (a0 : Bool) : V := .one (.bool a0)
noncomputable def r06_SameFroms_J (a0 a1 : List From) (r : Bool) : Prop := Has prog 43 [.one (.c (.sl 7 (Row.rows (α := From) a0))), .one (.c (.sl 7 (Row.rows (α := From) a1)))] [] (r06_SameFroms_O r) (r06_SameFroms_V r)
noncomputable def r06_SameQueries_O (a0 : Bool) : List O := []
noncomputable def r06_SameQueries_V (a0 : Bool) : V := .one (.bool a0)
noncomputable def r06_SameQueries_J (a0 a1 : List Query) (r : Bool) : Prop := Has prog 13 [.one (.c (.sl 10 (Row.rows (α := Query) a0))), .one (.c (.sl 10 (Row.rows (α := Query) a1)))] [] (r06_SameQueries_O r) (r06_SameQueries_V r)
noncomputable def r06_SameExprs_O (a0 : Bool) : List O := []
noncomputable def r06_SameExprs_V (a0 : Bool) : V := .one (.bool a0)
noncomputable def r06_SameExprs_J (a0 a1 : List Expr) (r : Bool) : Prop := Has prog 12 [.one (.c (.sl 6 (Row.rows (α := Expr) a0))), .one (.c (.sl 6 (Row.rows (α := Expr) a1)))] [] (r06_SameExprs_O r) (r06_SameExprs_V r)
noncomputable def r06_SameExpr_O (a0 : Bool) : List O := []
noncomputable def r06_SameExpr_V (a0 : Bool) : V := .one (.bool a0)
noncomputable def r06_SameExpr_J (a0 a1 : Expr) (r : Bool) : Prop := Has prog 6 [.agg (ca a0), .agg (ca a1)] [] (r06_SameExpr_O r) (r06_SameExpr_V r)
noncomputable def r06_SameQuery_j5_K : List Item := stackAt (bodyOf f29) [1, 1, 1, 0, 1, 0, 0, 1, 0, 0, 1] []
noncomputable def r06_SameQuery_j5_S (a0 a1 : Query) (a2 : Int) (a3 : Bool) : St := ⟨[(2, .one (.ptr 0 0)), (3, .one (.ptr 1 0)), (6, .one (.int .i64 a2)), (115, .one (.bool a3))], [(0, .var 36 (ca a0)), (1, .var 36 (ca a1))], 2, 149, 0⟩
noncomputable def r06_SameQuery_j5_J (a0 a1 : Query) (a2 : Int) (a3 : Bool) (r : Bool) : Prop := ∀ cx : Cx, AK prog cx r06_SameQuery_j5_K (r06_SameQuery_j5_S a0 a1 a2 a3) (Fin lay f29.results.toList 0 fun o v => o = r06_SameQuery_O r ∧ v = r06_SameQuery_V r)
noncomputable def r06_SameFroms_j2_K : List Item := stackAt (bodyOf f43) [1, 1, 0, 1, 0, 0, 1, 0, 0, 1, 1] []
noncomputable def r06_SameFroms_j2_S (a0 a1 : List From) (a2 : Int) (a3 : Bool) : St := ⟨[(0, .one (.c (.sl 7 (Row.rows (α := From) a0)))), (1, .one (.c (.sl 7 (Row.rows (α := From) a1)))), (5, .one (.int .i64 a2)), (76, .one (.bool a3))], [], 0, 77, 0⟩
noncomputable def r06_SameFroms_j2_J (a0 a1 : List From) (a2 : Int) (a3 : Bool) (r : Bool) : Prop := ∀ cx : Cx, AK prog cx r06_SameFroms_j2_K (r06_SameFroms_j2_S a0 a1 a2 a3) (Fin lay f43.results.toList 0 fun o v => o = r06_SameFroms_O r ∧ v = r06_SameFroms_V r)
noncomputable def r06_SameFroms_l1_K : List Item := stackAt (bodyOf f43) [1, 1, 0, 1, 0, 0] []
noncomputable def r06_SameFroms_l1_S (a0 a1 : List From) (a2 : Int) : St := ⟨[(0, .one (.c (.sl 7 (Row.rows (α := From) a0)))), (1, .one (.c (.sl 7 (Row.rows (α := From) a1)))), (5, .one (.int .i64 a2))], [], 0, 77, 0⟩
noncomputable def r06_SameFroms_l1_J (a0 a1 : List From) (a2 : Int) (r : Bool) : Prop := ∀ cx : Cx, AK prog cx r06_SameFroms_l1_K (r06_SameFroms_l1_S a0 a1 a2) (Fin lay f43.results.toList 0 fun o v => o = r06_SameFroms_O r ∧ v = r06_SameFroms_V r)
noncomputable def r06_SameQuery_l4_K : List Item := stackAt (bodyOf f29) [1, 1, 1, 0, 1, 0, 0] []
noncomputable def r06_SameQuery_l4_S (a0 a1 : Query) (a2 : Int) : St := ⟨[(2, .one (.ptr 0 0)), (3, .one (.ptr 1 0)), (6, .one (.int .i64 a2))], [(0, .var 36 (ca a0)), (1, .var 36 (ca a1))], 2, 149, 0⟩
noncomputable def r06_SameQuery_l4_J (a0 a1 : Query) (a2 : Int) (r : Bool) : Prop := ∀ cx : Cx, AK prog cx r06_SameQuery_l4_K (r06_SameQuery_l4_S a0 a1 a2) (Fin lay f29.results.toList 0 fun o v => o = r06_SameQuery_O r ∧ v = r06_SameQuery_V r)
noncomputable def r06_SameQuery_j3_K : List Item := stackAt (bodyOf f29) [1, 1, 0, 1, 0, 0, 1, 0, 0, 1] []
noncomputable def r06_SameQuery_j3_S (a0 a1 : Query) (a2 : Int) (a3 : Bool) : St := ⟨[(2, .one (.ptr 0 0)), (3, .one (.ptr 1 0)), (5, .one (.int .i64 a2)), (79, .one (.bool a3))], [(0, .var 36 (ca a0)), (1, .var 36 (ca a1))], 2, 149, 0⟩
noncomputable def r06_SameQuery_j3_J (a0 a1 : Query) (a2 : Int) (a3 : Bool) (r : Bool) : Prop := ∀ cx : Cx, AK prog cx r06_SameQuery_j3_K (r06_SameQuery_j3_S a0 a1 a2 a3) (Fin lay f29.results.toList 0 fun o v => o = r06_SameQuery_O r ∧ v = r06_SameQuery_V r)
noncomputable def r06_SameQuery_l2_K : List Item := stackAt (bodyOf f29) [1, 1, 0, 1, 0, 0] []
noncomputable def r06_SameQuery_l2_S (a0 a1 : Query) (a2 : Int) : St := ⟨[(2, .one (.ptr 0 0)), (3, .one (.ptr 1 0)), (5, .one (.int .i64 a2))], [(0, .var 36 (ca a0)), (1, .var 36 (ca a1))], 2, 149, 0⟩
noncomputable def r06_SameQuery_l2_J (a0 a1 : Query) (a2 : Int) (r : Bool) : Prop := ∀ cx : Cx, AK prog cx r06_SameQuery_l2_K (r06_SameQuery_l2_S a0 a1 a2) (Fin lay f29.results.toList 0 fun o v => o = r06_SameQuery_O r ∧ v = r06_SameQuery_V r)
noncomputable def r06_SameQuery_j1_K : List Item := stackAt (bodyOf f29) [1, 0, 1] []
noncomputable def r06_SameQuery_j1_S (a0 a1 : Query) (a2 : Bool) : St := ⟨[(2, .one (.ptr 0 0)), (3, .one (.ptr 1 0)), (43, .one (.bool a2))], [(0, .var 36 (ca a0)), (1, .var 36 (ca a1))], 2, 149, 0⟩
noncomputable def r06_SameQuery_j1_J (a0 a1 : Query) (a2 : Bool) (r : Bool) : Prop := ∀ cx : Cx, AK prog cx r06_SameQuery_j1_K (r06_SameQuery_j1_S a0 a1 a2) (Fin lay f29.results.toList 0 fun o v => o = r06_SameQuery_O r ∧ v = r06_SameQuery_V r)
noncomputable def r06_SameQueries_l1_K : List Item := stackAt (bodyOf f13) [1, 1, 0, 1, 0, 0] []
noncomputable def r06_SameQueries_l1_S (a0 a1 : List Query) (a2 : Int) : St := ⟨[(0, .one (.c (.sl 10 (Row.rows (α := Query) a0)))), (1, .one (.c (.sl 10 (Row.rows (α := Query) a1)))), (5, .one (.int .i64 a2))], [], 0, 27, 0⟩
noncomputable def r06_SameQueries_l1_J (a0 a1 : List Query) (a2 : Int) (r : Bool) : Prop := ∀ cx : Cx, AK prog cx r06_SameQueries_l1_K (r06_SameQueries_l1_S a0 a1 a2) (Fin lay f13.results.toList 0 fun o v => o = r06_SameQueries_O r ∧ v = r06_SameQueries_V r)
noncomputable def r06_SameExprs_l1_K : List Item := stackAt (bodyOf f12) [1, 1, 0, 1, 0, 0] []
noncomputable def r06_SameExprs_l1_S (a0 a1 : List Expr) (a2 : Int) : St := ⟨[(0, .one (.c (.sl 6 (Row.rows (α := Expr) a0)))), (1, .one (.c (.sl 6 (Row.rows (α := Expr) a1)))), (5, .one (.int .i64 a2))], [], 0, 27, 0⟩
noncomputable def r06_SameExprs_l1_J (a0 a1 : List Expr) (a2 : Int) (r : Bool) : Prop := ∀ cx : Cx, AK prog cx r06_SameExprs_l1_K (r06_SameExprs_l1_S a0 a1 a2) (Fin lay f12.results.toList 0 fun o v => o = r06_SameExprs_O r ∧ v = r06_SameExprs_V r)
structure Tab_r06_SameExpr where
 k : Nat
 r06_SameExpr : Expr → Expr → Option Bool
 r06_SameExprs : (List Expr) → (List Expr) → Option Bool
 r06_SameExprs_l1 : (List Expr) → (List Expr) → Int → Option Bool
 r06_SameFroms : (List From) → (List From) → Option Bool
 r06_SameFroms_l1 : (List From) → (List From) → Int → Option Bool
 r06_SameQueries : (List Query) → (List Query) → Option Bool
 r06_SameQueries_l1 : (List Query) → (List Query) → Int → Option Bool
 r06_SameQuery : Query → Query → Option Bool
 r06_SameQuery_l2 : Query → Query → Int → Option Bool
 r06_SameQuery_l4 : Query → Query → Int → Option Bool
noncomputable def r06_SameExpr_b (T : Tab_r06_SameExpr) (a0 a1 : Expr) : Option Bool :=
 if a0.Kind = a1.Kind then (
  if a0.N = a1.N then (
   if a0.S = a1.S then (
    if a0.T = a1.T then (
     (T.r06_SameExprs a0.Kids a1.Kids).bind fun r1 =>
     if r1 = true then (
      (T.r06_SameQueries a0.Q a1.Q).bind fun r2 =>
      some r2
     ) else (
      some false
     )
    ) else (
     some false
    )
   ) else (
    some false
   )
  ) else (
   some false
  )
 ) else (
  some false
 )
noncomputable def r06_SameExprs_b (T : Tab_r06_SameExpr) (a0 a1 : List Expr) : Option Bool :=
 if (a0.length : Int) = (a1.length : Int) then (
  T.r06_SameExprs_l1 a0 a1 0
 ) else (
  some false
 )
noncomputable def r06_SameExprs_l1_b (T : Tab_r06_SameExpr) (a0 a1 : List Expr) (a2 : Int) : Option Bool :=
 if a2 < (a0.length : Int) then (
  (idx a0 a2).bind fun x1 =>
  (idx a1 a2).bind fun x2 =>
  (T.r06_SameExpr x1 x2).bind fun r3 =>
  if r3 = true then (
   T.r06_SameExprs_l1 a0 a1 (IntKind.i64.wrap (a2 + 1))
  ) else (
   some false
  )
 ) else (
  some true
 )
noncomputable def r06_SameFroms_b (T : Tab_r06_SameExpr) (a0 a1 : List From) : Option Bool :=
 if (a0.length : Int) = (a1.length : Int) then (
  T.r06_SameFroms_l1 a0 a1 0
 ) else (
  some false
 )
noncomputable def r06_SameFroms_j2_b (T : Tab_r06_SameExpr) (a0 a1 : List From) (a2 : Int) (a3 : Bool) : Option Bool :=
 if a3 = true then (
  some false
 ) else (
  T.r06_SameFroms_l1 a0 a1 (IntKind.i64.wrap (a2 + 1))
 )
noncomputable def r06_SameFroms_l1_b (T : Tab_r06_SameExpr) (a0 a1 : List From) (a2 : Int) : Option Bool :=
 if a2 < (a0.length : Int) then (
  (idx a0 a2).bind fun x1 =>
  (idx a1 a2).bind fun x2 =>
  if x1.Kind = x2.Kind then (
   if x1.Table = x2.Table then (
    if (x1.Visible == x2.Visible) = true then (
     if x1.As = x2.As then (
      (T.r06_SameQueries x1.Q x2.Q).bind fun r3 =>
      if r3 = true then (
       (T.r06_SameFroms x1.Kids x2.Kids).bind fun r4 =>
       if r4 = true then (
        (T.r06_SameExprs x1.On x2.On).bind fun r5 =>
        r06_SameFroms_j2_b T a0 a1 a2 (!r5)
       ) else (
        r06_SameFroms_j2_b T a0 a1 a2 true
       )
      ) else (
       r06_SameFroms_j2_b T a0 a1 a2 true
      )
     ) else (
      r06_SameFroms_j2_b T a0 a1 a2 true
     )
    ) else (
     r06_SameFroms_j2_b T a0 a1 a2 true
    )
   ) else (
    r06_SameFroms_j2_b T a0 a1 a2 true
   )
  ) else (
   r06_SameFroms_j2_b T a0 a1 a2 true
  )
 ) else (
  some true
 )
noncomputable def r06_SameQueries_b (T : Tab_r06_SameExpr) (a0 a1 : List Query) : Option Bool :=
 if (a0.length : Int) = (a1.length : Int) then (
  T.r06_SameQueries_l1 a0 a1 0
 ) else (
  some false
 )
noncomputable def r06_SameQueries_l1_b (T : Tab_r06_SameExpr) (a0 a1 : List Query) (a2 : Int) : Option Bool :=
 if a2 < (a0.length : Int) then (
  (idx a0 a2).bind fun x1 =>
  (idx a1 a2).bind fun x2 =>
  (T.r06_SameQuery x1 x2).bind fun r3 =>
  if r3 = true then (
   T.r06_SameQueries_l1 a0 a1 (IntKind.i64.wrap (a2 + 1))
  ) else (
   some false
  )
 ) else (
  some true
 )
noncomputable def r06_SameQuery_j1_b (T : Tab_r06_SameExpr) (a0 a1 : Query) (a2 : Bool) : Option Bool :=
 if a2 = true then (
  some false
 ) else (
  T.r06_SameQuery_l2 a0 a1 0
 )
noncomputable def r06_SameQuery_b (T : Tab_r06_SameExpr) (a0 a1 : Query) : Option Bool :=
 if a0.Kind = a1.Kind then (
  if (a0.Distinct == a1.Distinct) = true then (
   if a0.Limit = a1.Limit then (
    if (a0.Items.length : Int) = (a1.Items.length : Int) then (
     r06_SameQuery_j1_b T a0 a1 (!(decide ((a0.Order.length : Int) = (a1.Order.length : Int))))
    ) else (
     r06_SameQuery_j1_b T a0 a1 true
    )
   ) else (
    r06_SameQuery_j1_b T a0 a1 true
   )
  ) else (
   r06_SameQuery_j1_b T a0 a1 true
  )
 ) else (
  r06_SameQuery_j1_b T a0 a1 true
 )
noncomputable def r06_SameQuery_j3_b (T : Tab_r06_SameExpr) (a0 a1 : Query) (a2 : Int) (a3 : Bool) : Option Bool :=
 if a3 = true then (
  some false
 ) else (
  T.r06_SameQuery_l2 a0 a1 (IntKind.i64.wrap (a2 + 1))
 )
noncomputable def r06_SameQuery_j5_b (T : Tab_r06_SameExpr) (a0 a1 : Query) (a2 : Int) (a3 : Bool) : Option Bool :=
 if a3 = true then (
  some false
 ) else (
  T.r06_SameQuery_l4 a0 a1 (IntKind.i64.wrap (a2 + 1))
 )
noncomputable def r06_SameQuery_l2_b (T : Tab_r06_SameExpr) (a0 a1 : Query) (a2 : Int) : Option Bool :=
 if a2 < (a0.Items.length : Int) then (
  (idx a0.Items a2).bind fun x1 =>
  (idx a1.Items a2).bind fun x2 =>
  if x1.Name = x2.Name then (
   (T.r06_SameExpr x1.E x2.E).bind fun r3 =>
   r06_SameQuery_j3_b T a0 a1 a2 (!r3)
  ) else (
   r06_SameQuery_j3_b T a0 a1 a2 true
  )
 ) else (
  T.r06_SameQuery_l4 a0 a1 0
 )
noncomputable def r06_SameQuery_l4_b (T : Tab_r06_SameExpr) (a0 a1 : Query) (a2 : Int) : Option Bool :=
 if a2 < (a0.Order.length : Int) then (
  (idx a0.Order a2).bind fun x1 =>
  (idx a1.Order a2).bind fun x2 =>
  if (x1.Desc == x2.Desc) = true then (
   (T.r06_SameExpr x1.E x2.E).bind fun r3 =>
   r06_SameQuery_j5_b T a0 a1 a2 (!r3)
  ) else (
   r06_SameQuery_j5_b T a0 a1 a2 true
  )
 ) else (
  (T.r06_SameFroms a0.From a1.From).bind fun r1 =>
  if r1 = true then (
   (T.r06_SameExprs a0.Where a1.Where).bind fun r2 =>
   if r2 = true then (
    (T.r06_SameExprs a0.Group a1.Group).bind fun r3 =>
    if r3 = true then (
     (T.r06_SameExprs a0.Having a1.Having).bind fun r4 =>
     if r4 = true then (
      (T.r06_SameQueries a0.Kids a1.Kids).bind fun r5 =>
      some r5
     ) else (
      some false
     )
    ) else (
     some false
    )
   ) else (
    some false
   )
  ) else (
   some false
  )
 )
noncomputable def tab_r06_SameExpr : Nat → Tab_r06_SameExpr
 | 0 => ⟨0, fun _ _ => none, fun _ _ => none, fun _ _ _ => none, fun _ _ => none, fun _ _ _ => none, fun _ _ => none, fun _ _ _ => none, fun _ _ => none, fun _ _ _ => none, fun _ _ _ => none⟩
 | k + 1 => ⟨k + 1, r06_SameExpr_b (tab_r06_SameExpr k), r06_SameExprs_b (tab_r06_SameExpr k), r06_SameExprs_l1_b (tab_r06_SameExpr k), r06_SameFroms_b (tab_r06_SameExpr k), r06_SameFroms_l1_b (tab_r06_SameExpr k), r06_SameQueries_b (tab_r06_SameExpr k), r06_SameQueries_l1_b (tab_r06_SameExpr k), r06_SameQuery_b (tab_r06_SameExpr k), r06_SameQuery_l2_b (tab_r06_SameExpr k), r06_SameQuery_l4_b (tab_r06_SameExpr k)⟩
noncomputable def r06_SameExpr (k : Nat) := (tab_r06_SameExpr k).r06_SameExpr
noncomputable def r06_SameExprs (k : Nat) := (tab_r06_SameExpr k).r06_SameExprs
noncomputable def r06_SameExprs_l1 (k : Nat) := (tab_r06_SameExpr k).r06_SameExprs_l1
noncomputable def r06_SameFroms (k : Nat) := (tab_r06_SameExpr k).r06_SameFroms
noncomputable def r06_SameFroms_l1 (k : Nat) := (tab_r06_SameExpr k).r06_SameFroms_l1
noncomputable def r06_SameQueries (k : Nat) := (tab_r06_SameExpr k).r06_SameQueries
noncomputable def r06_SameQueries_l1 (k : Nat) := (tab_r06_SameExpr k).r06_SameQueries_l1
noncomputable def r06_SameQuery (k : Nat) := (tab_r06_SameExpr k).r06_SameQuery
noncomputable def r06_SameQuery_l2 (k : Nat) := (tab_r06_SameExpr k).r06_SameQuery_l2
noncomputable def r06_SameQuery_l4 (k : Nat) := (tab_r06_SameExpr k).r06_SameQuery_l4
structure Ok_r06_SameExpr (m : Nat) : Prop where
 r06_SameExpr : Sd2 (tab_r06_SameExpr m).r06_SameExpr r06_SameExpr_J
 r06_SameExprs : Sd2 (tab_r06_SameExpr m).r06_SameExprs r06_SameExprs_J
 r06_SameExprs_l1 : Sd3 (tab_r06_SameExpr m).r06_SameExprs_l1 r06_SameExprs_l1_J
 r06_SameFroms : Sd2 (tab_r06_SameExpr m).r06_SameFroms r06_SameFroms_J
 r06_SameFroms_l1 : Sd3 (tab_r06_SameExpr m).r06_SameFroms_l1 r06_SameFroms_l1_J
 r06_SameQueries : Sd2 (tab_r06_SameExpr m).r06_SameQueries r06_SameQueries_J
 r06_SameQueries_l1 : Sd3 (tab_r06_SameExpr m).r06_SameQueries_l1 r06_SameQueries_l1_J
 r06_SameQuery : Sd2 (tab_r06_SameExpr m).r06_SameQuery r06_SameQuery_J
 r06_SameQuery_l2 : Sd3 (tab_r06_SameExpr m).r06_SameQuery_l2 r06_SameQuery_l2_J
 r06_SameQuery_l4 : Sd3 (tab_r06_SameExpr m).r06_SameQuery_l4 r06_SameQuery_l4_J
theorem r06_SameExpr_okb {m : Nat} (ih : Ok_r06_SameExpr m) : Sd2 (r06_SameExpr_b (tab_r06_SameExpr m)) r06_SameExpr_J := by
 intro a0 a1 r h
 unfold r06_SameExpr_b at h
 refine ent (c := bodyOf f6) func6 rfl rfl rfl fun cx => ?_
 obtain ⟨h1, h⟩ | ⟨h1, h⟩ := ite_some h
 · obtain ⟨h2, h⟩ | ⟨h2, h⟩ := ite_some h
   · obtain ⟨h3, h⟩ | ⟨h3, h⟩ := ite_some h
     · obtain ⟨h4, h⟩ | ⟨h4, h⟩ := ite_some h
       · obtain ⟨r1, h5, h⟩ := bs h fun _ => ih.r06_SameExprs
         obtain ⟨h6, h⟩ | ⟨h6, h⟩ := ite_some h
         · obtain ⟨r2, h7, h⟩ := bs h fun _ => ih.r06_SameQueries
           obtain rfl := Option.some.inj h
           exact rr 6 [(1, .reg [(31, cl [] h5), (38, cl [] h7)] [(5, .bool true), (12, .bool true), (19, .bool true), (26, .bool true), (33, .bool true)])] [] [] 0 [pf (dt h1), pf (dt h2), pf (dt h3), pf (dt h4), pf h5, pf (bt h6), pf h7]
         · obtain rfl := Option.some.inj h
           exact rr 6 [(1, .reg [(31, cl [] h5)] [(5, .bool true), (12, .bool true), (19, .bool true), (26, .bool true), (33, .bool false)])] [] [] 0 [pf (dt h1), pf (dt h2), pf (dt h3), pf (dt h4), pf h5, pf (bf h6)]
       · obtain rfl := Option.some.inj h
         exact rr 6 [(1, .reg [] [(5, .bool true), (12, .bool true), (19, .bool true), (26, .bool false)])] [] [] 0 [pf (dt h1), pf (dt h2), pf (dt h3), pf (df h4)]
     · obtain rfl := Option.some.inj h
       exact rr 6 [(1, .reg [] [(5, .bool true), (12, .bool true), (19, .bool false)])] [] [] 0 [pf (dt h1), pf (dt h2), pf (df h3)]
   · obtain rfl := Option.some.inj h
     exact rr 6 [(1, .reg [] [(5, .bool true), (12, .bool false)])] [] [] 0 [pf (dt h1), pf (df h2)]
 · obtain rfl := Option.some.inj h
   exact rr 6 [(1, .reg [] [(5, .bool false)])] [] [] 0 [pf (df h1)]
theorem r06_SameExprs_okb {m : Nat} (ih : Ok_r06_SameExpr m) : Sd2 (r06_SameExprs_b (tab_r06_SameExpr m)) r06_SameExprs_J := by
 intro a0 a1 r h
 unfold r06_SameExprs_b at h
 refine ent (c := bodyOf f12) func12 rfl rfl rfl fun cx => ?_
 obtain ⟨h1, h⟩ | ⟨h1, h⟩ := ite_some h
 · exact tt 12 [(1, .reg [] [(1, .one (.int .i64 (a0.length : Int))), (3, .one (.int .i64 (a1.length : Int)))]), (2, .br false)] [] [0, 1, 5] [] 0 [@pf (LenP (α := Expr) a0) (lenP _), @pf (LenP (α := Expr) a1) (lenP _), pf (ndf h1)] (ih.r06_SameExprs_l1 h cx)
 · obtain rfl := Option.some.inj h
   exact rr 10 [(1, .reg [] [(1, .one (.int .i64 (a0.length : Int))), (3, .one (.int .i64 (a1.length : Int)))]), (2, .br true)] [] [] 0 [@pf (LenP (α := Expr) a0) (lenP _), @pf (LenP (α := Expr) a1) (lenP _), pf (ndt h1)]
theorem r06_SameExprs_l1_okb {m : Nat} (ih : Ok_r06_SameExpr m) : Sd3 (r06_SameExprs_l1_b (tab_r06_SameExpr m)) r06_SameExprs_l1_J := by
 intro a0 a1 a2 r h cx
 unfold r06_SameExprs_l1_b at h
 obtain ⟨h1, h⟩ | ⟨h1, h⟩ := ite_some h
 · obtain ⟨x1, h2, h⟩ := bind_some h
   obtain ⟨x2, h3, h⟩ := bind_some h
   obtain ⟨r3, h4, h⟩ := bs h fun _ => ih.r06_SameExpr
   obtain ⟨h5, h⟩ | ⟨h5, h⟩ := ite_some h
   · exact tt 14 [(0, .reg [] [(2, .one (.int .i64 (a0.length : Int)))]), (1, .br true), (2, .reg [(3, .row (Row.cells x1)), (7, .row (Row.cells x2)), (8, cl [] h4)] []), (3, .br false)] [] [0, 1, 5] [] 0 [@pf (LenP (α := Expr) a0) (lenP _), pf (dt h1), pf (inP h2), pf (atP h2), pf (inP h3), pf (atP h3), pf h4, pf (nbf h5)] (ih.r06_SameExprs_l1 h cx)
   · obtain rfl := Option.some.inj h
     exact rr 14 [(0, .reg [] [(2, .one (.int .i64 (a0.length : Int)))]), (1, .br true), (2, .reg [(3, .row (Row.cells x1)), (7, .row (Row.cells x2)), (8, cl [] h4)] []), (3, .br true)] [] [] 0 [@pf (LenP (α := Expr) a0) (lenP _), pf (dt h1), pf (inP h2), pf (atP h2), pf (inP h3), pf (atP h3), pf h4, pf (nbt h5)]
 · obtain rfl := Option.some.inj h
   exact rr 9 [(0, .reg [] [(2, .one (.int .i64 (a0.length : Int)))]), (1, .br false)] [] [] 0 [@pf (LenP (α := Expr) a0) (lenP _), pf (df h1)]
theorem r06_SameFroms_okb {m : Nat} (ih : Ok_r06_SameExpr m) : Sd2 (r06_SameFroms_b (tab_r06_SameExpr m)) r06_SameFroms_J := by
 intro a0 a1 r h
 unfold r06_SameFroms_b at h
 refine ent (c := bodyOf f43) func43 rfl rfl rfl fun cx => ?_
 obtain ⟨h1, h⟩ | ⟨h1, h⟩ := ite_some h
 · exact tt 12 [(1, .reg [] [(1, .one (.int .i64 (a0.length : Int))), (3, .one (.int .i64 (a1.length : Int)))]), (2, .br false)] [] [0, 1, 5] [] 0 [@pf (LenP (α := From) a0) (lenP _), @pf (LenP (α := From) a1) (lenP _), pf (ndf h1)] (ih.r06_SameFroms_l1 h cx)
 · obtain rfl := Option.some.inj h
   exact rr 10 [(1, .reg [] [(1, .one (.int .i64 (a0.length : Int))), (3, .one (.int .i64 (a1.length : Int)))]), (2, .br true)] [] [] 0 [@pf (LenP (α := From) a0) (lenP _), @pf (LenP (α := From) a1) (lenP _), pf (ndt h1)]
theorem r06_SameFroms_j2_okb {m : Nat} (ih : Ok_r06_SameExpr m) : Sd4 (r06_SameFroms_j2_b (tab_r06_SameExpr m)) r06_SameFroms_j2_J := by
 intro a0 a1 a2 a3 r h cx
 unfold r06_SameFroms_j2_b at h
 obtain ⟨h1, h⟩ | ⟨h1, h⟩ := ite_some h
 · obtain rfl := Option.some.inj h
   exact rr 5 [(0, .br true)] [] [] 0 [pf (bt h1)]
 · exact tt 5 [(0, .br false)] [] [0, 1, 5] [] 0 [pf (bf h1)] (ih.r06_SameFroms_l1 h cx)
theorem r06_SameFroms_l1_okb {m : Nat} (ih : Ok_r06_SameExpr m) : Sd3 (r06_SameFroms_l1_b (tab_r06_SameExpr m)) r06_SameFroms_l1_J := by
 intro a0 a1 a2 r h cx
 unfold r06_SameFroms_l1_b at h
 obtain ⟨h1, h⟩ | ⟨h1, h⟩ := ite_some h
 · obtain ⟨x1, h2, h⟩ := bind_some h
   obtain ⟨x2, h3, h⟩ := bind_some h
   obtain ⟨h4, h⟩ | ⟨h4, h⟩ := ite_some h
   · obtain ⟨h5, h⟩ | ⟨h5, h⟩ := ite_some h
     · obtain ⟨h6, h⟩ | ⟨h6, h⟩ := ite_some h
       · obtain ⟨h7, h⟩ | ⟨h7, h⟩ := ite_some h
         · obtain ⟨r3, h8, h⟩ := bs h fun _ => ih.r06_SameQueries
           obtain ⟨h9, h⟩ | ⟨h9, h⟩ := ite_some h
           · obtain ⟨r4, h10, h⟩ := bs h fun _ => ih.r06_SameFroms
             obtain ⟨h11, h⟩ | ⟨h11, h⟩ := ite_some h
             · obtain ⟨r5, h12, h⟩ := bs h fun _ => ih.r06_SameExprs
               exact tt 11 [(0, .reg [] [(2, .one (.int .i64 (a0.length : Int)))]), (1, .br true), (2, .reg [(3, .row (Row.cells x1)), (7, .row (Row.cells x2))] []), (3, .reg [(31, cl [] h8), (39, cl [] h10), (47, cl [] h12)] [(5, .bool false), (12, .bool false), (19, .bool false), (26, .bool false), (34, .bool false), (42, .bool false)])] [] [0, 1, 5, 76] [] 0 [@pf (LenP (α := From) a0) (lenP _), pf (dt h1), pf (inP h2), pf (atP h2), pf (inP h3), pf (atP h3), pf (ndf h4), pf (ndf h5), pf (nbf h6), pf (ndf h7), pf h8, pf (nbf h9), pf h10, pf (nbf h11), pf h12] (r06_SameFroms_j2_okb ih h cx)
             · exact tt 11 [(0, .reg [] [(2, .one (.int .i64 (a0.length : Int)))]), (1, .br true), (2, .reg [(3, .row (Row.cells x1)), (7, .row (Row.cells x2))] []), (3, .reg [(31, cl [] h8), (39, cl [] h10)] [(5, .bool false), (12, .bool false), (19, .bool false), (26, .bool false), (34, .bool false), (42, .bool true)])] [] [0, 1, 5, 76] [] 0 [@pf (LenP (α := From) a0) (lenP _), pf (dt h1), pf (inP h2), pf (atP h2), pf (inP h3), pf (atP h3), pf (ndf h4), pf (ndf h5), pf (nbf h6), pf (ndf h7), pf h8, pf (nbf h9), pf h10, pf (nbt h11)] (r06_SameFroms_j2_okb ih h cx)
           · exact tt 11 [(0, .reg [] [(2, .one (.int .i64 (a0.length : Int)))]), (1, .br true), (2, .reg [(3, .row (Row.cells x1)), (7, .row (Row.cells x2))] []), (3, .reg [(31, cl [] h8)] [(5, .bool false), (12, .bool false), (19, .bool false), (26, .bool false), (34, .bool true)])] [] [0, 1, 5, 76] [] 0 [@pf (LenP (α := From) a0) (lenP _), pf (dt h1), pf (inP h2), pf (atP h2), pf (inP h3), pf (atP h3), pf (ndf h4), pf (ndf h5), pf (nbf h6), pf (ndf h7), pf h8, pf (nbt h9)] (r06_SameFroms_j2_okb ih h cx)
         · exact tt 11 [(0, .reg [] [(2, .one (.int .i64 (a0.length : Int)))]), (1, .br true), (2, .reg [(3, .row (Row.cells x1)), (7, .row (Row.cells x2))] []), (3, .reg [] [(5, .bool false), (12, .bool false), (19, .bool false), (26, .bool true)])] [] [0, 1, 5, 76] [] 0 [@pf (LenP (α := From) a0) (lenP _), pf (dt h1), pf (inP h2), pf (atP h2), pf (inP h3), pf (atP h3), pf (ndf h4), pf (ndf h5), pf (nbf h6), pf (ndt h7)] (r06_SameFroms_j2_okb ih h cx)
       · exact tt 11 [(0, .reg [] [(2, .one (.int .i64 (a0.length : Int)))]), (1, .br true), (2, .reg [(3, .row (Row.cells x1)), (7, .row (Row.cells x2))] []), (3, .reg [] [(5, .bool false), (12, .bool false), (19, .bool true)])] [] [0, 1, 5, 76] [] 0 [@pf (LenP (α := From) a0) (lenP _), pf (dt h1), pf (inP h2), pf (atP h2), pf (inP h3), pf (atP h3), pf (ndf h4), pf (ndf h5), pf (nbt h6)] (r06_SameFroms_j2_okb ih h cx)
     · exact tt 11 [(0, .reg [] [(2, .one (.int .i64 (a0.length : Int)))]), (1, .br true), (2, .reg [(3, .row (Row.cells x1)), (7, .row (Row.cells x2))] []), (3, .reg [] [(5, .bool false), (12, .bool true)])] [] [0, 1, 5, 76] [] 0 [@pf (LenP (α := From) a0) (lenP _), pf (dt h1), pf (inP h2), pf (atP h2), pf (inP h3), pf (atP h3), pf (ndf h4), pf (ndt h5)] (r06_SameFroms_j2_okb ih h cx)
   · exact tt 11 [(0, .reg [] [(2, .one (.int .i64 (a0.length : Int)))]), (1, .br true), (2, .reg [(3, .row (Row.cells x1)), (7, .row (Row.cells x2))] []), (3, .reg [] [(5, .bool true)])] [] [0, 1, 5, 76] [] 0 [@pf (LenP (α := From) a0) (lenP _), pf (dt h1), pf (inP h2), pf (atP h2), pf (inP h3), pf (atP h3), pf (ndt h4)] (r06_SameFroms_j2_okb ih h cx)
 · obtain rfl := Option.some.inj h
   exact rr 9 [(0, .reg [] [(2, .one (.int .i64 (a0.length : Int)))]), (1, .br false)] [] [] 0 [@pf (LenP (α := From) a0) (lenP _), pf (df h1)]
theorem r06_SameQueries_okb {m : Nat} (ih : Ok_r06_SameExpr m) : Sd2 (r06_SameQueries_b (tab_r06_SameExpr m)) r06_SameQueries_J := by
 intro a0 a1 r h
 unfold r06_SameQueries_b at h
 refine ent (c := bodyOf f13) func13 rfl rfl rfl fun cx => ?_
 obtain ⟨h1, h⟩ | ⟨h1, h⟩ := ite_some h
 · exact tt 12 [(1, .reg [] [(1, .one (.int .i64 (a0.length : Int))), (3, .one (.int .i64 (a1.length : Int)))]), (2, .br false)] [] [0, 1, 5] [] 0 [@pf (LenP (α := Query) a0) (lenP _), @pf (LenP (α := Query) a1) (lenP _), pf (ndf h1)] (ih.r06_SameQueries_l1 h cx)
 · obtain rfl := Option.some.inj h
   exact rr 10 [(1, .reg [] [(1, .one (.int .i64 (a0.length : Int))), (3, .one (.int .i64 (a1.length : Int)))]), (2, .br true)] [] [] 0 [@pf (LenP (α := Query) a0) (lenP _), @pf (LenP (α := Query) a1) (lenP _), pf (ndt h1)]
theorem r06_SameQueries_l1_okb {m : Nat} (ih : Ok_r06_SameExpr m) : Sd3 (r06_SameQueries_l1_b (tab_r06_SameExpr m)) r06_SameQueries_l1_J := by
 intro a0 a1 a2 r h cx
 unfold r06_SameQueries_l1_b at h
 obtain ⟨h1, h⟩ | ⟨h1, h⟩ := ite_some h
 · obtain ⟨x1, h2, h⟩ := bind_some h
   obtain ⟨x2, h3, h⟩ := bind_some h
   obtain ⟨r3, h4, h⟩ := bs h fun _ => ih.r06_SameQuery
   obtain ⟨h5, h⟩ | ⟨h5, h⟩ := ite_some h
   · exact tt 14 [(0, .reg [] [(2, .one (.int .i64 (a0.length : Int)))]), (1, .br true), (2, .reg [(3, .row (Row.cells x1)), (7, .row (Row.cells x2)), (8, cl [] h4)] []), (3, .br false)] [] [0, 1, 5] [] 0 [@pf (LenP (α := Query) a0) (lenP _), pf (dt h1), pf (inP h2), pf (atP h2), pf (inP h3), pf (atP h3), pf h4, pf (nbf h5)] (ih.r06_SameQueries_l1 h cx)
   · obtain rfl := Option.some.inj h
     exact rr 14 [(0, .reg [] [(2, .one (.int .i64 (a0.length : Int)))]), (1, .br true), (2, .reg [(3, .row (Row.cells x1)), (7, .row (Row.cells x2)), (8, cl [] h4)] []), (3, .br true)] [] [] 0 [@pf (LenP (α := Query) a0) (lenP _), pf (dt h1), pf (inP h2), pf (atP h2), pf (inP h3), pf (atP h3), pf h4, pf (nbt h5)]
 · obtain rfl := Option.some.inj h
   exact rr 9 [(0, .reg [] [(2, .one (.int .i64 (a0.length : Int)))]), (1, .br false)] [] [] 0 [@pf (LenP (α := Query) a0) (lenP _), pf (df h1)]
theorem r06_SameQuery_j1_okb {m : Nat} (ih : Ok_r06_SameExpr m) : Sd3 (r06_SameQuery_j1_b (tab_r06_SameExpr m)) r06_SameQuery_j1_J := by
 intro a0 a1 a2 r h cx
 unfold r06_SameQuery_j1_b at h
 obtain ⟨h1, h⟩ | ⟨h1, h⟩ := ite_some h
 · obtain rfl := Option.some.inj h
   exact rr 5 [(0, .br true)] [] [] 0 [pf (bt h1)]
 · exact tt 7 [(0, .br false)] [] [2, 3, 5] [(0, 0), (1, 1)] 2 [pf (bf h1)] (ih.r06_SameQuery_l2 h cx)
theorem r06_SameQuery_okb {m : Nat} (ih : Ok_r06_SameExpr m) : Sd2 (r06_SameQuery_b (tab_r06_SameExpr m)) r06_SameQuery_J := by
 intro a0 a1 r h
 unfold r06_SameQuery_b at h
 refine ent (c := bodyOf f29) func29 rfl rfl rfl fun cx => ?_
 obtain ⟨h1, h⟩ | ⟨h1, h⟩ := ite_some h
 · obtain ⟨h2, h⟩ | ⟨h2, h⟩ := ite_some h
   · obtain ⟨h3, h⟩ | ⟨h3, h⟩ := ite_some h
     · obtain ⟨h4, h⟩ | ⟨h4, h⟩ := ite_some h
       · exact tt 5 [(1, .reg [] [(5, .bool false), (12, .bool false), (19, .bool false), (22, .one (.int .i64 (a0.Items.length : Int))), (25, .one (.int .i64 (a1.Items.length : Int))), (28, .bool false), (31, .one (.int .i64 (a0.Order.length : Int))), (34, .one (.int .i64 (a1.Order.length : Int)))])] [] [2, 3, 43] [(0, 0), (16, 1)] 2 [pf (ndf h1), pf (nbf h2), pf (ndf h3), @pf (LenP (α := ItemT) a0.Items) (lenP _), @pf (LenP (α := ItemT) a1.Items) (lenP _), pf (ndf h4), @pf (LenP (α := Key) a0.Order) (lenP _), @pf (LenP (α := Key) a1.Order) (lenP _)] (r06_SameQuery_j1_okb ih h cx)
       · exact tt 5 [(1, .reg [] [(5, .bool false), (12, .bool false), (19, .bool false), (22, .one (.int .i64 (a0.Items.length : Int))), (25, .one (.int .i64 (a1.Items.length : Int))), (28, .bool true)])] [] [2, 3, 43] [(0, 0), (16, 1)] 2 [pf (ndf h1), pf (nbf h2), pf (ndf h3), @pf (LenP (α := ItemT) a0.Items) (lenP _), @pf (LenP (α := ItemT) a1.Items) (lenP _), pf (ndt h4)] (r06_SameQuery_j1_okb ih h cx)
     · exact tt 5 [(1, .reg [] [(5, .bool false), (12, .bool false), (19, .bool true)])] [] [2, 3, 43] [(0, 0), (16, 1)] 2 [pf (ndf h1), pf (nbf h2), pf (ndt h3)] (r06_SameQuery_j1_okb ih h cx)
   · exact tt 5 [(1, .reg [] [(5, .bool false), (12, .bool true)])] [] [2, 3, 43] [(0, 0), (16, 1)] 2 [pf (ndf h1), pf (nbt h2)] (r06_SameQuery_j1_okb ih h cx)
 · exact tt 5 [(1, .reg [] [(5, .bool true)])] [] [2, 3, 43] [(0, 0), (16, 1)] 2 [pf (ndt h1)] (r06_SameQuery_j1_okb ih h cx)
theorem r06_SameQuery_j3_okb {m : Nat} (ih : Ok_r06_SameExpr m) : Sd4 (r06_SameQuery_j3_b (tab_r06_SameExpr m)) r06_SameQuery_j3_J := by
 intro a0 a1 a2 a3 r h cx
 unfold r06_SameQuery_j3_b at h
 obtain ⟨h1, h⟩ | ⟨h1, h⟩ := ite_some h
 · obtain rfl := Option.some.inj h
   exact rr 5 [(0, .br true)] [] [] 0 [pf (bt h1)]
 · exact tt 5 [(0, .br false)] [] [2, 3, 5] [(0, 0), (1, 1)] 2 [pf (bf h1)] (ih.r06_SameQuery_l2 h cx)
theorem r06_SameQuery_j5_okb {m : Nat} (ih : Ok_r06_SameExpr m) : Sd4 (r06_SameQuery_j5_b (tab_r06_SameExpr m)) r06_SameQuery_j5_J := by
 intro a0 a1 a2 a3 r h cx
 unfold r06_SameQuery_j5_b at h
 obtain ⟨h1, h⟩ | ⟨h1, h⟩ := ite_some h
 · obtain rfl := Option.some.inj h
   exact rr 5 [(0, .br true)] [] [] 0 [pf (bt h1)]
 · exact tt 5 [(0, .br false)] [] [2, 3, 6] [(0, 0), (1, 1)] 2 [pf (bf h1)] (ih.r06_SameQuery_l4 h cx)
theorem r06_SameQuery_l2_okb {m : Nat} (ih : Ok_r06_SameExpr m) : Sd3 (r06_SameQuery_l2_b (tab_r06_SameExpr m)) r06_SameQuery_l2_J := by
 intro a0 a1 a2 r h cx
 unfold r06_SameQuery_l2_b at h
 obtain ⟨h1, h⟩ | ⟨h1, h⟩ := ite_some h
 · obtain ⟨x1, h2, h⟩ := bind_some h
   obtain ⟨x2, h3, h⟩ := bind_some h
   obtain ⟨h4, h⟩ | ⟨h4, h⟩ := ite_some h
   · obtain ⟨r3, h5, h⟩ := bs h fun _ => ih.r06_SameExpr
     exact tt 9 [(0, .reg [] [(3, .one (.int .i64 (a0.Items.length : Int)))]), (1, .br true), (2, .reg [(5, .row (Row.cells x1)), (11, .row (Row.cells x2)), (19, .row (Row.cells x1)), (25, .row (Row.cells x2)), (26, cl [] h5)] [(13, .bool false)])] [] [2, 3, 5, 79] [(0, 0), (1, 1)] 2 [@pf (LenP (α := ItemT) a0.Items) (lenP _), pf (dt h1), pf (inP h2), pf (atP h2), pf (inP h3), pf (atP h3), pf (ndf h4), pf (inP h2), pf (atP h2), pf (inP h3), pf (atP h3), pf h5] (r06_SameQuery_j3_okb ih h cx)
   · exact tt 9 [(0, .reg [] [(3, .one (.int .i64 (a0.Items.length : Int)))]), (1, .br true), (2, .reg [(5, .row (Row.cells x1)), (11, .row (Row.cells x2))] [(13, .bool true)])] [] [2, 3, 5, 79] [(0, 0), (1, 1)] 2 [@pf (LenP (α := ItemT) a0.Items) (lenP _), pf (dt h1), pf (inP h2), pf (atP h2), pf (inP h3), pf (atP h3), pf (ndt h4)] (r06_SameQuery_j3_okb ih h cx)
 · exact tt 10 [(0, .reg [] [(3, .one (.int .i64 (a0.Items.length : Int)))]), (1, .br false)] [] [2, 3, 6] [(0, 0), (1, 1)] 2 [@pf (LenP (α := ItemT) a0.Items) (lenP _), pf (df h1)] (ih.r06_SameQuery_l4 h cx)
theorem r06_SameQuery_l4_okb {m : Nat} (ih : Ok_r06_SameExpr m) : Sd3 (r06_SameQuery_l4_b (tab_r06_SameExpr m)) r06_SameQuery_l4_J := by
 intro a0 a1 a2 r h cx
 unfold r06_SameQuery_l4_b at h
 obtain ⟨h1, h⟩ | ⟨h1, h⟩ := ite_some h
 · obtain ⟨x1, h2, h⟩ := bind_some h
   obtain ⟨x2, h3, h⟩ := bind_some h
   obtain ⟨h4, h⟩ | ⟨h4, h⟩ := ite_some h
   · obtain ⟨r3, h5, h⟩ := bs h fun _ => ih.r06_SameExpr
     exact tt 9 [(0, .reg [] [(3, .one (.int .i64 (a0.Order.length : Int)))]), (1, .br true), (2, .reg [(5, .row (Row.cells x1)), (11, .row (Row.cells x2)), (19, .row (Row.cells x1)), (25, .row (Row.cells x2)), (26, cl [] h5)] [(13, .bool false)])] [] [2, 3, 6, 115] [(0, 0), (1, 1)] 2 [@pf (LenP (α := Key) a0.Order) (lenP _), pf (dt h1), pf (inP h2), pf (atP h2), pf (inP h3), pf (atP h3), pf (nbf h4), pf (inP h2), pf (atP h2), pf (inP h3), pf (atP h3), pf h5] (r06_SameQuery_j5_okb ih h cx)
   · exact tt 9 [(0, .reg [] [(3, .one (.int .i64 (a0.Order.length : Int)))]), (1, .br true), (2, .reg [(5, .row (Row.cells x1)), (11, .row (Row.cells x2))] [(13, .bool true)])] [] [2, 3, 6, 115] [(0, 0), (1, 1)] 2 [@pf (LenP (α := Key) a0.Order) (lenP _), pf (dt h1), pf (inP h2), pf (atP h2), pf (inP h3), pf (atP h3), pf (nbt h4)] (r06_SameQuery_j5_okb ih h cx)
 · obtain ⟨r1, h2, h⟩ := bs h fun _ => ih.r06_SameFroms
   obtain ⟨h3, h⟩ | ⟨h3, h⟩ := ite_some h
   · obtain ⟨r2, h4, h⟩ := bs h fun _ => ih.r06_SameExprs
     obtain ⟨h5, h⟩ | ⟨h5, h⟩ := ite_some h
     · obtain ⟨r3, h6, h⟩ := bs h fun _ => ih.r06_SameExprs
       obtain ⟨h7, h⟩ | ⟨h7, h⟩ := ite_some h
       · obtain ⟨r4, h8, h⟩ := bs h fun _ => ih.r06_SameExprs
         obtain ⟨h9, h⟩ | ⟨h9, h⟩ := ite_some h
         · obtain ⟨r5, h10, h⟩ := bs h fun _ => ih.r06_SameQueries
           obtain rfl := Option.some.inj h
           exact rr 9 [(0, .reg [] [(3, .one (.int .i64 (a0.Order.length : Int)))]), (1, .br false), (2, .reg [(4, cl [] h2), (10, cl [] h4), (17, cl [] h6), (24, cl [] h8), (31, cl [] h10)] [(5, .bool true), (12, .bool true), (19, .bool true), (26, .bool true)])] [] [] 0 [@pf (LenP (α := Key) a0.Order) (lenP _), pf (df h1), pf h2, pf (bt h3), pf h4, pf (bt h5), pf h6, pf (bt h7), pf h8, pf (bt h9), pf h10]
         · obtain rfl := Option.some.inj h
           exact rr 9 [(0, .reg [] [(3, .one (.int .i64 (a0.Order.length : Int)))]), (1, .br false), (2, .reg [(4, cl [] h2), (10, cl [] h4), (17, cl [] h6), (24, cl [] h8)] [(5, .bool true), (12, .bool true), (19, .bool true), (26, .bool false)])] [] [] 0 [@pf (LenP (α := Key) a0.Order) (lenP _), pf (df h1), pf h2, pf (bt h3), pf h4, pf (bt h5), pf h6, pf (bt h7), pf h8, pf (bf h9)]
       · obtain rfl := Option.some.inj h
         exact rr 9 [(0, .reg [] [(3, .one (.int .i64 (a0.Order.length : Int)))]), (1, .br false), (2, .reg [(4, cl [] h2), (10, cl [] h4), (17, cl [] h6)] [(5, .bool true), (12, .bool true), (19, .bool false)])] [] [] 0 [@pf (LenP (α := Key) a0.Order) (lenP _), pf (df h1), pf h2, pf (bt h3), pf h4, pf (bt h5), pf h6, pf (bf h7)]
     · obtain rfl := Option.some.inj h
       exact rr 9 [(0, .reg [] [(3, .one (.int .i64 (a0.Order.length : Int)))]), (1, .br false), (2, .reg [(4, cl [] h2), (10, cl [] h4)] [(5, .bool true), (12, .bool false)])] [] [] 0 [@pf (LenP (α := Key) a0.Order) (lenP _), pf (df h1), pf h2, pf (bt h3), pf h4, pf (bf h5)]
   · obtain rfl := Option.some.inj h
     exact rr 9 [(0, .reg [] [(3, .one (.int .i64 (a0.Order.length : Int)))]), (1, .br false), (2, .reg [(4, cl [] h2)] [(5, .bool false)])] [] [] 0 [@pf (LenP (α := Key) a0.Order) (lenP _), pf (df h1), pf h2, pf (bf h3)]
theorem ok_r06_SameExpr : ∀ m, Ok_r06_SameExpr m
 | 0 => ⟨(fun h => nomatch (show none = some _ from h)), (fun h => nomatch (show none = some _ from h)), (fun h => nomatch (show none = some _ from h)), (fun h => nomatch (show none = some _ from h)), (fun h => nomatch (show none = some _ from h)), (fun h => nomatch (show none = some _ from h)), (fun h => nomatch (show none = some _ from h)), (fun h => nomatch (show none = some _ from h)), (fun h => nomatch (show none = some _ from h)), (fun h => nomatch (show none = some _ from h))⟩
 | m + 1 => ⟨r06_SameExpr_okb (ok_r06_SameExpr m), r06_SameExprs_okb (ok_r06_SameExpr m), r06_SameExprs_l1_okb (ok_r06_SameExpr m), r06_SameFroms_okb (ok_r06_SameExpr m), r06_SameFroms_l1_okb (ok_r06_SameExpr m), r06_SameQueries_okb (ok_r06_SameExpr m), r06_SameQueries_l1_okb (ok_r06_SameExpr m), r06_SameQuery_okb (ok_r06_SameExpr m), r06_SameQuery_l2_okb (ok_r06_SameExpr m), r06_SameQuery_l4_okb (ok_r06_SameExpr m)⟩
theorem r06_SameExpr_ok {k : Nat} : Sd2 (r06_SameExpr k) r06_SameExpr_J := (ok_r06_SameExpr k).r06_SameExpr
theorem r06_SameExprs_ok {k : Nat} : Sd2 (r06_SameExprs k) r06_SameExprs_J := (ok_r06_SameExpr k).r06_SameExprs
theorem r06_SameExprs_l1_ok {k : Nat} : Sd3 (r06_SameExprs_l1 k) r06_SameExprs_l1_J := (ok_r06_SameExpr k).r06_SameExprs_l1
theorem r06_SameFroms_ok {k : Nat} : Sd2 (r06_SameFroms k) r06_SameFroms_J := (ok_r06_SameExpr k).r06_SameFroms
theorem r06_SameFroms_l1_ok {k : Nat} : Sd3 (r06_SameFroms_l1 k) r06_SameFroms_l1_J := (ok_r06_SameExpr k).r06_SameFroms_l1
theorem r06_SameQueries_ok {k : Nat} : Sd2 (r06_SameQueries k) r06_SameQueries_J := (ok_r06_SameExpr k).r06_SameQueries
theorem r06_SameQueries_l1_ok {k : Nat} : Sd3 (r06_SameQueries_l1 k) r06_SameQueries_l1_J := (ok_r06_SameExpr k).r06_SameQueries_l1
theorem r06_SameQuery_ok {k : Nat} : Sd2 (r06_SameQuery k) r06_SameQuery_J := (ok_r06_SameExpr k).r06_SameQuery
theorem r06_SameQuery_l2_ok {k : Nat} : Sd3 (r06_SameQuery_l2 k) r06_SameQuery_l2_J := (ok_r06_SameExpr k).r06_SameQuery_l2
theorem r06_SameQuery_l4_ok {k : Nat} : Sd3 (r06_SameQuery_l4 k) r06_SameQuery_l4_J := (ok_r06_SameExpr k).r06_SameQuery_l4

noncomputable def l06_SyntaxRound_O (a0 : Bool) : List O := []
noncomputable def l06_SyntaxRound_V (a0 : Bool) : V := .one (.bool a0)
noncomputable def l06_SyntaxRound_J (a0 : Str) (r : Bool) : Prop := Has prog 3 [.one (.str a0)] [] (l06_SyntaxRound_O r) (l06_SyntaxRound_V r)
noncomputable def l06_SyntaxRound (k : Nat) (a0 : Str) : Option Bool :=
 if 9000 < (a0.length : Int) then (
  (l06_alive k).bind fun r1 =>
  some r1
 ) else (
  (syntax_Expr k a0).bind fun (r1, r2, r3) =>
  chk (s_x28.length + a0.length ≤ 9223372036854775807) <|
  chk ((s_x28 ++ a0).length + s_x0ax29.length ≤ 9223372036854775807) <|
  (syntax_Expr k ((s_x28 ++ a0) ++ s_x0ax29)).bind fun (r4, r5, r6) =>
  if r3 = 0 then (
   if r6 = 9 then (
    (l06_alive k).bind fun r7 =>
    some r7
   ) else (
    if r6 = 8 then (
     (l06_alive k).bind fun r7 =>
     some r7
    ) else (
     if r6 = 0 then (
      (r06_SameExpr k r1 r4).bind fun r7 =>
      if r7 = true then (
       (l06_alive k).bind fun r8 =>
       some r8
      ) else (
       some false
      )
     ) else (
      some false
     )
    )
   )
  ) else (
   (l06_alive k).bind fun r7 =>
   some r7
  )
 )
theorem l06_SyntaxRound_ok {k : Nat} : Sd1 (l06_SyntaxRound k) l06_SyntaxRound_J := by
 intro a0 r h
 unfold l06_SyntaxRound at h
 refine ent (c := bodyOf f3) func3 rfl rfl rfl fun cx => ?_
 obtain ⟨h1, h⟩ | ⟨h1, h⟩ := ite_some h
 · obtain ⟨r1, h2, h⟩ := bs h fun _ => l06_alive_ok
   obtain rfl := Option.some.inj h
   exact rr 10 [(2, .br true), (3, .reg [(0, cl [] h2)] [])] [] [] 0 [pf (dt h1), pf h2]
 · obtain ⟨⟨r1, r2, r3⟩, h2, h⟩ := bs h fun _ => syntax_Expr_ok
   obtain ⟨h3, h⟩ := chk_some h
   obtain ⟨h4, h⟩ := chk_some h
   obtain ⟨⟨r4, r5, r6⟩, h5, h⟩ := bs h fun _ => syntax_Expr_ok
   obtain ⟨h6, h⟩ | ⟨h6, h⟩ := ite_some h
   · obtain ⟨h7, h⟩ | ⟨h7, h⟩ := ite_some h
     · obtain ⟨r7, h8, h⟩ := bs h fun _ => l06_alive_ok
       obtain rfl := Option.some.inj h
       exact rr 19 [(2, .br false), (3, .reg [(1, cl [] h2)] []), (4, .reg [(3, cl [] h5)] []), (5, .reg [] [(2, .bool false), (6, .bool true)]), (7, .reg [(0, cl [] h8)] [])] [] [] 0 [pf (df h1), pf h2, pf h3, pf h4, pf h5, pf (ndf h6), pf (dt h7), pf h8]
     · obtain ⟨h8, h⟩ | ⟨h8, h⟩ := ite_some h
       · obtain ⟨r7, h9, h⟩ := bs h fun _ => l06_alive_ok
         obtain rfl := Option.some.inj h
         exact rr 19 [(2, .br false), (3, .reg [(1, cl [] h2)] []), (4, .reg [(3, cl [] h5)] []), (5, .reg [] [(2, .bool false), (6, .bool false)]), (6, .br true), (7, .reg [(0, cl [] h9)] [])] [] [] 0 [pf (df h1), pf h2, pf h3, pf h4, pf h5, pf (ndf h6), pf (df h7), pf (dt h8), pf h9]
       · obtain ⟨h9, h⟩ | ⟨h9, h⟩ := ite_some h
         · obtain ⟨r7, h10, h⟩ := bs h fun _ => r06_SameExpr_ok
           obtain ⟨h11, h⟩ | ⟨h11, h⟩ := ite_some h
           · obtain ⟨r8, h12, h⟩ := bs h fun _ => l06_alive_ok
             obtain rfl := Option.some.inj h
             exact rr 20 [(2, .br false), (3, .reg [(1, cl [] h2)] []), (4, .reg [(3, cl [] h5)] []), (5, .reg [] [(2, .bool false), (6, .bool false)]), (6, .br false), (7, .reg [(5, cl [] h10), (8, cl [] h12)] [(2, .bool true), (7, .bool true)])] [] [] 0 [pf (df h1), pf h2, pf h3, pf h4, pf h5, pf (ndf h6), pf (df h7), pf (df h8), pf (dt h9), pf h10, pf (bt h11), pf h12]
           · obtain rfl := Option.some.inj h
             exact rr 20 [(2, .br false), (3, .reg [(1, cl [] h2)] []), (4, .reg [(3, cl [] h5)] []), (5, .reg [] [(2, .bool false), (6, .bool false)]), (6, .br false), (7, .reg [(5, cl [] h10)] [(2, .bool true), (7, .bool false)])] [] [] 0 [pf (df h1), pf h2, pf h3, pf h4, pf h5, pf (ndf h6), pf (df h7), pf (df h8), pf (dt h9), pf h10, pf (bf h11)]
         · obtain rfl := Option.some.inj h
           exact rr 20 [(2, .br false), (3, .reg [(1, cl [] h2)] []), (4, .reg [(3, cl [] h5)] []), (5, .reg [] [(2, .bool false), (6, .bool false)]), (6, .br false), (7, .reg [] [(2, .bool false)])] [] [] 0 [pf (df h1), pf h2, pf h3, pf h4, pf h5, pf (ndf h6), pf (df h7), pf (df h8), pf (df h9)]
   · obtain ⟨r7, h7, h⟩ := bs h fun _ => l06_alive_ok
     obtain rfl := Option.some.inj h
     exact rr 19 [(2, .br false), (3, .reg [(1, cl [] h2)] []), (4, .reg [(3, cl [] h5)] []), (5, .reg [] [(2, .bool true)]), (7, .reg [(0, cl [] h7)] [])] [] [] 0 [pf (df h1), pf h2, pf h3, pf h4, pf h5, pf (ndt h6), pf h7]

noncomputable def tr_pass_O (a0 : Str) (a1 : Int) : List O := [.var 78 [.str a0, .int .i64 a1, .nil 4]]
noncomputable def tr_pass_V (a0 : Str) (a1 : Int) : V := .tup []
noncomputable def tr_pass_J (a0 : Str) (a1 : Int) (r : Int) : Prop := Has prog 35 [.one (.ptr 0 0)] [.var 78 [.str a0, .int .i64 a1, .nil 4]] (tr_pass_O a0 r) (tr_pass_V a0 r)
noncomputable def tr_pass_j3_K : List Item := stackAt (bodyOf f35) [0, 1, 0, 0, 0, 0, 1] []
noncomputable def tr_pass_j3_S (a0 : Str) (a1 : Int) (a2 : Bool) : St := ⟨[(0, .one (.ptr 0 0)), (25, .one (.bool a2))], [(0, .var 78 [.str a0, .int .i64 a1, .nil 4])], 1, 72, 1⟩
noncomputable def tr_pass_j3_J (a0 : Str) (a1 : Int) (a2 : Bool) (r : Int) : Prop := ∀ cx : Cx, AK prog cx tr_pass_j3_K (tr_pass_j3_S a0 a1 a2) (Fin lay f35.results.toList 1 fun o v => o = tr_pass_O a0 r ∧ v = tr_pass_V a0 r)
noncomputable def tr_pass_l2_K : List Item := stackAt (bodyOf f35) [0, 1, 0, 0, 0] []
noncomputable def tr_pass_l2_S (a0 : Str) (a1 : Int) : St := ⟨[(0, .one (.ptr 0 0))], [(0, .var 78 [.str a0, .int .i64 a1, .nil 4])], 1, 72, 1⟩
noncomputable def tr_pass_l2_J (a0 : Str) (a1 : Int) (r : Int) : Prop := ∀ cx : Cx, AK prog cx tr_pass_l2_K (tr_pass_l2_S a0 a1) (Fin lay f35.results.toList 1 fun o v => o = tr_pass_O a0 r ∧ v = tr_pass_V a0 r)
noncomputable def tr_pass_l1_K : List Item := stackAt (bodyOf f35) [0, 1] []
noncomputable def tr_pass_l1_S (a0 : Str) (a1 : Int) : St := ⟨[(0, .one (.ptr 0 0))], [(0, .var 78 [.str a0, .int .i64 a1, .nil 4])], 1, 72, 1⟩
noncomputable def tr_pass_l1_J (a0 : Str) (a1 : Int) (r : Int) : Prop := ∀ cx : Cx, AK prog cx tr_pass_l1_K (tr_pass_l1_S a0 a1) (Fin lay f35.results.toList 1 fun o v => o = tr_pass_O a0 r ∧ v = tr_pass_V a0 r)
structure Tab_tr_pass_j3 where
 k : Nat
 tr_pass_l1 : Str → Int → Option Int
 tr_pass_l2 : Str → Int → Option Int
noncomputable def tr_pass_j3_b (T : Tab_tr_pass_j3) (a0 : Str) (a1 : Int) (a2 : Bool) : Option Int :=
 if a2 = true then (
  T.tr_pass_l2 a0 (IntKind.i64.wrap (a1 + 1))
 ) else (
  chk (0 ≤ a1 ∧ a1 ≤ (a0.length : Int) ∧ (a0.length : Int) ≤ (a0.length : Int)) <|
  (strings_HasPrefix (sub a0 a1 (a0.length : Int)) s_x2dx2d).bind fun r1 =>
  if r1 = true then (
   (strings_IndexByte (sub a0 a1 (a0.length : Int)) (10 : UInt8)).bind fun r2 =>
   if 0 ≤ r2 then (
    T.tr_pass_l1 a0 (IntKind.i64.wrap (a1 + r2))
   ) else (
    some (a0.length : Int)
   )
  ) else (
   some a1
  )
 )
noncomputable def tr_pass_l1_b (T : Tab_tr_pass_j3) (a0 : Str) (a1 : Int) : Option Int :=
 T.tr_pass_l2 a0 a1
noncomputable def tr_pass_l2_b (T : Tab_tr_pass_j3) (a0 : Str) (a1 : Int) : Option Int :=
 if a1 < (a0.length : Int) then (
  chk (0 ≤ a1 ∧ a1 < (a0.length : Int)) <|
  (strings_IndexByte s_x20x09x0ax0d (u8At a0 a1)).bind fun r1 =>
  tr_pass_j3_b T a0 a1 (decide (0 ≤ r1))
 ) else (
  tr_pass_j3_b T a0 a1 false
 )
noncomputable def tab_tr_pass_j3 : Nat → Tab_tr_pass_j3
 | 0 => ⟨0, fun _ _ => none, fun _ _ => none⟩
 | k + 1 => ⟨k + 1, tr_pass_l1_b (tab_tr_pass_j3 k), tr_pass_l2_b (tab_tr_pass_j3 k)⟩
noncomputable def tr_pass_l1 (k : Nat) := (tab_tr_pass_j3 k).tr_pass_l1
noncomputable def tr_pass_l2 (k : Nat) := (tab_tr_pass_j3 k).tr_pass_l2
structure Ok_tr_pass_j3 (m : Nat) : Prop where
 tr_pass_l1 : Sd2 (tab_tr_pass_j3 m).tr_pass_l1 tr_pass_l1_J
 tr_pass_l2 : Sd2 (tab_tr_pass_j3 m).tr_pass_l2 tr_pass_l2_J
theorem tr_pass_j3_okb {m : Nat} (ih : Ok_tr_pass_j3 m) : Sd3 (tr_pass_j3_b (tab_tr_pass_j3 m)) tr_pass_j3_J := by
 intro a0 a1 a2 r h cx
 unfold tr_pass_j3_b at h
 obtain ⟨h1, h⟩ | ⟨h1, h⟩ := ite_some h
 · exact tt 6 [(0, .br true)] [] [0] [(0, 0)] 1 [pf (bt h1)] (ih.tr_pass_l2 h cx)
 · obtain ⟨h2, h⟩ := chk_some h
   obtain ⟨r1, h3, h⟩ := bs h fun _ => strings_HasPrefix_ok
   obtain ⟨h4, h⟩ | ⟨h4, h⟩ := ite_some h
   · obtain ⟨r2, h5, h⟩ := bs h fun _ => strings_IndexByte_ok
     obtain ⟨h6, h⟩ | ⟨h6, h⟩ := ite_some h
     · exact tt 18 [(0, .br false), (1, .reg [(9, cl [] h3)] []), (2, .br false), (3, .reg [(9, cl [] h5)] []), (5, .br true)] [] [0] [(0, 0)] 1 [pf (bf h1), pf h2, pf h3, pf (nbf h4), pf h2, pf h5, pf (dt h6)] (ih.tr_pass_l1 h cx)
     · obtain rfl := Option.some.inj h
       exact rr 17 [(0, .br false), (1, .reg [(9, cl [] h3)] []), (2, .br false), (3, .reg [(9, cl [] h5)] []), (5, .br false)] [] [(0, 0)] 1 [pf (bf h1), pf h2, pf h3, pf (nbf h4), pf h2, pf h5, pf (df h6)]
   · obtain rfl := Option.some.inj h
     exact rr 8 [(0, .br false), (1, .reg [(9, cl [] h3)] []), (2, .br true)] [] [(0, 0)] 1 [pf (bf h1), pf h2, pf h3, pf (nbt h4)]
theorem tr_pass_l1_okb {m : Nat} (ih : Ok_tr_pass_j3 m) : Sd2 (tr_pass_l1_b (tab_tr_pass_j3 m)) tr_pass_l1_J := by
 intro a0 a1 r h cx
 unfold tr_pass_l1_b at h
 exact tt 3 [] [] [0] [(0, 0)] 1 [] (ih.tr_pass_l2 h cx)
theorem tr_pass_l2_okb {m : Nat} (ih : Ok_tr_pass_j3 m) : Sd2 (tr_pass_l2_b (tab_tr_pass_j3 m)) tr_pass_l2_J := by
 intro a0 a1 r h cx
 unfold tr_pass_l2_b at h
 obtain ⟨h1, h⟩ | ⟨h1, h⟩ := ite_some h
 · obtain ⟨h2, h⟩ := chk_some h
   obtain ⟨r1, h3, h⟩ := bs h fun _ => strings_IndexByte_ok
   exact tt 3 [(0, .reg [(20, cl [] h3)] [(10, .bool true)])] [] [0, 25] [(0, 0)] 1 [pf (dt h1), pf h2, pf h3] (tr_pass_j3_okb ih h cx)
 · exact tt 3 [(0, .reg [] [(10, .bool false)])] [] [0, 25] [(0, 0)] 1 [pf (df h1)] (tr_pass_j3_okb ih h cx)
theorem ok_tr_pass_j3 : ∀ m, Ok_tr_pass_j3 m
 | 0 => ⟨(fun h => nomatch (show none = some _ from h)), (fun h => nomatch (show none = some _ from h))⟩
 | m + 1 => ⟨tr_pass_l1_okb (ok_tr_pass_j3 m), tr_pass_l2_okb (ok_tr_pass_j3 m)⟩
theorem tr_pass_l1_ok {k : Nat} : Sd2 (tr_pass_l1 k) tr_pass_l1_J := (ok_tr_pass_j3 k).tr_pass_l1
theorem tr_pass_l2_ok {k : Nat} : Sd2 (tr_pass_l2 k) tr_pass_l2_J := (ok_tr_pass_j3 k).tr_pass_l2

noncomputable def tr_pass (k : Nat) (a0 : Str) (a1 : Int) : Option Int :=
 tr_pass_l1 k a0 a1
theorem tr_pass_ok {k : Nat} : Sd2 (tr_pass k) tr_pass_J := by
 intro a0 a1 r h
 unfold tr_pass at h
 refine ent (c := bodyOf f35) func35 rfl rfl rfl fun cx => ?_
 exact tt 3 [] [] [0] [(0, 0)] 1 [] (tr_pass_l1_ok h cx)

noncomputable def tr_put_O (a0 : Str) (a1 : Int) (a2 : List Token) (a3 : Int) : List O := [.var 78 [.str a0, .int .i64 a1, .own 4 (Row.rows (α := Token) a2) 1], .row 66 4]
noncomputable def tr_put_V (a0 : Str) (a1 : Int) (a2 : List Token) (a3 : Int) : V := .one (.int .i64 a3)
noncomputable def tr_put_J (a0 : Str) (a1 : Int) (a2 : Token) (r : ((List Token) × Int)) : Prop := Has prog 37 [.one (.ptr 0 0), .agg (ca a2)] [.var 78 [.str a0, .int .i64 a1, .nil 4]] (tr_put_O a0 a1 r.1 r.2) (tr_put_V a0 a1 r.1 r.2)
noncomputable def tr_put (a0 : Str) (a1 : Int) (a2 : Token) : Option ((List Token) × Int) :=
 chk (CapOk 40 ([] : List Token) [a2]) <|
 some ([a2], 0)
theorem tr_put_ok : Sd3 tr_put tr_put_J := by
 intro a0 a1 a2 r h
 unfold tr_put at h
 refine ent (c := bodyOf f37) func37 rfl rfl rfl fun cx => ?_
 obtain ⟨h1, h⟩ := chk_some h
 obtain rfl := Option.some.inj h
 exact rr 13 [(3, .reg [] [(6, .one (.own 4 (Row.rows (α := Token) [a2]) 225))])] [] [(0, 0), (241, 1)] 2 [@pf (BldP (α := Token) [a2] 225) (bldP _ _), pf (cap1 h1), pf (cap2 h1)]

noncomputable def tr_form_O (a0 : Str) (a1 a2 : Int) : List O := [.var 78 [.str a0, .int .i64 a1, .nil 4]]
noncomputable def tr_form_V (a0 : Str) (a1 a2 : Int) : V := .one (.int .i64 a2)
noncomputable def tr_form_J (a0 : Str) (a1 a2 : Int) (r : (Int × Int)) : Prop := Has prog 81 [.one (.ptr 0 0), .one (.int .i64 a2)] [.var 78 [.str a0, .int .i64 a1, .nil 4]] (tr_form_O a0 r.1 r.2) (tr_form_V a0 r.1 r.2)
noncomputable def tr_form (a0 : Str) (a1 a2 : Int) : Option (Int × Int) :=
 some (a2, 10)
theorem tr_form_ok : Sd3 tr_form tr_form_J := by
 intro a0 a1 a2 r h
 unfold tr_form at h
 refine ent (c := bodyOf f81) func81 rfl rfl rfl fun cx => ?_
 obtain rfl := Option.some.inj h
 exact rr 8 [] [] [(0, 0)] 1 []

noncomputable def tr_mark_O (a0 : Str) (a1 : Int) (a2 : List Token) (a3 : Int) : List O := [.var 78 [.str a0, .int .i64 a1, .own 4 (Row.rows (α := Token) a2) 1], .row 66 4]
noncomputable def tr_mark_V (a0 : Str) (a1 : Int) (a2 : List Token) (a3 : Int) : V := .one (.int .i64 a3)
noncomputable def tr_mark_J (a0 : Str) (a1 : Int) (r : (Int × (List Token) × Int)) : Prop := Has prog 67 [.one (.ptr 0 0)] [.var 78 [.str a0, .int .i64 a1, .nil 4]] (tr_mark_O a0 r.1 r.2.1 r.2.2) (tr_mark_V a0 r.1 r.2.1 r.2.2)
noncomputable def tr_mark_j2_K : List Item := stackAt (bodyOf f67) [1, 1, 1, 1] []
noncomputable def tr_mark_j2_S (a0 : Str) (a1 a2 a3 : Int) (a4 : Str) : St := ⟨[(0, .one (.ptr 0 0)), (3, .one (.int .i64 a2)), (4, .one (.int .i64 a3)), (5, .one (.str a4))], [(0, .var 78 [.str a0, .int .i64 a1, .nil 4])], 1, 71, 1⟩
noncomputable def tr_mark_j2_J (a0 : Str) (a1 a2 a3 : Int) (a4 : Str) (r : (Int × (List Token) × Int)) : Prop := ∀ cx : Cx, AK prog cx tr_mark_j2_K (tr_mark_j2_S a0 a1 a2 a3 a4) (Fin lay f67.results.toList 1 fun o v => o = tr_mark_O a0 r.1 r.2.1 r.2.2 ∧ v = tr_mark_V a0 r.1 r.2.1 r.2.2)
noncomputable def tr_mark_j2 (a0 : Str) (a1 a2 a3 : Int) (a4 : Str) : Option (Int × (List Token) × Int) :=
 if a3 = 0 then (
  (tr_form a0 a1 a2).bind fun (r1, r2) =>
  some (r1, [], r2)
 ) else (
  chk (0 ≤ (0 : Int) ∧ (0 : Int) ≤ a3 ∧ a3 ≤ (a4.length : Int)) <|
  (tr_put a0 (IntKind.i64.wrap (a1 + a3)) (Token.mk 4 (sub a4 0 a3) 0 a2)).bind fun (r1, r2) =>
  some ((IntKind.i64.wrap (a1 + a3)), r1, r2)
 )
theorem tr_mark_j2_ok : Sd5 tr_mark_j2 tr_mark_j2_J := by
 intro a0 a1 a2 a3 a4 r h cx
 unfold tr_mark_j2 at h
 obtain ⟨h1, h⟩ | ⟨h1, h⟩ := ite_some h
 · obtain ⟨⟨r1, r2⟩, h2, h⟩ := bs h fun _ => tr_form_ok
   obtain rfl := Option.some.inj h
   exact rr 8 [(1, .br true), (2, .reg [(2, cl [0] h2)] [])] [.cellOwn 0 2 97 66] [(0, 0), (97, 1)] 2 [pf (dt h1), pf h2]
 · obtain ⟨h2, h⟩ := chk_some h
   obtain ⟨⟨r1, r2⟩, h3, h⟩ := bs h fun _ => tr_put_ok
   obtain rfl := Option.some.inj h
   exact rr 11 [(1, .br false), (3, .reg [(6, cl [0] h3)] [])] [] [(0, 0), (274, 1)] 2 [pf (df h1), pf h2, pf h3]

noncomputable def tr_mark_j1_K : List Item := stackAt (bodyOf f67) [1, 1, 1, 0, 1, 0, 0, 0, 0, 0, 0, 0, 1, 1] []
noncomputable def tr_mark_j1_S (a0 : Str) (a1 a2 a3 : Int) (a4 : Str) : St := ⟨[(0, .one (.ptr 0 0)), (3, .one (.int .i64 a2)), (4, .one (.int .i64 a3)), (5, .one (.str a4))], [(0, .var 78 [.str a0, .int .i64 a1, .nil 4])], 1, 71, 1⟩
noncomputable def tr_mark_j1_J (a0 : Str) (a1 a2 a3 : Int) (a4 : Str) (r : (Int × (List Token) × Int)) : Prop := ∀ cx : Cx, AK prog cx tr_mark_j1_K (tr_mark_j1_S a0 a1 a2 a3 a4) (Fin lay f67.results.toList 1 fun o v => o = tr_mark_O a0 r.1 r.2.1 r.2.2 ∧ v = tr_mark_V a0 r.1 r.2.1 r.2.2)
noncomputable def tr_mark_j1 (a0 : Str) (a1 a2 a3 : Int) (a4 : Str) : Option (Int × (List Token) × Int) :=
 tr_mark_j2 a0 a1 a2 a3 a4
theorem tr_mark_j1_ok : Sd5 tr_mark_j1 tr_mark_j1_J := by
 intro a0 a1 a2 a3 a4 r h cx
 unfold tr_mark_j1 at h
 exact tt 1 [] [] [0, 3, 4, 5] [(0, 0)] 1 [] (tr_mark_j2_ok h cx)

noncomputable def tr_mark_j5_K : List Item := stackAt (bodyOf f67) [1, 1, 1, 0, 1, 0, 0, 0, 1, 1] []
noncomputable def tr_mark_j5_S (a0 : Str) (a1 a2 a3 : Int) (a4 : Str) : St := ⟨[(0, .one (.ptr 0 0)), (3, .one (.int .i64 a2)), (4, .one (.int .i64 a3)), (5, .one (.str a4))], [(0, .var 78 [.str a0, .int .i64 a1, .nil 4])], 1, 71, 1⟩
noncomputable def tr_mark_j5_J (a0 : Str) (a1 a2 a3 : Int) (a4 : Str) (r : (Int × (List Token) × Int)) : Prop := ∀ cx : Cx, AK prog cx tr_mark_j5_K (tr_mark_j5_S a0 a1 a2 a3 a4) (Fin lay f67.results.toList 1 fun o v => o = tr_mark_O a0 r.1 r.2.1 r.2.2 ∧ v = tr_mark_V a0 r.1 r.2.1 r.2.2)
noncomputable def tr_mark_j5 (a0 : Str) (a1 a2 a3 : Int) (a4 : Str) : Option (Int × (List Token) × Int) :=
 tr_mark_j2 a0 a1 a2 a3 a4
theorem tr_mark_j5_ok : Sd5 tr_mark_j5 tr_mark_j5_J := by
 intro a0 a1 a2 a3 a4 r h cx
 unfold tr_mark_j5 at h
 exact tt 1 [] [] [0, 3, 4, 5] [(0, 0)] 1 [] (tr_mark_j2_ok h cx)

noncomputable def tr_mark_j3_K : List Item := stackAt (bodyOf f67) [1, 1, 1, 0, 1, 0, 0, 0, 1] []
noncomputable def tr_mark_j3_S (a0 : Str) (a1 a2 : Int) (a3 : Str) : St := ⟨[(0, .one (.ptr 0 0)), (3, .one (.int .i64 a2)), (5, .one (.str a3))], [(0, .var 78 [.str a0, .int .i64 a1, .nil 4])], 1, 71, 1⟩
noncomputable def tr_mark_j3_J (a0 : Str) (a1 a2 : Int) (a3 : Str) (r : (Int × (List Token) × Int)) : Prop := ∀ cx : Cx, AK prog cx tr_mark_j3_K (tr_mark_j3_S a0 a1 a2 a3) (Fin lay f67.results.toList 1 fun o v => o = tr_mark_O a0 r.1 r.2.1 r.2.2 ∧ v = tr_mark_V a0 r.1 r.2.1 r.2.2)
noncomputable def tr_mark_j3 (a0 : Str) (a1 a2 : Int) (a3 : Str) : Option (Int × (List Token) × Int) :=
 if 1 < (a3.length : Int) then (
  chk (0 ≤ (1 : Int) ∧ (1 : Int) < (a3.length : Int)) <|
  if (byteAt a3 1) = 61 then (
   tr_mark_j5 a0 a1 a2 2 a3
  ) else (
   tr_mark_j5 a0 a1 a2 1 a3
  )
 ) else (
  tr_mark_j5 a0 a1 a2 1 a3
 )
theorem tr_mark_j3_ok : Sd4 tr_mark_j3 tr_mark_j3_J := by
 intro a0 a1 a2 a3 r h cx
 unfold tr_mark_j3 at h
 obtain ⟨h1, h⟩ | ⟨h1, h⟩ := ite_some h
 · obtain ⟨h2, h⟩ := chk_some h
   obtain ⟨h3, h⟩ | ⟨h3, h⟩ := ite_some h
   · exact tt 7 [(1, .reg [] [(3, .bool true)]), (2, .br true)] [] [0, 3, 4, 5] [(0, 0)] 1 [pf (dt h1), pf h2, pf (dt h3)] (tr_mark_j5_ok h cx)
   · exact tt 7 [(1, .reg [] [(3, .bool true)]), (2, .br false)] [] [0, 3, 4, 5] [(0, 0)] 1 [pf (dt h1), pf h2, pf (df h3)] (tr_mark_j5_ok h cx)
 · exact tt 7 [(1, .reg [] [(3, .bool false)])] [] [0, 3, 4, 5] [(0, 0)] 1 [pf (df h1)] (tr_mark_j5_ok h cx)

noncomputable def tr_mark_j4_K : List Item := stackAt (bodyOf f67) [1, 1, 1, 0, 1, 0, 0, 0, 0, 0, 0, 0, 0, 0, 0, 1, 1, 1, 1] []
noncomputable def tr_mark_j4_S (a0 : Str) (a1 a2 : Int) (a3 : Str) (a4 : Bool) : St := ⟨[(0, .one (.ptr 0 0)), (3, .one (.int .i64 a2)), (4, .one (.int .i64 0)), (5, .one (.str a3)), (24, .one (.bool a4))], [(0, .var 78 [.str a0, .int .i64 a1, .nil 4])], 1, 71, 1⟩
noncomputable def tr_mark_j4_J (a0 : Str) (a1 a2 : Int) (a3 : Str) (a4 : Bool) (r : (Int × (List Token) × Int)) : Prop := ∀ cx : Cx, AK prog cx tr_mark_j4_K (tr_mark_j4_S a0 a1 a2 a3 a4) (Fin lay f67.results.toList 1 fun o v => o = tr_mark_O a0 r.1 r.2.1 r.2.2 ∧ v = tr_mark_V a0 r.1 r.2.1 r.2.2)
noncomputable def tr_mark_j4 (a0 : Str) (a1 a2 : Int) (a3 : Str) (a4 : Bool) : Option (Int × (List Token) × Int) :=
 if a4 = true then (
  tr_mark_j2 a0 a1 a2 1 a3
 ) else (
  tr_mark_j2 a0 a1 a2 0 a3
 )
theorem tr_mark_j4_ok : Sd5 tr_mark_j4 tr_mark_j4_J := by
 intro a0 a1 a2 a3 a4 r h cx
 unfold tr_mark_j4 at h
 obtain ⟨h1, h⟩ | ⟨h1, h⟩ := ite_some h
 · exact tt 5 [(0, .br true)] [] [0, 3, 4, 5] [(0, 0)] 1 [pf (bt h1)] (tr_mark_j2_ok h cx)
 · exact tt 3 [(0, .br false)] [] [0, 3, 4, 5] [(0, 0)] 1 [pf (bf h1)] (tr_mark_j2_ok h cx)

noncomputable def tr_mark (a0 : Str) (a1 : Int) : Option (Int × (List Token) × Int) :=
 chk (0 ≤ a1 ∧ a1 ≤ (a0.length : Int) ∧ (a0.length : Int) ≤ (a0.length : Int)) <|
 chk (0 ≤ (0 : Int) ∧ (0 : Int) < ((sub a0 a1 (a0.length : Int)).length : Int)) <|
 if (byteAt (sub a0 a1 (a0.length : Int)) 0) = 124 then (
  (strings_HasPrefix (sub a0 a1 (a0.length : Int)) s_x7cx7c).bind fun r1 =>
  if r1 = true then (
   tr_mark_j1 a0 a1 a1 2 (sub a0 a1 (a0.length : Int))
  ) else (
   tr_mark_j1 a0 a1 a1 0 (sub a0 a1 (a0.length : Int))
  )
 ) else (
  if (byteAt (sub a0 a1 (a0.length : Int)) 0) = 60 then (
   (strings_HasPrefix (sub a0 a1 (a0.length : Int)) s_x3cx3e).bind fun r1 =>
   if r1 = true then (
    tr_mark_j2 a0 a1 a1 2 (sub a0 a1 (a0.length : Int))
   ) else (
    tr_mark_j3 a0 a1 a1 (sub a0 a1 (a0.length : Int))
   )
  ) else (
   if (byteAt (sub a0 a1 (a0.length : Int)) 0) = 62 then (
    tr_mark_j3 a0 a1 a1 (sub a0 a1 (a0.length : Int))
   ) else (
    if (byteAt (sub a0 a1 (a0.length : Int)) 0) = 40 then (
     tr_mark_j4 a0 a1 a1 (sub a0 a1 (a0.length : Int)) (decide ((byteAt (sub a0 a1 (a0.length : Int)) 0) = 40))
    ) else (
     if (byteAt (sub a0 a1 (a0.length : Int)) 0) = 41 then (
      tr_mark_j4 a0 a1 a1 (sub a0 a1 (a0.length : Int)) (decide ((byteAt (sub a0 a1 (a0.length : Int)) 0) = 41))
     ) else (
      if (byteAt (sub a0 a1 (a0.length : Int)) 0) = 44 then (
       tr_mark_j4 a0 a1 a1 (sub a0 a1 (a0.length : Int)) (decide ((byteAt (sub a0 a1 (a0.length : Int)) 0) = 44))
      ) else (
       if (byteAt (sub a0 a1 (a0.length : Int)) 0) = 59 then (
        tr_mark_j4 a0 a1 a1 (sub a0 a1 (a0.length : Int)) (decide ((byteAt (sub a0 a1 (a0.length : Int)) 0) = 59))
       ) else (
        if (byteAt (sub a0 a1 (a0.length : Int)) 0) = 46 then (
         tr_mark_j4 a0 a1 a1 (sub a0 a1 (a0.length : Int)) (decide ((byteAt (sub a0 a1 (a0.length : Int)) 0) = 46))
        ) else (
         if (byteAt (sub a0 a1 (a0.length : Int)) 0) = 42 then (
          tr_mark_j4 a0 a1 a1 (sub a0 a1 (a0.length : Int)) (decide ((byteAt (sub a0 a1 (a0.length : Int)) 0) = 42))
         ) else (
          if (byteAt (sub a0 a1 (a0.length : Int)) 0) = 43 then (
           tr_mark_j4 a0 a1 a1 (sub a0 a1 (a0.length : Int)) (decide ((byteAt (sub a0 a1 (a0.length : Int)) 0) = 43))
          ) else (
           if (byteAt (sub a0 a1 (a0.length : Int)) 0) = 45 then (
            tr_mark_j4 a0 a1 a1 (sub a0 a1 (a0.length : Int)) (decide ((byteAt (sub a0 a1 (a0.length : Int)) 0) = 45))
           ) else (
            if (byteAt (sub a0 a1 (a0.length : Int)) 0) = 47 then (
            tr_mark_j4 a0 a1 a1 (sub a0 a1 (a0.length : Int)) (decide ((byteAt (sub a0 a1 (a0.length : Int)) 0) = 47))
            ) else (
            if (byteAt (sub a0 a1 (a0.length : Int)) 0) = 37 then (
            tr_mark_j4 a0 a1 a1 (sub a0 a1 (a0.length : Int)) (decide ((byteAt (sub a0 a1 (a0.length : Int)) 0) = 37))
            ) else (
            if (byteAt (sub a0 a1 (a0.length : Int)) 0) = 61 then (
            tr_mark_j4 a0 a1 a1 (sub a0 a1 (a0.length : Int)) (decide ((byteAt (sub a0 a1 (a0.length : Int)) 0) = 61))
            ) else (
            if (byteAt (sub a0 a1 (a0.length : Int)) 0) = 123 then (
            tr_mark_j4 a0 a1 a1 (sub a0 a1 (a0.length : Int)) (decide ((byteAt (sub a0 a1 (a0.length : Int)) 0) = 123))
            ) else (
            if (byteAt (sub a0 a1 (a0.length : Int)) 0) = 125 then (
            tr_mark_j4 a0 a1 a1 (sub a0 a1 (a0.length : Int)) (decide ((byteAt (sub a0 a1 (a0.length : Int)) 0) = 125))
            ) else (
            tr_mark_j4 a0 a1 a1 (sub a0 a1 (a0.length : Int)) (decide ((byteAt (sub a0 a1 (a0.length : Int)) 0) = 58))
            )
            )
            )
            )
            )
           )
          )
         )
        )
       )
      )
     )
    )
   )
  )
 )
theorem tr_mark_ok : Sd2 tr_mark tr_mark_J := by
 intro a0 a1 r h
 unfold tr_mark at h
 refine ent (c := bodyOf f67) func67 rfl rfl rfl fun cx => ?_
 obtain ⟨h1, h⟩ := chk_some h
 obtain ⟨h2, h⟩ := chk_some h
 obtain ⟨h3, h⟩ | ⟨h3, h⟩ := ite_some h
 · obtain ⟨r1, h4, h⟩ := bs h fun _ => strings_HasPrefix_ok
   obtain ⟨h5, h⟩ | ⟨h5, h⟩ := ite_some h
   · exact tt 29 [(5, .br true), (6, .reg [(1, cl [] h4)] []), (7, .br true)] [] [0, 3, 4, 5] [(0, 0)] 1 [pf h1, pf h2, pf (dt h3), pf h4, pf (bt h5)] (tr_mark_j1_ok h cx)
   · exact tt 29 [(5, .br true), (6, .reg [(1, cl [] h4)] []), (7, .br false)] [] [0, 3, 4, 5] [(0, 0)] 1 [pf h1, pf h2, pf (dt h3), pf h4, pf (bf h5)] (tr_mark_j1_ok h cx)
 · obtain ⟨h4, h⟩ | ⟨h4, h⟩ := ite_some h
   · obtain ⟨r1, h5, h⟩ := bs h fun _ => strings_HasPrefix_ok
     obtain ⟨h6, h⟩ | ⟨h6, h⟩ := ite_some h
     · exact tt 35 [(5, .br false), (7, .br true), (8, .reg [(1, cl [] h5)] []), (9, .br true)] [] [0, 3, 4, 5] [(0, 0)] 1 [pf h1, pf h2, pf (df h3), pf (dt h4), pf h5, pf (bt h6)] (tr_mark_j2_ok h cx)
     · exact tt 34 [(5, .br false), (7, .br true), (8, .reg [(1, cl [] h5)] []), (9, .br false)] [] [0, 3, 5] [(0, 0)] 1 [pf h1, pf h2, pf (df h3), pf (dt h4), pf h5, pf (bf h6)] (tr_mark_j3_ok h cx)
   · obtain ⟨h5, h⟩ | ⟨h5, h⟩ := ite_some h
     · exact tt 34 [(5, .br false), (7, .br false), (9, .br true)] [] [0, 3, 5] [(0, 0)] 1 [pf h1, pf h2, pf (df h3), pf (df h4), pf (dt h5)] (tr_mark_j3_ok h cx)
     · obtain ⟨h6, h⟩ | ⟨h6, h⟩ := ite_some h
       · exact tt 39 [(5, .br false), (7, .br false), (9, .br false), (11, .br true)] [] [0, 3, 4, 5, 24] [(0, 0)] 1 [pf h1, pf h2, pf (df h3), pf (df h4), pf (df h5), pf (dt h6)] (tr_mark_j4_ok h cx)
       · obtain ⟨h7, h⟩ | ⟨h7, h⟩ := ite_some h
         · exact tt 42 [(5, .br false), (7, .br false), (9, .br false), (11, .br false), (13, .br true)] [] [0, 3, 4, 5, 24] [(0, 0)] 1 [pf h1, pf h2, pf (df h3), pf (df h4), pf (df h5), pf (df h6), pf (dt h7)] (tr_mark_j4_ok h cx)
         · obtain ⟨h8, h⟩ | ⟨h8, h⟩ := ite_some h
           · exact tt 45 [(5, .br false), (7, .br false), (9, .br false), (11, .br false), (13, .br false), (15, .br true)] [] [0, 3, 4, 5, 24] [(0, 0)] 1 [pf h1, pf h2, pf (df h3), pf (df h4), pf (df h5), pf (df h6), pf (df h7), pf (dt h8)] (tr_mark_j4_ok h cx)
           · obtain ⟨h9, h⟩ | ⟨h9, h⟩ := ite_some h
             · exact tt 48 [(5, .br false), (7, .br false), (9, .br false), (11, .br false), (13, .br false), (15, .br false), (17, .br true)] [] [0, 3, 4, 5, 24] [(0, 0)] 1 [pf h1, pf h2, pf (df h3), pf (df h4), pf (df h5), pf (df h6), pf (df h7), pf (df h8), pf (dt h9)] (tr_mark_j4_ok h cx)
             · obtain ⟨h10, h⟩ | ⟨h10, h⟩ := ite_some h
               · exact tt 51 [(5, .br false), (7, .br false), (9, .br false), (11, .br false), (13, .br false), (15, .br false), (17, .br false), (19, .br true)] [] [0, 3, 4, 5, 24] [(0, 0)] 1 [pf h1, pf h2, pf (df h3), pf (df h4), pf (df h5), pf (df h6), pf (df h7), pf (df h8), pf (df h9), pf (dt h10)] (tr_mark_j4_ok h cx)
               · obtain ⟨h11, h⟩ | ⟨h11, h⟩ := ite_some h
                 · exact tt 54 [(5, .br false), (7, .br false), (9, .br false), (11, .br false), (13, .br false), (15, .br false), (17, .br false), (19, .br false), (21, .br true)] [] [0, 3, 4, 5, 24] [(0, 0)] 1 [pf h1, pf h2, pf (df h3), pf (df h4), pf (df h5), pf (df h6), pf (df h7), pf (df h8), pf (df h9), pf (df h10), pf (dt h11)] (tr_mark_j4_ok h cx)
                 · obtain ⟨h12, h⟩ | ⟨h12, h⟩ := ite_some h
                   · exact tt 57 [(5, .br false), (7, .br false), (9, .br false), (11, .br false), (13, .br false), (15, .br false), (17, .br false), (19, .br false), (21, .br false), (23, .br true)] [] [0, 3, 4, 5, 24] [(0, 0)] 1 [pf h1, pf h2, pf (df h3), pf (df h4), pf (df h5), pf (df h6), pf (df h7), pf (df h8), pf (df h9), pf (df h10), pf (df h11), pf (dt h12)] (tr_mark_j4_ok h cx)
                   · obtain ⟨h13, h⟩ | ⟨h13, h⟩ := ite_some h
                     · exact tt 60 [(5, .br false), (7, .br false), (9, .br false), (11, .br false), (13, .br false), (15, .br false), (17, .br false), (19, .br false), (21, .br false), (23, .br false), (25, .br true)] [] [0, 3, 4, 5, 24] [(0, 0)] 1 [pf h1, pf h2, pf (df h3), pf (df h4), pf (df h5), pf (df h6), pf (df h7), pf (df h8), pf (df h9), pf (df h10), pf (df h11), pf (df h12), pf (dt h13)] (tr_mark_j4_ok h cx)
                     · obtain ⟨h14, h⟩ | ⟨h14, h⟩ := ite_some h
                       · exact tt 63 [(5, .br false), (7, .br false), (9, .br false), (11, .br false), (13, .br false), (15, .br false), (17, .br false), (19, .br false), (21, .br false), (23, .br false), (25, .br false), (27, .br true)] [] [0, 3, 4, 5, 24] [(0, 0)] 1 [pf h1, pf h2, pf (df h3), pf (df h4), pf (df h5), pf (df h6), pf (df h7), pf (df h8), pf (df h9), pf (df h10), pf (df h11), pf (df h12), pf (df h13), pf (dt h14)] (tr_mark_j4_ok h cx)
                       · obtain ⟨h15, h⟩ | ⟨h15, h⟩ := ite_some h
                         · exact tt 66 [(5, .br false), (7, .br false), (9, .br false), (11, .br false), (13, .br false), (15, .br false), (17, .br false), (19, .br false), (21, .br false), (23, .br false), (25, .br false), (27, .br false), (29, .br true)] [] [0, 3, 4, 5, 24] [(0, 0)] 1 [pf h1, pf h2, pf (df h3), pf (df h4), pf (df h5), pf (df h6), pf (df h7), pf (df h8), pf (df h9), pf (df h10), pf (df h11), pf (df h12), pf (df h13), pf (df h14), pf (dt h15)] (tr_mark_j4_ok h cx)
                         · obtain ⟨h16, h⟩ | ⟨h16, h⟩ := ite_some h
                           · exact tt 69 [(5, .br false), (7, .br false), (9, .br false), (11, .br false), (13, .br false), (15, .br false), (17, .br false), (19, .br false), (21, .br false), (23, .br false), (25, .br false), (27, .br false), (29, .br false), (31, .br true)] [] [0, 3, 4, 5, 24] [(0, 0)] 1 [pf h1, pf h2, pf (df h3), pf (df h4), pf (df h5), pf (df h6), pf (df h7), pf (df h8), pf (df h9), pf (df h10), pf (df h11), pf (df h12), pf (df h13), pf (df h14), pf (df h15), pf (dt h16)] (tr_mark_j4_ok h cx)
                           · obtain ⟨h17, h⟩ | ⟨h17, h⟩ := ite_some h
                             · exact tt 72 [(5, .br false), (7, .br false), (9, .br false), (11, .br false), (13, .br false), (15, .br false), (17, .br false), (19, .br false), (21, .br false), (23, .br false), (25, .br false), (27, .br false), (29, .br false), (31, .br false), (33, .br true)] [] [0, 3, 4, 5, 24] [(0, 0)] 1 [pf h1, pf h2, pf (df h3), pf (df h4), pf (df h5), pf (df h6), pf (df h7), pf (df h8), pf (df h9), pf (df h10), pf (df h11), pf (df h12), pf (df h13), pf (df h14), pf (df h15), pf (df h16), pf (dt h17)] (tr_mark_j4_ok h cx)
                             · obtain ⟨h18, h⟩ | ⟨h18, h⟩ := ite_some h
                               · exact tt 75 [(5, .br false), (7, .br false), (9, .br false), (11, .br false), (13, .br false), (15, .br false), (17, .br false), (19, .br false), (21, .br false), (23, .br false), (25, .br false), (27, .br false), (29, .br false), (31, .br false), (33, .br false), (35, .br true)] [] [0, 3, 4, 5, 24] [(0, 0)] 1 [pf h1, pf h2, pf (df h3), pf (df h4), pf (df h5), pf (df h6), pf (df h7), pf (df h8), pf (df h9), pf (df h10), pf (df h11), pf (df h12), pf (df h13), pf (df h14), pf (df h15), pf (df h16), pf (df h17), pf (dt h18)] (tr_mark_j4_ok h cx)
                               · exact tt 75 [(5, .br false), (7, .br false), (9, .br false), (11, .br false), (13, .br false), (15, .br false), (17, .br false), (19, .br false), (21, .br false), (23, .br false), (25, .br false), (27, .br false), (29, .br false), (31, .br false), (33, .br false), (35, .br false)] [] [0, 3, 4, 5, 24] [(0, 0)] 1 [pf h1, pf h2, pf (df h3), pf (df h4), pf (df h5), pf (df h6), pf (df h7), pf (df h8), pf (df h9), pf (df h10), pf (df h11), pf (df h12), pf (df h13), pf (df h14), pf (df h15), pf (df h16), pf (df h17), pf (df h18)] (tr_mark_j4_ok h cx)

noncomputable def tr_run_name_1_O (a0 : Str) (a1 : Int) (a2 : Str) : List O := [.var 78 [.str a0, .int .i64 a1, .nil 4]]
noncomputable def tr_run_name_1_V (a0 : Str) (a1 : Int) (a2 : Str) : V := .one (.str a2)
noncomputable def tr_run_name_1_J (a0 : Str) (a1 : Int) (r : (Int × Str)) : Prop := Has prog 79 [.one (.ptr 0 0), .one (.fn 80 [] [])] [.var 78 [.str a0, .int .i64 a1, .nil 4]] (tr_run_name_1_O a0 r.1 r.2) (tr_run_name_1_V a0 r.1 r.2)
noncomputable def tr_run_name_1_j2_K : List Item := stackAt (bodyOf f79) [1, 1, 0, 0, 0, 0, 1] []
noncomputable def tr_run_name_1_j2_S (a0 : Str) (a1 a2 : Int) (a3 : Bool) : St := ⟨[(0, .one (.ptr 0 0)), (1, .one (.fn 80 [] [])), (5, .one (.int .i64 a2)), (32, .one (.bool a3))], [(0, .var 78 [.str a0, .int .i64 a1, .nil 4])], 1, 50, 1⟩
noncomputable def tr_run_name_1_j2_J (a0 : Str) (a1 a2 : Int) (a3 : Bool) (r : (Int × Str)) : Prop := ∀ cx : Cx, AK prog cx tr_run_name_1_j2_K (tr_run_name_1_j2_S a0 a1 a2 a3) (Fin lay f79.results.toList 1 fun o v => o = tr_run_name_1_O a0 r.1 r.2 ∧ v = tr_run_name_1_V a0 r.1 r.2)
noncomputable def tr_run_name_1_l1_K : List Item := stackAt (bodyOf f79) [1, 1, 0, 0, 0] []
noncomputable def tr_run_name_1_l1_S (a0 : Str) (a1 a2 : Int) : St := ⟨[(0, .one (.ptr 0 0)), (1, .one (.fn 80 [] [])), (5, .one (.int .i64 a2))], [(0, .var 78 [.str a0, .int .i64 a1, .nil 4])], 1, 50, 1⟩
noncomputable def tr_run_name_1_l1_J (a0 : Str) (a1 a2 : Int) (r : (Int × Str)) : Prop := ∀ cx : Cx, AK prog cx tr_run_name_1_l1_K (tr_run_name_1_l1_S a0 a1 a2) (Fin lay f79.results.toList 1 fun o v => o = tr_run_name_1_O a0 r.1 r.2 ∧ v = tr_run_name_1_V a0 r.1 r.2)
structure Tab_tr_run_name_1_j2 where
 k : Nat
 tr_run_name_1_l1 : Str → Int → Int → Option (Int × Str)
noncomputable def tr_run_name_1_j2_b (T : Tab_tr_run_name_1_j2) (a0 : Str) (a1 a2 : Int) (a3 : Bool) : Option (Int × Str) :=
 if a3 = true then (
  T.tr_run_name_1_l1 a0 (IntKind.i64.wrap (a1 + 1)) a2
 ) else (
  chk (0 ≤ a2 ∧ a2 ≤ a1 ∧ a1 ≤ (a0.length : Int)) <|
  some (a1, (sub a0 a2 a1))
 )
noncomputable def tr_run_name_1_l1_b (T : Tab_tr_run_name_1_j2) (a0 : Str) (a1 a2 : Int) : Option (Int × Str) :=
 if a1 < (a0.length : Int) then (
  chk (0 ≤ a1 ∧ a1 < (a0.length : Int)) <|
  (tr_name_1 (u8At a0 a1)).bind fun r1 =>
  tr_run_name_1_j2_b T a0 a1 a2 r1
 ) else (
  tr_run_name_1_j2_b T a0 a1 a2 false
 )
noncomputable def tab_tr_run_name_1_j2 : Nat → Tab_tr_run_name_1_j2
 | 0 => ⟨0, fun _ _ _ => none⟩
 | k + 1 => ⟨k + 1, tr_run_name_1_l1_b (tab_tr_run_name_1_j2 k)⟩
noncomputable def tr_run_name_1_l1 (k : Nat) := (tab_tr_run_name_1_j2 k).tr_run_name_1_l1
structure Ok_tr_run_name_1_j2 (m : Nat) : Prop where
 tr_run_name_1_l1 : Sd3 (tab_tr_run_name_1_j2 m).tr_run_name_1_l1 tr_run_name_1_l1_J
theorem tr_run_name_1_j2_okb {m : Nat} (ih : Ok_tr_run_name_1_j2 m) : Sd4 (tr_run_name_1_j2_b (tab_tr_run_name_1_j2 m)) tr_run_name_1_j2_J := by
 intro a0 a1 a2 a3 r h cx
 unfold tr_run_name_1_j2_b at h
 obtain ⟨h1, h⟩ | ⟨h1, h⟩ := ite_some h
 · exact tt 6 [(0, .br true)] [] [0, 1, 5] [(0, 0)] 1 [pf (bt h1)] (ih.tr_run_name_1_l1 h cx)
 · obtain ⟨h2, h⟩ := chk_some h
   obtain rfl := Option.some.inj h
   exact rr 6 [(0, .br false)] [] [(0, 0)] 1 [pf (bf h1), pf h2]
theorem tr_run_name_1_l1_okb {m : Nat} (ih : Ok_tr_run_name_1_j2 m) : Sd3 (tr_run_name_1_l1_b (tab_tr_run_name_1_j2 m)) tr_run_name_1_l1_J := by
 intro a0 a1 a2 r h cx
 unfold tr_run_name_1_l1_b at h
 obtain ⟨h1, h⟩ | ⟨h1, h⟩ := ite_some h
 · obtain ⟨h2, h⟩ := chk_some h
   obtain ⟨r1, h3, h⟩ := bs h fun _ => tr_name_1_ok
   exact tt 3 [(0, .reg [(21, cl [] h3)] [(10, .bool true)])] [] [0, 1, 5, 32] [(0, 0)] 1 [pf (dt h1), pf h2, pf h3] (tr_run_name_1_j2_okb ih h cx)
 · exact tt 3 [(0, .reg [] [(10, .bool false)])] [] [0, 1, 5, 32] [(0, 0)] 1 [pf (df h1)] (tr_run_name_1_j2_okb ih h cx)
theorem ok_tr_run_name_1_j2 : ∀ m, Ok_tr_run_name_1_j2 m
 | 0 => ⟨(fun h => nomatch (show none = some _ from h))⟩
 | m + 1 => ⟨tr_run_name_1_l1_okb (ok_tr_run_name_1_j2 m)⟩
theorem tr_run_name_1_l1_ok {k : Nat} : Sd3 (tr_run_name_1_l1 k) tr_run_name_1_l1_J := (ok_tr_run_name_1_j2 k).tr_run_name_1_l1

noncomputable def tr_run_name_1 (k : Nat) (a0 : Str) (a1 : Int) : Option (Int × Str) :=
 tr_run_name_1_l1 k a0 a1 a1
theorem tr_run_name_1_ok {k : Nat} : Sd2 (tr_run_name_1 k) tr_run_name_1_J := by
 intro a0 a1 r h
 unfold tr_run_name_1 at h
 refine ent (c := bodyOf f79) func79 rfl rfl rfl fun cx => ?_
 exact tt 7 [] [] [0, 1, 5] [(0, 0)] 1 [] (tr_run_name_1_l1_ok h cx)

noncomputable def tr_name_O (a0 : Str) (a1 : Int) (a2 : List Token) (a3 : Int) : List O := [.var 78 [.str a0, .int .i64 a1, .own 4 (Row.rows (α := Token) a2) 1], .row 66 4]
noncomputable def tr_name_V (a0 : Str) (a1 : Int) (a2 : List Token) (a3 : Int) : V := .one (.int .i64 a3)
noncomputable def tr_name_J (a0 : Str) (a1 : Int) (r : (Int × (List Token) × Int)) : Prop := Has prog 63 [.one (.ptr 0 0)] [.var 78 [.str a0, .int .i64 a1, .nil 4]] (tr_name_O a0 r.1 r.2.1 r.2.2) (tr_name_V a0 r.1 r.2.1 r.2.2)
noncomputable def tr_name (k : Nat) (a0 : Str) (a1 : Int) : Option (Int × (List Token) × Int) :=
 (tr_run_name_1 k a0 a1).bind fun (r1, r2) =>
 if 30 < (r2.length : Int) then (
  (tr_form a0 r1 a1).bind fun (r3, r4) =>
  some (r3, [], r4)
 ) else (
  (tr_put a0 r1 (Token.mk 1 r2 0 a1)).bind fun (r3, r4) =>
  some (r1, r3, r4)
 )
theorem tr_name_ok {k : Nat} : Sd2 (tr_name k) tr_name_J := by
 intro a0 a1 r h
 unfold tr_name at h
 refine ent (c := bodyOf f63) func63 rfl rfl rfl fun cx => ?_
 obtain ⟨⟨r1, r2⟩, h1, h⟩ := bs h fun _ => tr_run_name_1_ok
 obtain ⟨h2, h⟩ | ⟨h2, h⟩ := ite_some h
 · obtain ⟨⟨r3, r4⟩, h3, h⟩ := bs h fun _ => tr_form_ok
   obtain rfl := Option.some.inj h
   exact rr 14 [(2, .reg [(1, cl [0] h1)] []), (4, .br true), (5, .reg [(2, cl [0] h3)] [])] [.cellOwn 0 2 257 66] [(0, 0), (257, 1)] 2 [pf h1, pf (dt h2), pf h3]
 · obtain ⟨⟨r3, r4⟩, h3, h⟩ := bs h fun _ => tr_put_ok
   obtain rfl := Option.some.inj h
   exact rr 15 [(2, .reg [(1, cl [0] h1)] []), (4, .br false), (5, .reg [(4, cl [0] h3)] [])] [] [(0, 0), (258, 1)] 2 [pf h1, pf (df h2), pf h3]

noncomputable def tr_number_O (a0 : Str) (a1 : Int) (a2 : List Token) (a3 : Int) : List O := [.var 78 [.str a0, .int .i64 a1, .own 4 (Row.rows (α := Token) a2) 1], .row 66 4]
noncomputable def tr_number_V (a0 : Str) (a1 : Int) (a2 : List Token) (a3 : Int) : V := .one (.int .i64 a3)
noncomputable def tr_number_J (a0 : Str) (a1 : Int) (r : (Int × (List Token) × Int)) : Prop := Has prog 65 [.one (.ptr 0 0)] [.var 78 [.str a0, .int .i64 a1, .nil 4]] (tr_number_O a0 r.1 r.2.1 r.2.2) (tr_number_V a0 r.1 r.2.1 r.2.2)
noncomputable def tr_number_l1_K : List Item := stackAt (bodyOf f65) [1, 1, 1, 1, 1, 0, 1, 0, 0] []
noncomputable def tr_number_l1_S (a0 : Str) (a1 a2 : Int) (a3 : Str) (a4 a5 a6 : Int) : St := ⟨[(0, .one (.ptr 0 0)), (3, .one (.int .i64 a2)), (4, .one (.str a3)), (5, .one (.int .i64 a4)), (20, .one (.int .i64 a5)), (21, .one (.int .i64 a6))], [(0, .var 78 [.str a0, .int .i64 a1, .nil 4])], 1, 39, 1⟩
noncomputable def tr_number_l1_J (a0 : Str) (a1 a2 : Int) (a3 : Str) (a4 a5 a6 : Int) (r : (Int × (List Token) × Int)) : Prop := ∀ cx : Cx, AK prog cx tr_number_l1_K (tr_number_l1_S a0 a1 a2 a3 a4 a5 a6) (Fin lay f65.results.toList 1 fun o v => o = tr_number_O a0 r.1 r.2.1 r.2.2 ∧ v = tr_number_V a0 r.1 r.2.1 r.2.2)
structure Tab_tr_number_l1 where
 k : Nat
 tr_number_l1 : Str → Int → Int → Str → Int → Int → Int → Option (Int × (List Token) × Int)
noncomputable def tr_number_l1_b (T : Tab_tr_number_l1) (a0 : Str) (a1 a2 : Int) (a3 : Str) (a4 a5 a6 : Int) : Option (Int × (List Token) × Int) :=
 if a6 < a5 then (
  chk (0 ≤ a6 ∧ a6 < (a3.length : Int)) <|
  T.tr_number_l1 a0 a1 a2 a3 (IntKind.i64.wrap ((IntKind.i64.wrap (10 * a4)) + (IntKind.i64.wrap ((u8w ((byteAt a3 a6) - 48)).toNat : Int)))) a5 (IntKind.i64.wrap (a6 + 1))
 ) else (
  (tr_put a0 a1 (Token.mk 2 a3 a4 a2)).bind fun (r1, r2) =>
  some (a1, r1, r2)
 )
noncomputable def tab_tr_number_l1 : Nat → Tab_tr_number_l1
 | 0 => ⟨0, fun _ _ _ _ _ _ _ => none⟩
 | k + 1 => ⟨k + 1, tr_number_l1_b (tab_tr_number_l1 k)⟩
noncomputable def tr_number_l1 (k : Nat) := (tab_tr_number_l1 k).tr_number_l1
structure Ok_tr_number_l1 (m : Nat) : Prop where
 tr_number_l1 : Sd7 (tab_tr_number_l1 m).tr_number_l1 tr_number_l1_J
theorem tr_number_l1_okb {m : Nat} (ih : Ok_tr_number_l1 m) : Sd7 (tr_number_l1_b (tab_tr_number_l1 m)) tr_number_l1_J := by
 intro a0 a1 a2 a3 a4 a5 a6 r h cx
 unfold tr_number_l1_b at h
 obtain ⟨h1, h⟩ | ⟨h1, h⟩ := ite_some h
 · obtain ⟨h2, h⟩ := chk_some h
   exact tt 13 [(1, .br true), (3, .reg [] [(5, .one (.int .u8 ((u8w ((byteAt a3 a6) - 48)).toNat : Int)))])] [] [0, 3, 4, 5, 20, 21] [(0, 0)] 1 [pf (dt h1), pf h2, @pf (U8P ((byteAt a3 a6) - 48)) (u8P _)] (ih.tr_number_l1 h cx)
 · obtain ⟨⟨r1, r2⟩, h2, h⟩ := bs h fun _ => tr_put_ok
   obtain rfl := Option.some.inj h
   exact rr 9 [(1, .br false), (2, .reg [(5, cl [0] h2)] [])] [] [(0, 0), (98, 1)] 2 [pf (df h1), pf h2]
theorem ok_tr_number_l1 : ∀ m, Ok_tr_number_l1 m
 | 0 => ⟨(fun h => nomatch (show none = some _ from h))⟩
 | m + 1 => ⟨tr_number_l1_okb (ok_tr_number_l1 m)⟩
theorem tr_number_l1_ok {k : Nat} : Sd7 (tr_number_l1 k) tr_number_l1_J := (ok_tr_number_l1 k).tr_number_l1

noncomputable def tr_run_digit_O (a0 : Str) (a1 : Int) (a2 : Str) : List O := [.var 78 [.str a0, .int .i64 a1, .nil 4]]
noncomputable def tr_run_digit_V (a0 : Str) (a1 : Int) (a2 : Str) : V := .one (.str a2)
noncomputable def tr_run_digit_J (a0 : Str) (a1 : Int) (r : (Int × Str)) : Prop := Has prog 79 [.one (.ptr 0 0), .one (.fn 64 [] [])] [.var 78 [.str a0, .int .i64 a1, .nil 4]] (tr_run_digit_O a0 r.1 r.2) (tr_run_digit_V a0 r.1 r.2)
noncomputable def tr_run_digit_j2_K : List Item := stackAt (bodyOf f79) [1, 1, 0, 0, 0, 0, 1] []
noncomputable def tr_run_digit_j2_S (a0 : Str) (a1 a2 : Int) (a3 : Bool) : St := ⟨[(0, .one (.ptr 0 0)), (1, .one (.fn 64 [] [])), (5, .one (.int .i64 a2)), (32, .one (.bool a3))], [(0, .var 78 [.str a0, .int .i64 a1, .nil 4])], 1, 50, 1⟩
noncomputable def tr_run_digit_j2_J (a0 : Str) (a1 a2 : Int) (a3 : Bool) (r : (Int × Str)) : Prop := ∀ cx : Cx, AK prog cx tr_run_digit_j2_K (tr_run_digit_j2_S a0 a1 a2 a3) (Fin lay f79.results.toList 1 fun o v => o = tr_run_digit_O a0 r.1 r.2 ∧ v = tr_run_digit_V a0 r.1 r.2)
noncomputable def tr_run_digit_l1_K : List Item := stackAt (bodyOf f79) [1, 1, 0, 0, 0] []
noncomputable def tr_run_digit_l1_S (a0 : Str) (a1 a2 : Int) : St := ⟨[(0, .one (.ptr 0 0)), (1, .one (.fn 64 [] [])), (5, .one (.int .i64 a2))], [(0, .var 78 [.str a0, .int .i64 a1, .nil 4])], 1, 50, 1⟩
noncomputable def tr_run_digit_l1_J (a0 : Str) (a1 a2 : Int) (r : (Int × Str)) : Prop := ∀ cx : Cx, AK prog cx tr_run_digit_l1_K (tr_run_digit_l1_S a0 a1 a2) (Fin lay f79.results.toList 1 fun o v => o = tr_run_digit_O a0 r.1 r.2 ∧ v = tr_run_digit_V a0 r.1 r.2)
structure Tab_tr_run_digit_j2 where
 k : Nat
 tr_run_digit_l1 : Str → Int → Int → Option (Int × Str)
noncomputable def tr_run_digit_j2_b (T : Tab_tr_run_digit_j2) (a0 : Str) (a1 a2 : Int) (a3 : Bool) : Option (Int × Str) :=
 if a3 = true then (
  T.tr_run_digit_l1 a0 (IntKind.i64.wrap (a1 + 1)) a2
 ) else (
  chk (0 ≤ a2 ∧ a2 ≤ a1 ∧ a1 ≤ (a0.length : Int)) <|
  some (a1, (sub a0 a2 a1))
 )
noncomputable def tr_run_digit_l1_b (T : Tab_tr_run_digit_j2) (a0 : Str) (a1 a2 : Int) : Option (Int × Str) :=
 if a1 < (a0.length : Int) then (
  chk (0 ≤ a1 ∧ a1 < (a0.length : Int)) <|
  (token_digit (u8At a0 a1)).bind fun r1 =>
  tr_run_digit_j2_b T a0 a1 a2 r1
 ) else (
  tr_run_digit_j2_b T a0 a1 a2 false
 )
noncomputable def tab_tr_run_digit_j2 : Nat → Tab_tr_run_digit_j2
 | 0 => ⟨0, fun _ _ _ => none⟩
 | k + 1 => ⟨k + 1, tr_run_digit_l1_b (tab_tr_run_digit_j2 k)⟩
noncomputable def tr_run_digit_l1 (k : Nat) := (tab_tr_run_digit_j2 k).tr_run_digit_l1
structure Ok_tr_run_digit_j2 (m : Nat) : Prop where
 tr_run_digit_l1 : Sd3 (tab_tr_run_digit_j2 m).tr_run_digit_l1 tr_run_digit_l1_J
theorem tr_run_digit_j2_okb {m : Nat} (ih : Ok_tr_run_digit_j2 m) : Sd4 (tr_run_digit_j2_b (tab_tr_run_digit_j2 m)) tr_run_digit_j2_J := by
 intro a0 a1 a2 a3 r h cx
 unfold tr_run_digit_j2_b at h
 obtain ⟨h1, h⟩ | ⟨h1, h⟩ := ite_some h
 · exact tt 6 [(0, .br true)] [] [0, 1, 5] [(0, 0)] 1 [pf (bt h1)] (ih.tr_run_digit_l1 h cx)
 · obtain ⟨h2, h⟩ := chk_some h
   obtain rfl := Option.some.inj h
   exact rr 6 [(0, .br false)] [] [(0, 0)] 1 [pf (bf h1), pf h2]
theorem tr_run_digit_l1_okb {m : Nat} (ih : Ok_tr_run_digit_j2 m) : Sd3 (tr_run_digit_l1_b (tab_tr_run_digit_j2 m)) tr_run_digit_l1_J := by
 intro a0 a1 a2 r h cx
 unfold tr_run_digit_l1_b at h
 obtain ⟨h1, h⟩ | ⟨h1, h⟩ := ite_some h
 · obtain ⟨h2, h⟩ := chk_some h
   obtain ⟨r1, h3, h⟩ := bs h fun _ => token_digit_ok
   exact tt 3 [(0, .reg [(21, cl [] h3)] [(10, .bool true)])] [] [0, 1, 5, 32] [(0, 0)] 1 [pf (dt h1), pf h2, pf h3] (tr_run_digit_j2_okb ih h cx)
 · exact tt 3 [(0, .reg [] [(10, .bool false)])] [] [0, 1, 5, 32] [(0, 0)] 1 [pf (df h1)] (tr_run_digit_j2_okb ih h cx)
theorem ok_tr_run_digit_j2 : ∀ m, Ok_tr_run_digit_j2 m
 | 0 => ⟨(fun h => nomatch (show none = some _ from h))⟩
 | m + 1 => ⟨tr_run_digit_l1_okb (ok_tr_run_digit_j2 m)⟩
theorem tr_run_digit_l1_ok {k : Nat} : Sd3 (tr_run_digit_l1 k) tr_run_digit_l1_J := (ok_tr_run_digit_j2 k).tr_run_digit_l1

noncomputable def tr_run_digit (k : Nat) (a0 : Str) (a1 : Int) : Option (Int × Str) :=
 tr_run_digit_l1 k a0 a1 a1
theorem tr_run_digit_ok {k : Nat} : Sd2 (tr_run_digit k) tr_run_digit_J := by
 intro a0 a1 r h
 unfold tr_run_digit at h
 refine ent (c := bodyOf f79) func79 rfl rfl rfl fun cx => ?_
 exact tt 7 [] [] [0, 1, 5] [(0, 0)] 1 [] (tr_run_digit_l1_ok h cx)

noncomputable def tr_number (k : Nat) (a0 : Str) (a1 : Int) : Option (Int × (List Token) × Int) :=
 (tr_run_digit k a0 a1).bind fun (r1, r2) =>
 if 18 < (r2.length : Int) then (
  (tr_form a0 r1 a1).bind fun (r3, r4) =>
  some (r3, [], r4)
 ) else (
  tr_number_l1 k a0 r1 a1 r2 0 (r2.length : Int) 0
 )
theorem tr_number_ok {k : Nat} : Sd2 (tr_number k) tr_number_J := by
 intro a0 a1 r h
 unfold tr_number at h
 refine ent (c := bodyOf f65) func65 rfl rfl rfl fun cx => ?_
 obtain ⟨⟨r1, r2⟩, h1, h⟩ := bs h fun _ => tr_run_digit_ok
 obtain ⟨h2, h⟩ | ⟨h2, h⟩ := ite_some h
 · obtain ⟨⟨r3, r4⟩, h3, h⟩ := bs h fun _ => tr_form_ok
   obtain rfl := Option.some.inj h
   exact rr 14 [(2, .reg [(1, cl [0] h1)] []), (4, .br true), (5, .reg [(2, cl [0] h3)] [])] [.cellOwn 0 2 257 66] [(0, 0), (257, 1)] 2 [pf h1, pf (dt h2), pf h3]
 · exact tt 18 [(2, .reg [(1, cl [0] h1)] []), (4, .br false)] [] [0, 3, 4, 5, 20, 21] [(0, 0)] 1 [pf h1, pf (df h2)] (tr_number_l1_ok h cx)

noncomputable def tr_text_O (a0 : Str) (a1 : Int) (a2 : List Token) (a3 : Int) : List O := [.var 78 [.str a0, .int .i64 a1, .own 4 (Row.rows (α := Token) a2) 1], .row 66 4]
noncomputable def tr_text_V (a0 : Str) (a1 : Int) (a2 : List Token) (a3 : Int) : V := .one (.int .i64 a3)
noncomputable def tr_text_J (a0 : Str) (a1 : Int) (r : (Int × (List Token) × Int)) : Prop := Has prog 66 [.one (.ptr 0 0)] [.var 78 [.str a0, .int .i64 a1, .nil 4]] (tr_text_O a0 r.1 r.2.1 r.2.2) (tr_text_V a0 r.1 r.2.1 r.2.2)
noncomputable def tr_text_j5_K : List Item := stackAt (bodyOf f66) [1, 1, 1, 0, 1, 0, 0, 1, 0, 0, 1, 0, 0, 1] []
noncomputable def tr_text_j5_S (a0 : Str) (a1 : Int) (a2 : List UInt8) (a3 : Int) (a4 : UInt8) (a5 : Bool) : St := ⟨[(0, .one (.ptr 0 0)), (3, .one (.int .i64 a3)), (4, .one (.ptr 1 0)), (5, .one (.int .u8 (a4.toNat : Int))), (43, .one (.bool a5))], [(0, .var 78 [.str a0, .int .i64 a1, .nil 4]), (1, .var 120 [.ptr 1 0, .own 1 (Row.rows (α := UInt8) a2) 2]), (2, .row 5 1)], 3, 101, 1⟩
noncomputable def tr_text_j5_J (a0 : Str) (a1 : Int) (a2 : List UInt8) (a3 : Int) (a4 : UInt8) (a5 : Bool) (r : (Int × (List Token) × Int)) : Prop := ∀ cx : Cx, AK prog cx tr_text_j5_K (tr_text_j5_S a0 a1 a2 a3 a4 a5) (Fin lay f66.results.toList 1 fun o v => o = tr_text_O a0 r.1 r.2.1 r.2.2 ∧ v = tr_text_V a0 r.1 r.2.1 r.2.2)
noncomputable def tr_text_l4_K : List Item := stackAt (bodyOf f66) [1, 1, 1, 0, 1, 0, 0] []
noncomputable def tr_text_l4_S (a0 : Str) (a1 : Int) (a2 : List UInt8) (a3 : Int) : St := ⟨[(0, .one (.ptr 0 0)), (3, .one (.int .i64 a3)), (4, .one (.ptr 1 0))], [(0, .var 78 [.str a0, .int .i64 a1, .nil 4]), (1, .var 120 [.ptr 1 0, .own 1 (Row.rows (α := UInt8) a2) 2]), (2, .row 5 1)], 3, 101, 1⟩
noncomputable def tr_text_l4_J (a0 : Str) (a1 : Int) (a2 : List UInt8) (a3 : Int) (r : (Int × (List Token) × Int)) : Prop := ∀ cx : Cx, AK prog cx tr_text_l4_K (tr_text_l4_S a0 a1 a2 a3) (Fin lay f66.results.toList 1 fun o v => o = tr_text_O a0 r.1 r.2.1 r.2.2 ∧ v = tr_text_V a0 r.1 r.2.1 r.2.2)
noncomputable def tr_text_j3_K : List Item := stackAt (bodyOf f66) [1, 1, 1, 0, 1, 0, 0, 1, 1] []
noncomputable def tr_text_j3_S (a0 : Str) (a1 : Int) (a2 : List UInt8) (a3 : Int) : St := ⟨[(0, .one (.ptr 0 0)), (3, .one (.int .i64 a3)), (4, .one (.ptr 1 0))], [(0, .var 78 [.str a0, .int .i64 a1, .nil 4]), (1, .var 120 [.ptr 1 0, .own 1 (Row.rows (α := UInt8) a2) 2]), (2, .row 5 1)], 3, 101, 1⟩
noncomputable def tr_text_j3_J (a0 : Str) (a1 : Int) (a2 : List UInt8) (a3 : Int) (r : (Int × (List Token) × Int)) : Prop := ∀ cx : Cx, AK prog cx tr_text_j3_K (tr_text_j3_S a0 a1 a2 a3) (Fin lay f66.results.toList 1 fun o v => o = tr_text_O a0 r.1 r.2.1 r.2.2 ∧ v = tr_text_V a0 r.1 r.2.1 r.2.2)
structure Tab_tr_text_j3 where
 k : Nat
 tr_text_j3 : Str → Int → (List UInt8) → Int → Option (Int × (List Token) × Int)
 tr_text_l4 : Str → Int → (List UInt8) → Int → Option (Int × (List Token) × Int)
noncomputable def tr_text_j3_b (T : Tab_tr_text_j3) (a0 : Str) (a1 : Int) (a2 : List UInt8) (a3 : Int) : Option (Int × (List Token) × Int) :=
 T.tr_text_l4 a0 (IntKind.i64.wrap (a1 + 1)) a2 a3
noncomputable def tr_text_j5_b (T : Tab_tr_text_j3) (a0 : Str) (a1 : Int) (a2 : List UInt8) (a3 : Int) (a4 : UInt8) (a5 : Bool) : Option (Int × (List Token) × Int) :=
 if a5 = true then (
  (tr_form a0 a1 a1).bind fun (r1, r2) =>
  some (r1, [], r2)
 ) else (
  if (a4.toNat : Int) = 39 then (
   chk (0 ≤ a1 ∧ a1 ≤ (a0.length : Int) ∧ (a0.length : Int) ≤ (a0.length : Int)) <|
   (strings_HasPrefix (sub a0 a1 (a0.length : Int)) s_x27x27).bind fun r1 =>
   if r1 = true then (
    (sb_WriteByte_2 a2 a4).bind fun r2 =>
    T.tr_text_j3 a0 (IntKind.i64.wrap (a1 + 1)) r2 a3
   ) else (
    (sb_Len_2 a2).bind fun r2 =>
    if 1000 < r2 then (
     (tr_form a0 (IntKind.i64.wrap (a1 + 1)) a3).bind fun (r3, r4) =>
     some (r3, [], r4)
    ) else (
     (sb_String_2 a2).bind fun r3 =>
     (tr_put a0 (IntKind.i64.wrap (a1 + 1)) (Token.mk 3 r3 0 a3)).bind fun (r4, r5) =>
     some ((IntKind.i64.wrap (a1 + 1)), r4, r5)
    )
   )
  ) else (
   (sb_WriteByte_2 a2 a4).bind fun r1 =>
   T.tr_text_j3 a0 a1 r1 a3
  )
 )
noncomputable def tr_text_l4_b (T : Tab_tr_text_j3) (a0 : Str) (a1 : Int) (a2 : List UInt8) (a3 : Int) : Option (Int × (List Token) × Int) :=
 if a1 < (a0.length : Int) then (
  chk (0 ≤ a1 ∧ a1 < (a0.length : Int)) <|
  if (byteAt a0 a1) < 32 then (
   tr_text_j5_b T a0 a1 a2 a3 (u8At a0 a1) (!(decide ((byteAt a0 a1) = 10)))
  ) else (
   tr_text_j5_b T a0 a1 a2 a3 (u8At a0 a1) false
  )
 ) else (
  (tr_form a0 a1 a3).bind fun (r1, r2) =>
  some (r1, [], r2)
 )
noncomputable def tab_tr_text_j3 : Nat → Tab_tr_text_j3
 | 0 => ⟨0, fun _ _ _ _ => none, fun _ _ _ _ => none⟩
 | k + 1 => ⟨k + 1, tr_text_j3_b (tab_tr_text_j3 k), tr_text_l4_b (tab_tr_text_j3 k)⟩
noncomputable def tr_text_j3 (k : Nat) := (tab_tr_text_j3 k).tr_text_j3
noncomputable def tr_text_l4 (k : Nat) := (tab_tr_text_j3 k).tr_text_l4
structure Ok_tr_text_j3 (m : Nat) : Prop where
 tr_text_j3 : Sd4 (tab_tr_text_j3 m).tr_text_j3 tr_text_j3_J
 tr_text_l4 : Sd4 (tab_tr_text_j3 m).tr_text_l4 tr_text_l4_J
theorem tr_text_j3_okb {m : Nat} (ih : Ok_tr_text_j3 m) : Sd4 (tr_text_j3_b (tab_tr_text_j3 m)) tr_text_j3_J := by
 intro a0 a1 a2 a3 r h cx
 unfold tr_text_j3_b at h
 exact tt 2 [] [] [0, 3, 4] [(0, 0), (1, 1), (2, 2)] 3 [] (ih.tr_text_l4 h cx)
theorem tr_text_j5_okb {m : Nat} (ih : Ok_tr_text_j3 m) : Sd6 (tr_text_j5_b (tab_tr_text_j3 m)) tr_text_j5_J := by
 intro a0 a1 a2 a3 a4 a5 r h cx
 unfold tr_text_j5_b at h
 obtain ⟨h1, h⟩ | ⟨h1, h⟩ := ite_some h
 · obtain ⟨⟨r1, r2⟩, h2, h⟩ := bs h fun _ => tr_form_ok
   obtain rfl := Option.some.inj h
   exact rr 5 [(0, .br true), (1, .reg [(5, cl [0] h2)] [])] [.cellOwn 0 2 115 66] [(0, 0), (115, 1)] 2 [pf (bt h1), pf h2]
 · obtain ⟨h2, h⟩ | ⟨h2, h⟩ := ite_some h
   · obtain ⟨h3, h⟩ := chk_some h
     obtain ⟨r1, h4, h⟩ := bs h fun _ => strings_HasPrefix_ok
     obtain ⟨h5, h⟩ | ⟨h5, h⟩ := ite_some h
     · obtain ⟨r2, h6, h⟩ := bs h fun _ => sb_WriteByte_2_ok
       exact tt 12 [(0, .br false), (2, .br false), (3, .reg [(9, cl [] h4)] []), (4, .br true), (5, .reg [(1, cl [1, 2] h6)] [])] [] [0, 3, 4] [(0, 0), (1, 1), (244, 2)] 3 [pf (bf h1), pf (ndf h2), pf h3, pf h4, pf (bt h5), pf h6] (ih.tr_text_j3 h cx)
     · obtain ⟨r2, h6, h⟩ := bs h fun _ => sb_Len_2_ok
       obtain ⟨h7, h⟩ | ⟨h7, h⟩ := ite_some h
       · obtain ⟨⟨r3, r4⟩, h8, h⟩ := bs h fun _ => tr_form_ok
         obtain rfl := Option.some.inj h
         exact rr 19 [(0, .br false), (2, .br false), (3, .reg [(9, cl [] h4)] []), (4, .br false), (6, .reg [(0, cl [1, 2] h6)] []), (7, .br true), (8, .reg [(2, cl [0] h8)] [])] [.cellOwn 0 2 451 66] [(0, 0), (451, 1)] 2 [pf (bf h1), pf (ndf h2), pf h3, pf h4, pf (bf h5), pf h6, pf (dt h7), pf h8]
       · obtain ⟨r3, h8, h⟩ := bs h fun _ => sb_String_2_ok
         obtain ⟨⟨r4, r5⟩, h9, h⟩ := bs h fun _ => tr_put_ok
         obtain rfl := Option.some.inj h
         exact rr 20 [(0, .br false), (2, .br false), (3, .reg [(9, cl [] h4)] []), (4, .br false), (6, .reg [(0, cl [1, 2] h6)] []), (7, .br false), (8, .reg [(1, cl [1, 356] h8), (4, cl [0] h9)] [])] [] [(0, 0), (452, 1)] 2 [pf (bf h1), pf (ndf h2), pf h3, pf h4, pf (bf h5), pf h6, pf (df h7), pf h8, pf h9]
   · obtain ⟨r1, h3, h⟩ := bs h fun _ => sb_WriteByte_2_ok
     exact tt 7 [(0, .br false), (2, .br true), (3, .reg [(1, cl [1, 2] h3)] [])] [] [0, 3, 4] [(0, 0), (1, 1), (68, 2)] 3 [pf (bf h1), pf (ndt h2), pf h3] (ih.tr_text_j3 h cx)
theorem tr_text_l4_okb {m : Nat} (ih : Ok_tr_text_j3 m) : Sd4 (tr_text_l4_b (tab_tr_text_j3 m)) tr_text_l4_J := by
 intro a0 a1 a2 a3 r h cx
 unfold tr_text_l4_b at h
 obtain ⟨h1, h⟩ | ⟨h1, h⟩ := ite_some h
 · obtain ⟨h2, h⟩ := chk_some h
   obtain ⟨h3, h⟩ | ⟨h3, h⟩ := ite_some h
   · exact tt 13 [(1, .br true), (3, .reg [] [(2, .bool true)])] [] [0, 3, 4, 5, 43] [(0, 0), (1, 1), (2, 2)] 3 [pf (dt h1), pf h2, pf (dt h3)] (tr_text_j5_okb ih h cx)
   · exact tt 13 [(1, .br true), (3, .reg [] [(2, .bool false)])] [] [0, 3, 4, 5, 43] [(0, 0), (1, 1), (2, 2)] 3 [pf (dt h1), pf h2, pf (df h3)] (tr_text_j5_okb ih h cx)
 · obtain ⟨⟨r1, r2⟩, h2, h⟩ := bs h fun _ => tr_form_ok
   obtain rfl := Option.some.inj h
   exact rr 9 [(1, .br false), (2, .reg [(2, cl [0] h2)] [])] [.cellOwn 0 2 227 66] [(0, 0), (227, 1)] 2 [pf (df h1), pf h2]
theorem ok_tr_text_j3 : ∀ m, Ok_tr_text_j3 m
 | 0 => ⟨(fun h => nomatch (show none = some _ from h)), (fun h => nomatch (show none = some _ from h))⟩
 | m + 1 => ⟨tr_text_j3_okb (ok_tr_text_j3 m), tr_text_l4_okb (ok_tr_text_j3 m)⟩
theorem tr_text_j3_ok {k : Nat} : Sd4 (tr_text_j3 k) tr_text_j3_J := (ok_tr_text_j3 k).tr_text_j3
theorem tr_text_l4_ok {k : Nat} : Sd4 (tr_text_l4 k) tr_text_l4_J := (ok_tr_text_j3 k).tr_text_l4

noncomputable def tr_text_j2_K : List Item := stackAt (bodyOf f66) [1, 1, 1, 0, 1, 0, 0, 1, 0, 0, 1, 0, 0, 1] []
noncomputable def tr_text_j2_S (a0 : Str) (a1 a2 : Int) (a3 : UInt8) (a4 : Bool) : St := ⟨[(0, .one (.ptr 0 0)), (3, .one (.int .i64 a2)), (4, .one (.ptr 1 0)), (5, .one (.int .u8 (a3.toNat : Int))), (43, .one (.bool a4))], [(0, .var 78 [.str a0, .int .i64 a1, .nil 4]), (1, .var 120 [.c (.lit (.pointer none)), .nil 1])], 2, 101, 1⟩
noncomputable def tr_text_j2_J (a0 : Str) (a1 a2 : Int) (a3 : UInt8) (a4 : Bool) (r : (Int × (List Token) × Int)) : Prop := ∀ cx : Cx, AK prog cx tr_text_j2_K (tr_text_j2_S a0 a1 a2 a3 a4) (Fin lay f66.results.toList 1 fun o v => o = tr_text_O a0 r.1 r.2.1 r.2.2 ∧ v = tr_text_V a0 r.1 r.2.1 r.2.2)
noncomputable def tr_text_j2 (k : Nat) (a0 : Str) (a1 a2 : Int) (a3 : UInt8) (a4 : Bool) : Option (Int × (List Token) × Int) :=
 if a4 = true then (
  (tr_form a0 a1 a1).bind fun (r1, r2) =>
  some (r1, [], r2)
 ) else (
  if (a3.toNat : Int) = 39 then (
   chk (0 ≤ a1 ∧ a1 ≤ (a0.length : Int) ∧ (a0.length : Int) ≤ (a0.length : Int)) <|
   (strings_HasPrefix (sub a0 a1 (a0.length : Int)) s_x27x27).bind fun r1 =>
   if r1 = true then (
    (sb_WriteByte a3).bind fun r2 =>
    tr_text_j3 k a0 (IntKind.i64.wrap (a1 + 1)) r2 a2
   ) else (
    (sb_Len).bind fun r2 =>
    if 1000 < r2 then (
     (tr_form a0 (IntKind.i64.wrap (a1 + 1)) a2).bind fun (r3, r4) =>
     some (r3, [], r4)
    ) else (
     (sb_String).bind fun r3 =>
     (tr_put a0 (IntKind.i64.wrap (a1 + 1)) (Token.mk 3 r3 0 a2)).bind fun (r4, r5) =>
     some ((IntKind.i64.wrap (a1 + 1)), r4, r5)
    )
   )
  ) else (
   (sb_WriteByte a3).bind fun r1 =>
   tr_text_j3 k a0 a1 r1 a2
  )
 )
theorem tr_text_j2_ok {k : Nat} : Sd5 (tr_text_j2 k) tr_text_j2_J := by
 intro a0 a1 a2 a3 a4 r h cx
 unfold tr_text_j2 at h
 obtain ⟨h1, h⟩ | ⟨h1, h⟩ := ite_some h
 · obtain ⟨⟨r1, r2⟩, h2, h⟩ := bs h fun _ => tr_form_ok
   obtain rfl := Option.some.inj h
   exact rr 5 [(0, .br true), (1, .reg [(5, cl [0] h2)] [])] [.cellOwn 0 2 114 66] [(0, 0), (114, 1)] 2 [pf (bt h1), pf h2]
 · obtain ⟨h2, h⟩ | ⟨h2, h⟩ := ite_some h
   · obtain ⟨h3, h⟩ := chk_some h
     obtain ⟨r1, h4, h⟩ := bs h fun _ => strings_HasPrefix_ok
     obtain ⟨h5, h⟩ | ⟨h5, h⟩ := ite_some h
     · obtain ⟨r2, h6, h⟩ := bs h fun _ => sb_WriteByte_ok
       exact tt 12 [(0, .br false), (2, .br false), (3, .reg [(9, cl [] h4)] []), (4, .br true), (5, .reg [(1, cl [1] h6)] [])] [] [0, 3, 4] [(0, 0), (1, 1), (243, 2)] 3 [pf (bf h1), pf (ndf h2), pf h3, pf h4, pf (bt h5), pf h6] (tr_text_j3_ok h cx)
     · obtain ⟨r2, h6, h⟩ := bs h fun _ => sb_Len_ok
       obtain ⟨h7, h⟩ | ⟨h7, h⟩ := ite_some h
       · obtain ⟨⟨r3, r4⟩, h8, h⟩ := bs h fun _ => tr_form_ok
         obtain rfl := Option.some.inj h
         exact rr 19 [(0, .br false), (2, .br false), (3, .reg [(9, cl [] h4)] []), (4, .br false), (6, .reg [(0, cl [1] h6 [0])] []), (7, .br true), (8, .reg [(2, cl [0] h8)] [])] [.cellOwn 0 2 450 66] [(0, 0), (450, 1)] 2 [pf (bf h1), pf (ndf h2), pf h3, pf h4, pf (bf h5), pf h6, @pf (SameO (.var 120 [.c (.lit (.pointer none)), .nil 1])) rfl, pf (dt h7), pf h8]
       · obtain ⟨r3, h8, h⟩ := bs h fun _ => sb_String_ok
         obtain ⟨⟨r4, r5⟩, h9, h⟩ := bs h fun _ => tr_put_ok
         obtain rfl := Option.some.inj h
         exact rr 20 [(0, .br false), (2, .br false), (3, .reg [(9, cl [] h4)] []), (4, .br false), (6, .reg [(0, cl [1] h6 [0])] []), (7, .br false), (8, .reg [(1, cl [1] h8 [0]), (4, cl [0] h9)] [])] [] [(0, 0), (451, 1)] 2 [pf (bf h1), pf (ndf h2), pf h3, pf h4, pf (bf h5), pf h6, @pf (SameO (.var 120 [.c (.lit (.pointer none)), .nil 1])) rfl, pf (df h7), pf h8, @pf (SameO (.var 120 [.c (.lit (.pointer none)), .nil 1])) rfl, pf h9]
   · obtain ⟨r1, h3, h⟩ := bs h fun _ => sb_WriteByte_ok
     exact tt 7 [(0, .br false), (2, .br true), (3, .reg [(1, cl [1] h3)] [])] [] [0, 3, 4] [(0, 0), (1, 1), (67, 2)] 3 [pf (bf h1), pf (ndt h2), pf h3] (tr_text_j3_ok h cx)

noncomputable def tr_text_l1_K : List Item := stackAt (bodyOf f66) [1, 1, 1, 0, 1, 0, 0] []
noncomputable def tr_text_l1_S (a0 : Str) (a1 a2 : Int) : St := ⟨[(0, .one (.ptr 0 0)), (3, .one (.int .i64 a2)), (4, .one (.ptr 1 0))], [(0, .var 78 [.str a0, .int .i64 a1, .nil 4]), (1, .var 120 [.c (.lit (.pointer none)), .nil 1])], 2, 101, 1⟩
noncomputable def tr_text_l1_J (a0 : Str) (a1 a2 : Int) (r : (Int × (List Token) × Int)) : Prop := ∀ cx : Cx, AK prog cx tr_text_l1_K (tr_text_l1_S a0 a1 a2) (Fin lay f66.results.toList 1 fun o v => o = tr_text_O a0 r.1 r.2.1 r.2.2 ∧ v = tr_text_V a0 r.1 r.2.1 r.2.2)
noncomputable def tr_text_l1 (k : Nat) (a0 : Str) (a1 a2 : Int) : Option (Int × (List Token) × Int) :=
 if a1 < (a0.length : Int) then (
  chk (0 ≤ a1 ∧ a1 < (a0.length : Int)) <|
  if (byteAt a0 a1) < 32 then (
   tr_text_j2 k a0 a1 a2 (u8At a0 a1) (!(decide ((byteAt a0 a1) = 10)))
  ) else (
   tr_text_j2 k a0 a1 a2 (u8At a0 a1) false
  )
 ) else (
  (tr_form a0 a1 a2).bind fun (r1, r2) =>
  some (r1, [], r2)
 )
theorem tr_text_l1_ok {k : Nat} : Sd3 (tr_text_l1 k) tr_text_l1_J := by
 intro a0 a1 a2 r h cx
 unfold tr_text_l1 at h
 obtain ⟨h1, h⟩ | ⟨h1, h⟩ := ite_some h
 · obtain ⟨h2, h⟩ := chk_some h
   obtain ⟨h3, h⟩ | ⟨h3, h⟩ := ite_some h
   · exact tt 13 [(1, .br true), (3, .reg [] [(2, .bool true)])] [] [0, 3, 4, 5, 43] [(0, 0), (1, 1)] 2 [pf (dt h1), pf h2, pf (dt h3)] (tr_text_j2_ok h cx)
   · exact tt 13 [(1, .br true), (3, .reg [] [(2, .bool false)])] [] [0, 3, 4, 5, 43] [(0, 0), (1, 1)] 2 [pf (dt h1), pf h2, pf (df h3)] (tr_text_j2_ok h cx)
 · obtain ⟨⟨r1, r2⟩, h2, h⟩ := bs h fun _ => tr_form_ok
   obtain rfl := Option.some.inj h
   exact rr 9 [(1, .br false), (2, .reg [(2, cl [0] h2)] [])] [.cellOwn 0 2 226 66] [(0, 0), (226, 1)] 2 [pf (df h1), pf h2]

noncomputable def tr_text (k : Nat) (a0 : Str) (a1 : Int) : Option (Int × (List Token) × Int) :=
 tr_text_l1 k a0 (IntKind.i64.wrap (a1 + 1)) a1
theorem tr_text_ok {k : Nat} : Sd2 (tr_text k) tr_text_J := by
 intro a0 a1 r h
 unfold tr_text at h
 refine ent (c := bodyOf f66) func66 rfl rfl rfl fun cx => ?_
 exact tt 11 [] [] [0, 3, 4] [(0, 0), (97, 1)] 2 [] (tr_text_l1_ok h cx)

noncomputable def tr_next_O (a0 : Str) (a1 : Int) (a2 : List Token) (a3 : Int) : List O := [.var 78 [.str a0, .int .i64 a1, .own 4 (Row.rows (α := Token) a2) 1], .row 66 4]
noncomputable def tr_next_V (a0 : Str) (a1 : Int) (a2 : List Token) (a3 : Int) : V := .one (.int .i64 a3)
noncomputable def tr_next_J (a0 : Str) (a1 : Int) (r : (Int × (List Token) × Int)) : Prop := Has prog 36 [.one (.ptr 0 0)] [.var 78 [.str a0, .int .i64 a1, .nil 4]] (tr_next_O a0 r.1 r.2.1 r.2.2) (tr_next_V a0 r.1 r.2.1 r.2.2)
noncomputable def tr_next (k : Nat) (a0 : Str) (a1 : Int) : Option (Int × (List Token) × Int) :=
 chk (0 ≤ a1 ∧ a1 < (a0.length : Int)) <|
 (token_letter (u8At a0 a1)).bind fun r1 =>
 if r1 = true then (
  (tr_name k a0 a1).bind fun (r2, r3, r4) =>
  some (r2, r3, r4)
 ) else (
  (token_digit (u8At a0 a1)).bind fun r2 =>
  if r2 = true then (
   (tr_number k a0 a1).bind fun (r3, r4, r5) =>
   some (r3, r4, r5)
  ) else (
   if (byteAt a0 a1) = 39 then (
    (tr_text k a0 a1).bind fun (r3, r4, r5) =>
    some (r3, r4, r5)
   ) else (
    (tr_mark a0 a1).bind fun (r3, r4, r5) =>
    some (r3, r4, r5)
   )
  )
 )
theorem tr_next_ok {k : Nat} : Sd2 (tr_next k) tr_next_J := by
 intro a0 a1 r h
 unfold tr_next at h
 refine ent (c := bodyOf f36) func36 rfl rfl rfl fun cx => ?_
 obtain ⟨h1, h⟩ := chk_some h
 obtain ⟨r1, h2, h⟩ := bs h fun _ => token_letter_ok
 obtain ⟨h3, h⟩ | ⟨h3, h⟩ := ite_some h
 · obtain ⟨⟨r2, r3, r4⟩, h4, h⟩ := bs h fun _ => tr_name_ok
   obtain rfl := Option.some.inj h
   exact rr 13 [(2, .reg [(1, cl [] h2)] []), (3, .br true), (4, .reg [(1, cl [0] h4)] [])] [] [(0, 0), (242, 1)] 2 [pf h1, pf h2, pf (bt h3), pf h4]
 · obtain ⟨r2, h4, h⟩ := bs h fun _ => token_digit_ok
   obtain ⟨h5, h⟩ | ⟨h5, h⟩ := ite_some h
   · obtain ⟨⟨r3, r4, r5⟩, h6, h⟩ := bs h fun _ => tr_number_ok
     obtain rfl := Option.some.inj h
     exact rr 16 [(2, .reg [(1, cl [] h2)] []), (3, .br false), (4, .reg [(1, cl [] h4)] []), (5, .br true), (6, .reg [(1, cl [0] h6)] [])] [] [(0, 0), (290, 1)] 2 [pf h1, pf h2, pf (bf h3), pf h4, pf (bt h5), pf h6]
   · obtain ⟨h6, h⟩ | ⟨h6, h⟩ := ite_some h
     · obtain ⟨⟨r3, r4, r5⟩, h7, h⟩ := bs h fun _ => tr_text_ok
       obtain rfl := Option.some.inj h
       exact rr 19 [(2, .reg [(1, cl [] h2)] []), (3, .br false), (4, .reg [(1, cl [] h4)] []), (5, .br false), (7, .br true), (8, .reg [(1, cl [0] h7)] [])] [] [(0, 0), (338, 1)] 2 [pf h1, pf h2, pf (bf h3), pf h4, pf (bf h5), pf (dt h6), pf h7]
     · obtain ⟨⟨r3, r4, r5⟩, h7, h⟩ := bs h fun _ => tr_mark_ok
       obtain rfl := Option.some.inj h
       exact rr 21 [(2, .reg [(1, cl [] h2)] []), (3, .br false), (4, .reg [(1, cl [] h4)] []), (5, .br false), (7, .br false), (8, .reg [(1, cl [0] h7)] [])] [] [(0, 0), (338, 1)] 2 [pf h1, pf h2, pf (bf h3), pf h4, pf (bf h5), pf (df h6), pf h7]
end Go.Syn
