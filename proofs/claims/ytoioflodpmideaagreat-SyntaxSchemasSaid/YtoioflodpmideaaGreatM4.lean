/- Part M4 of the model: each function answers as its plain twin in this text says, whenever that twin answers. No other condition. (Printed by a program of this work.) -/
import Derived.Test.YtoioflodpmideaaGreatM3
import Derived.Test.YtoioflodpmideaaGreatAbs22
namespace Go.Syn
open Go.Abs Go.Proofs.Tryz
set_option linter.unusedVariables false
noncomputable def r06_P_sum_O (a0 : PT) (a1 : Expr) : List O := [.var 74 (ca a0)]
noncomputable def r06_P_sum_V (a0 : PT) (a1 : Expr) : V := .agg (ca a1)
noncomputable def r06_P_sum_J (a0 : PT) (r : (PT × Expr)) : Prop := Has prog 139 [.one (.ptr 0 0)] [.var 74 (ca a0)] (r06_P_sum_O r.1 r.2) (r06_P_sum_V r.1 r.2)
noncomputable def r06_P_unary_O (a0 : PT) (a1 : Expr) : List O := [.var 74 (ca a0)]
noncomputable def r06_P_unary_V (a0 : PT) (a1 : Expr) : V := .agg (ca a1)
noncomputable def r06_P_unary_J (a0 : PT) (r : (PT × Expr)) : Prop := Has prog 153 [.one (.ptr 0 0)] [.var 74 (ca a0)] (r06_P_unary_O r.1 r.2) (r06_P_unary_V r.1 r.2)
noncomputable def r06_P_prod_O (a0 : PT) (a1 : Expr) : List O := [.var 74 (ca a0)]
noncomputable def r06_P_prod_V (a0 : PT) (a1 : Expr) : V := .agg (ca a1)
noncomputable def r06_P_prod_J (a0 : PT) (r : (PT × Expr)) : Prop := Has prog 149 [.one (.ptr 0 0)] [.var 74 (ca a0)] (r06_P_prod_O r.1 r.2) (r06_P_prod_V r.1 r.2)
noncomputable def r06_P_src_O (a0 : PT) (a1 : From) : List O := [.var 74 (ca a0)]
noncomputable def r06_P_src_V (a0 : PT) (a1 : From) : V := .agg (ca a1)
noncomputable def r06_P_src_J (a0 : PT) (r : (PT × From)) : Prop := Has prog 95 [.one (.ptr 0 0)] [.var 74 (ca a0)] (r06_P_src_O r.1 r.2) (r06_P_src_V r.1 r.2)
noncomputable def r06_P_one_O (a0 : PT) (a1 : From) : List O := [.var 74 (ca a0)]
noncomputable def r06_P_one_V (a0 : PT) (a1 : From) : V := .agg (ca a1)
noncomputable def r06_P_one_J (a0 : PT) (r : (PT × From)) : Prop := Has prog 123 [.one (.ptr 0 0)] [.var 74 (ca a0)] (r06_P_one_O r.1 r.2) (r06_P_one_V r.1 r.2)
noncomputable def r06_P_part_O (a0 : PT) (a1 : Query) : List O := [.var 74 (ca a0)]
noncomputable def r06_P_part_V (a0 : PT) (a1 : Query) : V := .agg (ca a1)
noncomputable def r06_P_part_J (a0 : PT) (r : (PT × Query)) : Prop := Has prog 58 [.one (.ptr 0 0)] [.var 74 (ca a0)] (r06_P_part_O r.1 r.2) (r06_P_part_V r.1 r.2)
noncomputable def r06_P_exprs_O (a0 : PT) (a1 : List Expr) : List O := [.var 74 (ca a0)]
noncomputable def r06_P_exprs_V (a0 : PT) (a1 : List Expr) : V := .one (.c (.sl 6 (Row.rows (α := Expr) a1)))
noncomputable def r06_P_exprs_J (a0 : PT) (r : (PT × (List Expr))) : Prop := Has prog 96 [.one (.ptr 0 0)] [.var 74 (ca a0)] (r06_P_exprs_O r.1 r.2) (r06_P_exprs_V r.1 r.2)
noncomputable def r06_P_Query_O (a0 : PT) (a1 : Query) : List O := [.var 74 (ca a0)]
noncomputable def r06_P_Query_V (a0 : PT) (a1 : Query) : V := .agg (ca a1)
noncomputable def r06_P_Query_J (a0 : PT) (r : (PT × Query)) : Prop := Has prog 31 [.one (.ptr 0 0)] [.var 74 (ca a0)] (r06_P_Query_O r.1 r.2) (r06_P_Query_V r.1 r.2)
noncomputable def r06_P_not_O (a0 : PT) (a1 : Expr) : List O := [.var 74 (ca a0)]
noncomputable def r06_P_not_V (a0 : PT) (a1 : Expr) : V := .agg (ca a1)
noncomputable def r06_P_not_J (a0 : PT) (r : (PT × Expr)) : Prop := Has prog 86 [.one (.ptr 0 0)] [.var 74 (ca a0)] (r06_P_not_O r.1 r.2) (r06_P_not_V r.1 r.2)
noncomputable def r06_P_and_O (a0 : PT) (a1 : Expr) : List O := [.var 74 (ca a0)]
noncomputable def r06_P_and_V (a0 : PT) (a1 : Expr) : V := .agg (ca a1)
noncomputable def r06_P_and_J (a0 : PT) (r : (PT × Expr)) : Prop := Has prog 53 [.one (.ptr 0 0)] [.var 74 (ca a0)] (r06_P_and_O r.1 r.2) (r06_P_and_V r.1 r.2)
noncomputable def r06_P_Expr_O (a0 : PT) (a1 : Expr) : List O := [.var 74 (ca a0)]
noncomputable def r06_P_Expr_V (a0 : PT) (a1 : Expr) : V := .agg (ca a1)
noncomputable def r06_P_Expr_J (a0 : PT) (r : (PT × Expr)) : Prop := Has prog 24 [.one (.ptr 0 0)] [.var 74 (ca a0)] (r06_P_Expr_O r.1 r.2) (r06_P_Expr_V r.1 r.2)
noncomputable def r06_P_sum_l1_K : List Item := stackAt (bodyOf f139) [1, 1, 1, 0, 0, 0] []
noncomputable def r06_P_sum_l1_S (a0 : PT) (a1 : Expr) (a2 : Str) : St := ⟨[(0, .one (.ptr 0 0)), (2, .one (.ptr 1 0)), (3, .one (.ptr 2 0)), (4, .one (.str a2))], [(0, .var 74 (ca a0)), (1, .var 26 [.int .i64 0, .int .i64 0, .str [], .str [], .nil 6, .nil 10]), (2, .var 26 (ca a1))], 3, 21, 1⟩
noncomputable def r06_P_sum_l1_J (a0 : PT) (a1 : Expr) (a2 : Str) (r : (PT × Expr)) : Prop := ∀ cx : Cx, AK prog cx r06_P_sum_l1_K (r06_P_sum_l1_S a0 a1 a2) (Fin lay f139.results.toList 1 fun o v => o = r06_P_sum_O r.1 r.2 ∧ v = r06_P_sum_V r.1 r.2)
noncomputable def r06_P_prim_j2_K : List Item := stackAt (bodyOf f157) [1, 1, 1, 1, 1, 1, 1, 1, 1, 1, 1, 1, 1, 0, 1] []
noncomputable def r06_P_prim_j2_S (a0 : PT) (a1 : Str) (a2 : Bool) : St := ⟨[(0, .one (.ptr 0 0)), (2, .one (.ptr 1 0)), (9, .one (.str a1)), (132, .one (.bool a2))], [(0, .var 74 (ca a0)), (1, .var 26 [.int .i64 0, .int .i64 0, .str [], .str [], .nil 6, .nil 10])], 2, 159, 1⟩
noncomputable def r06_P_prim_j2_J (a0 : PT) (a1 : Str) (a2 : Bool) (r : (PT × Expr)) : Prop := ∀ cx : Cx, AK prog cx r06_P_prim_j2_K (r06_P_prim_j2_S a0 a1 a2) (Fin lay f157.results.toList 1 fun o v => o = r06_P_prim_O r.1 r.2 ∧ v = r06_P_prim_V r.1 r.2)
noncomputable def r06_P_prod_l1_K : List Item := stackAt (bodyOf f149) [1, 1, 1, 0, 0, 0] []
noncomputable def r06_P_prod_l1_S (a0 : PT) (a1 : Expr) (a2 : Str) : St := ⟨[(0, .one (.ptr 0 0)), (2, .one (.ptr 1 0)), (3, .one (.ptr 2 0)), (4, .one (.str a2))], [(0, .var 74 (ca a0)), (1, .var 26 [.int .i64 0, .int .i64 0, .str [], .str [], .nil 6, .nil 10]), (2, .var 26 (ca a1))], 3, 21, 1⟩
noncomputable def r06_P_prod_l1_J (a0 : PT) (a1 : Expr) (a2 : Str) (r : (PT × Expr)) : Prop := ∀ cx : Cx, AK prog cx r06_P_prod_l1_K (r06_P_prod_l1_S a0 a1 a2) (Fin lay f149.results.toList 1 fun o v => o = r06_P_prod_O r.1 r.2 ∧ v = r06_P_prod_V r.1 r.2)
noncomputable def r06_P_src_j3_K : List Item := stackAt (bodyOf f95) [1, 1, 0, 0, 0, 1, 0, 1, 1] []
noncomputable def r06_P_src_j3_S (a0 : PT) (a1 : From) (a2 : Int) : St := ⟨[(0, .one (.ptr 0 0)), (2, .one (.ptr 1 0)), (3, .one (.ptr 2 0)), (4, .one (.int .i64 a2))], [(0, .var 74 (ca a0)), (1, .var 65 [.int .i64 0, .str [], .bool false, .str [], .nil 10, .nil 7, .nil 6]), (2, .var 65 (ca a1))], 3, 38, 1⟩
noncomputable def r06_P_src_j3_J (a0 : PT) (a1 : From) (a2 : Int) (r : (PT × From)) : Prop := ∀ cx : Cx, AK prog cx r06_P_src_j3_K (r06_P_src_j3_S a0 a1 a2) (Fin lay f95.results.toList 1 fun o v => o = r06_P_src_O r.1 r.2 ∧ v = r06_P_src_V r.1 r.2)
noncomputable def r06_P_src_j2_K : List Item := stackAt (bodyOf f95) [1, 1, 0, 0, 0, 0, 1] []
noncomputable def r06_P_src_j2_S (a0 : PT) (a1 : From) (a2 : Bool) : St := ⟨[(0, .one (.ptr 0 0)), (2, .one (.ptr 1 0)), (3, .one (.ptr 2 0)), (20, .one (.bool a2))], [(0, .var 74 (ca a0)), (1, .var 65 [.int .i64 0, .str [], .bool false, .str [], .nil 10, .nil 7, .nil 6]), (2, .var 65 (ca a1))], 3, 38, 1⟩
noncomputable def r06_P_src_j2_J (a0 : PT) (a1 : From) (a2 : Bool) (r : (PT × From)) : Prop := ∀ cx : Cx, AK prog cx r06_P_src_j2_K (r06_P_src_j2_S a0 a1 a2) (Fin lay f95.results.toList 1 fun o v => o = r06_P_src_O r.1 r.2 ∧ v = r06_P_src_V r.1 r.2)
noncomputable def r06_P_src_l1_K : List Item := stackAt (bodyOf f95) [1, 1, 0, 0, 0] []
noncomputable def r06_P_src_l1_S (a0 : PT) (a1 : From) : St := ⟨[(0, .one (.ptr 0 0)), (2, .one (.ptr 1 0)), (3, .one (.ptr 2 0))], [(0, .var 74 (ca a0)), (1, .var 65 [.int .i64 0, .str [], .bool false, .str [], .nil 10, .nil 7, .nil 6]), (2, .var 65 (ca a1))], 3, 38, 1⟩
noncomputable def r06_P_src_l1_J (a0 : PT) (a1 : From) (r : (PT × From)) : Prop := ∀ cx : Cx, AK prog cx r06_P_src_l1_K (r06_P_src_l1_S a0 a1) (Fin lay f95.results.toList 1 fun o v => o = r06_P_src_O r.1 r.2 ∧ v = r06_P_src_V r.1 r.2)
noncomputable def r06_P_part_l5_K : List Item := stackAt (bodyOf f58) [1, 1, 1, 1, 1, 1, 1, 1, 1, 1, 0, 1, 0, 1, 1, 0, 0] []
noncomputable def r06_P_part_l5_S (a0 : PT) (a1 : Bool) (a2 : List ItemT) (a3 : List From) (a4 a5 a6 : List Expr) (a7 : List Key) (a8 : Bool) : St := ⟨[(0, .one (.ptr 0 0)), (2, .one (.ptr 1 0)), (4, .one (.ptr 2 0)), (5, .one (.bool a8))], [(0, .var 74 (ca a0)), (1, .var 38 [.int .i64 0, .bool false, .nil 7, .nil 7, .nil 6, .nil 6, .nil 6, .nil 7, .int .i64 0, .nil 10]), (2, .var 38 [.int .i64 1, .bool a1, .own 7 (Row.rows (α := ItemT) a2) 3, .own 7 (Row.rows (α := From) a3) 4, .own 6 (Row.rows (α := Expr) a4) 5, .c (.sl 6 (Row.rows (α := Expr) a5)), .own 6 (Row.rows (α := Expr) a6) 6, .own 7 (Row.rows (α := Key) a7) 7, .int .i64 (-1), .nil 10]), (3, .row 83 7), (4, .row 65 7), (5, .row 26 6), (6, .row 26 6), (7, .row 85 7)], 8, 87, 1⟩
noncomputable def r06_P_part_l5_J (a0 : PT) (a1 : Bool) (a2 : List ItemT) (a3 : List From) (a4 a5 a6 : List Expr) (a7 : List Key) (a8 : Bool) (r : (PT × Query)) : Prop := ∀ cx : Cx, AK prog cx r06_P_part_l5_K (r06_P_part_l5_S a0 a1 a2 a3 a4 a5 a6 a7 a8) (Fin lay f58.results.toList 1 fun o v => o = r06_P_part_O r.1 r.2 ∧ v = r06_P_part_V r.1 r.2)
noncomputable def r06_P_part_j4_K : List Item := stackAt (bodyOf f58) [1, 1, 1, 1, 1, 1, 1, 1, 1, 1] []
noncomputable def r06_P_part_j4_S (a0 : PT) (a1 : Bool) (a2 : List ItemT) (a3 : List From) (a4 a5 a6 : List Expr) : St := ⟨[(0, .one (.ptr 0 0)), (2, .one (.ptr 1 0)), (4, .one (.ptr 2 0))], [(0, .var 74 (ca a0)), (1, .var 38 [.int .i64 0, .bool false, .nil 7, .nil 7, .nil 6, .nil 6, .nil 6, .nil 7, .int .i64 0, .nil 10]), (2, .var 38 [.int .i64 1, .bool a1, .own 7 (Row.rows (α := ItemT) a2) 3, .own 7 (Row.rows (α := From) a3) 4, .own 6 (Row.rows (α := Expr) a4) 5, .c (.sl 6 (Row.rows (α := Expr) a5)), .own 6 (Row.rows (α := Expr) a6) 6, .nil 7, .int .i64 (-1), .nil 10]), (3, .row 83 7), (4, .row 65 7), (5, .row 26 6), (6, .row 26 6)], 7, 87, 1⟩
noncomputable def r06_P_part_j4_J (a0 : PT) (a1 : Bool) (a2 : List ItemT) (a3 : List From) (a4 a5 a6 : List Expr) (r : (PT × Query)) : Prop := ∀ cx : Cx, AK prog cx r06_P_part_j4_K (r06_P_part_j4_S a0 a1 a2 a3 a4 a5 a6) (Fin lay f58.results.toList 1 fun o v => o = r06_P_part_O r.1 r.2 ∧ v = r06_P_part_V r.1 r.2)
noncomputable def r06_P_exprs_l1_K : List Item := stackAt (bodyOf f96) [1, 1, 0, 0, 0] []
noncomputable def r06_P_exprs_l1_S (a0 : PT) (a1 : List Expr) : St := ⟨[(0, .one (.ptr 0 0)), (3, .one (.own 6 (Row.rows (α := Expr) a1) 1))], [(0, .var 74 (ca a0)), (1, .row 26 6)], 2, 15, 1⟩
noncomputable def r06_P_exprs_l1_J (a0 : PT) (a1 : List Expr) (r : (PT × (List Expr))) : Prop := ∀ cx : Cx, AK prog cx r06_P_exprs_l1_K (r06_P_exprs_l1_S a0 a1) (Fin lay f96.results.toList 1 fun o v => o = r06_P_exprs_O r.1 r.2 ∧ v = r06_P_exprs_V r.1 r.2)
noncomputable def r06_P_part_j3_K : List Item := stackAt (bodyOf f58) [1, 1, 1, 1, 1, 1, 1, 1, 1] []
noncomputable def r06_P_part_j3_S (a0 : PT) (a1 : Bool) (a2 : List ItemT) (a3 : List From) (a4 : List Expr) : St := ⟨[(0, .one (.ptr 0 0)), (2, .one (.ptr 1 0)), (4, .one (.ptr 2 0))], [(0, .var 74 (ca a0)), (1, .var 38 [.int .i64 0, .bool false, .nil 7, .nil 7, .nil 6, .nil 6, .nil 6, .nil 7, .int .i64 0, .nil 10]), (2, .var 38 [.int .i64 1, .bool a1, .own 7 (Row.rows (α := ItemT) a2) 3, .own 7 (Row.rows (α := From) a3) 4, .own 6 (Row.rows (α := Expr) a4) 5, .nil 6, .nil 6, .nil 7, .int .i64 (-1), .nil 10]), (3, .row 83 7), (4, .row 65 7), (5, .row 26 6)], 6, 87, 1⟩
noncomputable def r06_P_part_j3_J (a0 : PT) (a1 : Bool) (a2 : List ItemT) (a3 : List From) (a4 : List Expr) (r : (PT × Query)) : Prop := ∀ cx : Cx, AK prog cx r06_P_part_j3_K (r06_P_part_j3_S a0 a1 a2 a3 a4) (Fin lay f58.results.toList 1 fun o v => o = r06_P_part_O r.1 r.2 ∧ v = r06_P_part_V r.1 r.2)
noncomputable def r06_P_part_j2_K : List Item := stackAt (bodyOf f58) [1, 1, 1, 1, 1, 1, 1, 1] []
noncomputable def r06_P_part_j2_S (a0 : PT) (a1 : Bool) (a2 : List ItemT) (a3 : List From) : St := ⟨[(0, .one (.ptr 0 0)), (2, .one (.ptr 1 0)), (4, .one (.ptr 2 0))], [(0, .var 74 (ca a0)), (1, .var 38 [.int .i64 0, .bool false, .nil 7, .nil 7, .nil 6, .nil 6, .nil 6, .nil 7, .int .i64 0, .nil 10]), (2, .var 38 [.int .i64 1, .bool a1, .own 7 (Row.rows (α := ItemT) a2) 3, .own 7 (Row.rows (α := From) a3) 4, .nil 6, .nil 6, .nil 6, .nil 7, .int .i64 (-1), .nil 10]), (3, .row 83 7), (4, .row 65 7)], 5, 87, 1⟩
noncomputable def r06_P_part_j2_J (a0 : PT) (a1 : Bool) (a2 : List ItemT) (a3 : List From) (r : (PT × Query)) : Prop := ∀ cx : Cx, AK prog cx r06_P_part_j2_K (r06_P_part_j2_S a0 a1 a2 a3) (Fin lay f58.results.toList 1 fun o v => o = r06_P_part_O r.1 r.2 ∧ v = r06_P_part_V r.1 r.2)
noncomputable def r06_P_part_l1_K : List Item := stackAt (bodyOf f58) [1, 1, 1, 1, 1, 1, 0, 0, 0] []
noncomputable def r06_P_part_l1_S (a0 : PT) (a1 : Bool) (a2 : List ItemT) (a3 : Bool) : St := ⟨[(0, .one (.ptr 0 0)), (2, .one (.ptr 1 0)), (4, .one (.ptr 2 0)), (5, .one (.bool a3))], [(0, .var 74 (ca a0)), (1, .var 38 [.int .i64 0, .bool false, .nil 7, .nil 7, .nil 6, .nil 6, .nil 6, .nil 7, .int .i64 0, .nil 10]), (2, .var 38 [.int .i64 1, .bool a1, .own 7 (Row.rows (α := ItemT) a2) 3, .nil 7, .nil 6, .nil 6, .nil 6, .nil 7, .int .i64 (-1), .nil 10]), (3, .row 83 7)], 4, 87, 1⟩
noncomputable def r06_P_part_l1_J (a0 : PT) (a1 : Bool) (a2 : List ItemT) (a3 : Bool) (r : (PT × Query)) : Prop := ∀ cx : Cx, AK prog cx r06_P_part_l1_K (r06_P_part_l1_S a0 a1 a2 a3) (Fin lay f58.results.toList 1 fun o v => o = r06_P_part_O r.1 r.2 ∧ v = r06_P_part_V r.1 r.2)
noncomputable def r06_P_Query_j3_K : List Item := stackAt (bodyOf f31) [1, 1, 1, 1, 0, 0, 0, 1, 0, 1, 1] []
noncomputable def r06_P_Query_j3_S (a0 : PT) (a1 : Query) (a2 : Int) : St := ⟨[(0, .one (.ptr 0 0)), (2, .one (.ptr 1 0)), (3, .one (.ptr 2 0)), (4, .one (.int .i64 a2))], [(0, .var 74 (ca a0)), (1, .var 38 [.int .i64 0, .bool false, .nil 7, .nil 7, .nil 6, .nil 6, .nil 6, .nil 7, .int .i64 0, .nil 10]), (2, .var 38 (ca a1))], 3, 61, 1⟩
noncomputable def r06_P_Query_j3_J (a0 : PT) (a1 : Query) (a2 : Int) (r : (PT × Query)) : Prop := ∀ cx : Cx, AK prog cx r06_P_Query_j3_K (r06_P_Query_j3_S a0 a1 a2) (Fin lay f31.results.toList 1 fun o v => o = r06_P_Query_O r.1 r.2 ∧ v = r06_P_Query_V r.1 r.2)
noncomputable def r06_P_Query_j2_K : List Item := stackAt (bodyOf f31) [1, 1, 1, 1, 0, 0, 0, 0, 1] []
noncomputable def r06_P_Query_j2_S (a0 : PT) (a1 : Query) (a2 : Bool) : St := ⟨[(0, .one (.ptr 0 0)), (2, .one (.ptr 1 0)), (3, .one (.ptr 2 0)), (38, .one (.bool a2))], [(0, .var 74 (ca a0)), (1, .var 38 [.int .i64 0, .bool false, .nil 7, .nil 7, .nil 6, .nil 6, .nil 6, .nil 7, .int .i64 0, .nil 10]), (2, .var 38 (ca a1))], 3, 61, 1⟩
noncomputable def r06_P_Query_j2_J (a0 : PT) (a1 : Query) (a2 : Bool) (r : (PT × Query)) : Prop := ∀ cx : Cx, AK prog cx r06_P_Query_j2_K (r06_P_Query_j2_S a0 a1 a2) (Fin lay f31.results.toList 1 fun o v => o = r06_P_Query_O r.1 r.2 ∧ v = r06_P_Query_V r.1 r.2)
noncomputable def r06_P_Query_l1_K : List Item := stackAt (bodyOf f31) [1, 1, 1, 1, 0, 0, 0] []
noncomputable def r06_P_Query_l1_S (a0 : PT) (a1 : Query) : St := ⟨[(0, .one (.ptr 0 0)), (2, .one (.ptr 1 0)), (3, .one (.ptr 2 0))], [(0, .var 74 (ca a0)), (1, .var 38 [.int .i64 0, .bool false, .nil 7, .nil 7, .nil 6, .nil 6, .nil 6, .nil 7, .int .i64 0, .nil 10]), (2, .var 38 (ca a1))], 3, 61, 1⟩
noncomputable def r06_P_Query_l1_J (a0 : PT) (a1 : Query) (r : (PT × Query)) : Prop := ∀ cx : Cx, AK prog cx r06_P_Query_l1_K (r06_P_Query_l1_S a0 a1) (Fin lay f31.results.toList 1 fun o v => o = r06_P_Query_O r.1 r.2 ∧ v = r06_P_Query_V r.1 r.2)
noncomputable def r06_P_and_l1_K : List Item := stackAt (bodyOf f53) [1, 1, 0, 0, 0] []
noncomputable def r06_P_and_l1_S (a0 : PT) (a1 : Expr) : St := ⟨[(0, .one (.ptr 0 0)), (2, .one (.ptr 1 0)), (3, .one (.ptr 2 0))], [(0, .var 74 (ca a0)), (1, .var 26 [.int .i64 0, .int .i64 0, .str [], .str [], .nil 6, .nil 10]), (2, .var 26 (ca a1))], 3, 13, 1⟩
noncomputable def r06_P_and_l1_J (a0 : PT) (a1 : Expr) (r : (PT × Expr)) : Prop := ∀ cx : Cx, AK prog cx r06_P_and_l1_K (r06_P_and_l1_S a0 a1) (Fin lay f53.results.toList 1 fun o v => o = r06_P_and_O r.1 r.2 ∧ v = r06_P_and_V r.1 r.2)
noncomputable def r06_P_Expr_l1_K : List Item := stackAt (bodyOf f24) [1, 1, 1, 0, 0, 0] []
noncomputable def r06_P_Expr_l1_S (a0 : PT) (a1 : Expr) : St := ⟨[(0, .one (.ptr 0 0)), (2, .one (.ptr 1 0)), (3, .one (.ptr 2 0))], [(0, .var 74 (ca a0)), (1, .var 26 [.int .i64 0, .int .i64 0, .str [], .str [], .nil 6, .nil 10]), (2, .var 26 (ca a1))], 3, 22, 1⟩
noncomputable def r06_P_Expr_l1_J (a0 : PT) (a1 : Expr) (r : (PT × Expr)) : Prop := ∀ cx : Cx, AK prog cx r06_P_Expr_l1_K (r06_P_Expr_l1_S a0 a1) (Fin lay f24.results.toList 1 fun o v => o = r06_P_Expr_O r.1 r.2 ∧ v = r06_P_Expr_V r.1 r.2)
structure Tab_r06_P_Expr where
 k : Nat
 r06_P_Expr : PT → Option (PT × Expr)
 r06_P_Expr_l1 : PT → Expr → Option (PT × Expr)
 r06_P_Query : PT → Option (PT × Query)
 r06_P_Query_l1 : PT → Query → Option (PT × Query)
 r06_P_and : PT → Option (PT × Expr)
 r06_P_and_l1 : PT → Expr → Option (PT × Expr)
 r06_P_cmp : PT → Option (PT × Expr)
 r06_P_exprs : PT → Option (PT × (List Expr))
 r06_P_exprs_l1 : PT → (List Expr) → Option (PT × (List Expr))
 r06_P_not : PT → Option (PT × Expr)
 r06_P_one : PT → Option (PT × From)
 r06_P_part : PT → Option (PT × Query)
 r06_P_part_l1 : PT → Bool → (List ItemT) → Bool → Option (PT × Query)
 r06_P_part_l5 : PT → Bool → (List ItemT) → (List From) → (List Expr) → (List Expr) → (List Expr) → (List Key) → Bool → Option (PT × Query)
 r06_P_prim : PT → Option (PT × Expr)
 r06_P_prod : PT → Option (PT × Expr)
 r06_P_prod_l1 : PT → Expr → Str → Option (PT × Expr)
 r06_P_src : PT → Option (PT × From)
 r06_P_src_l1 : PT → From → Option (PT × From)
 r06_P_sum : PT → Option (PT × Expr)
 r06_P_sum_l1 : PT → Expr → Str → Option (PT × Expr)
 r06_P_unary : PT → Option (PT × Expr)
noncomputable def r06_P_Expr_b (T : Tab_r06_P_Expr) (a0 : PT) : Option (PT × Expr) :=
 (r06_P_down a0).bind fun r1 =>
 (T.r06_P_and r1).bind fun (r2, r3) =>
 T.r06_P_Expr_l1 r2 r3
noncomputable def r06_P_Expr_l1_b (T : Tab_r06_P_Expr) (a0 : PT) (a1 : Expr) : Option (PT × Expr) :=
 (r06_P_take a0 s_or).bind fun (r1, r2) =>
 if r2 = true then (
  (T.r06_P_and r1).bind fun (r3, r4) =>
  (r06_bin s_or a1 r4).bind fun r5 =>
  T.r06_P_Expr_l1 r3 r5
 ) else (
  some ((PT.mk r1.T r1.I (IntKind.i64.wrap (r1.Deep - 1)) r1.At r1.E), a1)
 )
noncomputable def r06_P_Query_b (T : Tab_r06_P_Expr) (a0 : PT) : Option (PT × Query) :=
 (r06_P_down a0).bind fun r1 =>
 if r1.E = 0 then (
  (T.r06_P_part r1).bind fun (r2, r3) =>
  T.r06_P_Query_l1 r2 r3
 ) else (
  some ((PT.mk r1.T r1.I (IntKind.i64.wrap (r1.Deep - 1)) r1.At r1.E), (Query.mk 0 false [] [] [] [] [] [] 0 []))
 )
noncomputable def r06_P_Query_j3_b (T : Tab_r06_P_Expr) (a0 : PT) (a1 : Query) (a2 : Int) : Option (PT × Query) :=
 (T.r06_P_part a0).bind fun (r1, r2) =>
 T.r06_P_Query_l1 r1 (Query.mk a2 false [] [] [] [] [] [] (-1) [a1, r2])
noncomputable def r06_P_Query_j2_b (T : Tab_r06_P_Expr) (a0 : PT) (a1 : Query) (a2 : Bool) : Option (PT × Query) :=
 if a2 = true then (
  (r06_P_take a0 s_union).bind fun (r1, r2) =>
  if r2 = true then (
   (r06_P_take r1 s_all).bind fun (r3, r4) =>
   if r4 = true then (
    r06_P_Query_j3_b T r3 a1 3
   ) else (
    r06_P_Query_j3_b T r3 a1 2
   )
  ) else (
   (r06_P_take r1 s_except).bind fun (r3, r4) =>
   if r4 = true then (
    r06_P_Query_j3_b T r3 a1 4
   ) else (
    (r06_P_must r3 s_intersect).bind fun r5 =>
    r06_P_Query_j3_b T r5 a1 5
   )
  )
 ) else (
  some ((PT.mk a0.T a0.I (IntKind.i64.wrap (a0.Deep - 1)) a0.At a0.E), a1)
 )
noncomputable def r06_P_Query_l1_b (T : Tab_r06_P_Expr) (a0 : PT) (a1 : Query) : Option (PT × Query) :=
 if a0.E = 0 then (
  (r06_P_is a0 s_union).bind fun r1 =>
  if r1 = true then (
   r06_P_Query_j2_b T a0 a1 true
  ) else (
   (r06_P_is a0 s_except).bind fun r2 =>
   if r2 = true then (
    r06_P_Query_j2_b T a0 a1 true
   ) else (
    (r06_P_is a0 s_intersect).bind fun r3 =>
    r06_P_Query_j2_b T a0 a1 r3
   )
  )
 ) else (
  r06_P_Query_j2_b T a0 a1 false
 )
noncomputable def r06_P_and_b (T : Tab_r06_P_Expr) (a0 : PT) : Option (PT × Expr) :=
 (T.r06_P_not a0).bind fun (r1, r2) =>
 T.r06_P_and_l1 r1 r2
noncomputable def r06_P_and_l1_b (T : Tab_r06_P_Expr) (a0 : PT) (a1 : Expr) : Option (PT × Expr) :=
 (r06_P_take a0 s_and).bind fun (r1, r2) =>
 if r2 = true then (
  (T.r06_P_not r1).bind fun (r3, r4) =>
  (r06_bin s_and a1 r4).bind fun r5 =>
  T.r06_P_and_l1 r3 r5
 ) else (
  some (r1, a1)
 )
noncomputable def r06_P_cmp_b (T : Tab_r06_P_Expr) (a0 : PT) : Option (PT × Expr) :=
 (T.r06_P_sum a0).bind fun (r1, r2) =>
 (r06_P_oneOf T.k r1 [s_x3d, s_x3cx3e, s_x3cx3d, s_x3ex3d, s_x3c, s_x3e]).bind fun (r3, r4) =>
 if r4 = [] then (
  (r06_P_take r3 s_is).bind fun (r5, r6) =>
  if r6 = true then (
   (r06_P_take r5 s_not).bind fun (r7, r8) =>
   if r8 = true then (
    r06_P_cmp_j1 r7 r2 1
   ) else (
    r06_P_cmp_j1 r7 r2 0
   )
  ) else (
   (r06_P_is r5 s_not).bind fun r7 =>
   if r7 = true then (
    (r06_P_take r5 s_not).bind fun (r8, r9) =>
    if r9 = true then (
     (r06_P_must r8 s_in).bind fun r10 =>
     (r06_P_must r10 s_x28).bind fun r11 =>
     (T.r06_P_Query r11).bind fun (r12, r13) =>
     (r06_P_must r12 s_x29).bind fun r14 =>
     some (r14, (Expr.mk 13 1 [] [] [r2] [r13]))
    ) else (
     (r06_P_must r8 s_in).bind fun r10 =>
     (r06_P_must r10 s_x28).bind fun r11 =>
     (T.r06_P_Query r11).bind fun (r12, r13) =>
     (r06_P_must r12 s_x29).bind fun r14 =>
     some (r14, (Expr.mk 13 0 [] [] [r2] [r13]))
    )
   ) else (
    (r06_P_is r5 s_in).bind fun r8 =>
    if r8 = true then (
     (r06_P_take r5 s_not).bind fun (r9, r10) =>
     if r10 = true then (
      (r06_P_must r9 s_in).bind fun r11 =>
      (r06_P_must r11 s_x28).bind fun r12 =>
      (T.r06_P_Query r12).bind fun (r13, r14) =>
      (r06_P_must r13 s_x29).bind fun r15 =>
      some (r15, (Expr.mk 13 1 [] [] [r2] [r14]))
     ) else (
      (r06_P_must r9 s_in).bind fun r11 =>
      (r06_P_must r11 s_x28).bind fun r12 =>
      (T.r06_P_Query r12).bind fun (r13, r14) =>
      (r06_P_must r13 s_x29).bind fun r15 =>
      some (r15, (Expr.mk 13 0 [] [] [r2] [r14]))
     )
    ) else (
     some (r5, r2)
    )
   )
  )
 ) else (
  (T.r06_P_sum r3).bind fun (r5, r6) =>
  (r06_bin r4 r2 r6).bind fun r7 =>
  some (r5, r7)
 )
noncomputable def r06_P_exprs_b (T : Tab_r06_P_Expr) (a0 : PT) : Option (PT × (List Expr)) :=
 (T.r06_P_Expr a0).bind fun (r1, r2) =>
 T.r06_P_exprs_l1 r1 [r2]
noncomputable def r06_P_exprs_l1_b (T : Tab_r06_P_Expr) (a0 : PT) (a1 : List Expr) : Option (PT × (List Expr)) :=
 (r06_P_take a0 s_x2c).bind fun (r1, r2) =>
 if r2 = true then (
  (T.r06_P_Expr r1).bind fun (r3, r4) =>
  chk (CapOk 96 a1 [r4]) <|
  T.r06_P_exprs_l1 r3 (a1 ++ [r4])
 ) else (
  some (r1, a1)
 )
noncomputable def r06_P_not_b (T : Tab_r06_P_Expr) (a0 : PT) : Option (PT × Expr) :=
 if a0.E = 0 then (
  (r06_P_take a0 s_not).bind fun (r1, r2) =>
  if r2 = true then (
   (r06_P_down r1).bind fun r3 =>
   (T.r06_P_not r3).bind fun (r4, r5) =>
   some ((PT.mk r4.T r4.I (IntKind.i64.wrap (r4.Deep - 1)) r4.At r4.E), (Expr.mk 8 0 [] [] [r5] []))
  ) else (
   (T.r06_P_cmp r1).bind fun (r3, r4) =>
   some (r3, r4)
  )
 ) else (
  some (a0, (Expr.mk 0 0 [] [] [] []))
 )
noncomputable def r06_P_one_b (T : Tab_r06_P_Expr) (a0 : PT) : Option (PT × From) :=
 (r06_P_take a0 s_x28).bind fun (r1, r2) =>
 if r2 = true then (
  (T.r06_P_Query r1).bind fun (r3, r4) =>
  (r06_P_must r3 s_x29).bind fun r5 =>
  (r06_P_must r5 s_as).bind fun r6 =>
  (r06_P_name T.k r6).bind fun (r7, r8) =>
  some (r7, (From.mk 2 [] false r8 [r4] [] []))
 ) else (
  (r06_P_name T.k r1).bind fun (r3, r4) =>
  (r06_P_take r3 s_visible).bind fun (r5, r6) =>
  (r06_P_take r5 s_as).bind fun (r7, r8) =>
  if r8 = true then (
   (r06_P_name T.k r7).bind fun (r9, r10) =>
   some (r9, (From.mk 1 r4 r6 r10 [] [] []))
  ) else (
   some (r7, (From.mk 1 r4 r6 r4 [] [] []))
  )
 )
noncomputable def r06_P_part_b (T : Tab_r06_P_Expr) (a0 : PT) : Option (PT × Query) :=
 (r06_P_take a0 s_x28).bind fun (r1, r2) =>
 if r2 = true then (
  (T.r06_P_Query r1).bind fun (r3, r4) =>
  (r06_P_must r3 s_x29).bind fun r5 =>
  some (r5, r4)
 ) else (
  (r06_P_must r1 s_select).bind fun r3 =>
  (r06_P_take r3 s_distinct).bind fun (r4, r5) =>
  T.r06_P_part_l1 r4 r5 [] true
 )
noncomputable def r06_P_part_j4_b (T : Tab_r06_P_Expr) (a0 : PT) (a1 : Bool) (a2 : List ItemT) (a3 : List From) (a4 a5 a6 : List Expr) : Option (PT × Query) :=
 (r06_P_take a0 s_order).bind fun (r1, r2) =>
 if r2 = true then (
  (r06_P_must r1 s_by).bind fun r3 =>
  T.r06_P_part_l5 r3 a1 a2 a3 a4 a5 a6 [] true
 ) else (
  (r06_P_take r1 s_limit).bind fun (r3, r4) =>
  if r4 = true then (
   (r06_P_int r3).bind fun (r5, r6) =>
   some (r5, (Query.mk 1 a1 a2 a3 a4 a5 a6 [] r6 []))
  ) else (
   some (r3, (Query.mk 1 a1 a2 a3 a4 a5 a6 [] (-1) []))
  )
 )
noncomputable def r06_P_part_j3_b (T : Tab_r06_P_Expr) (a0 : PT) (a1 : Bool) (a2 : List ItemT) (a3 : List From) (a4 : List Expr) : Option (PT × Query) :=
 (r06_P_take a0 s_group).bind fun (r1, r2) =>
 if r2 = true then (
  (r06_P_must r1 s_by).bind fun r3 =>
  (T.r06_P_exprs r3).bind fun (r4, r5) =>
  (r06_P_take r4 s_having).bind fun (r6, r7) =>
  if r7 = true then (
   (T.r06_P_Expr r6).bind fun (r8, r9) =>
   r06_P_part_j4_b T r8 a1 a2 a3 a4 r5 [r9]
  ) else (
   r06_P_part_j4_b T r6 a1 a2 a3 a4 r5 []
  )
 ) else (
  r06_P_part_j4_b T r1 a1 a2 a3 a4 [] []
 )
noncomputable def r06_P_part_j2_b (T : Tab_r06_P_Expr) (a0 : PT) (a1 : Bool) (a2 : List ItemT) (a3 : List From) : Option (PT × Query) :=
 (r06_P_take a0 s_where).bind fun (r1, r2) =>
 if r2 = true then (
  (T.r06_P_Expr r1).bind fun (r3, r4) =>
  r06_P_part_j3_b T r3 a1 a2 a3 [r4]
 ) else (
  r06_P_part_j3_b T r1 a1 a2 a3 []
 )
noncomputable def r06_P_part_l1_b (T : Tab_r06_P_Expr) (a0 : PT) (a1 : Bool) (a2 : List ItemT) (a3 : Bool) : Option (PT × Query) :=
 if a3 = true then (
  (T.r06_P_Expr a0).bind fun (r1, r2) =>
  (r06_P_must r1 s_as).bind fun r3 =>
  (r06_P_name T.k r3).bind fun (r4, r5) =>
  chk (CapOk 112 a2 [(ItemT.mk r2 r5)]) <|
  (r06_P_take r4 s_x2c).bind fun (r6, r7) =>
  T.r06_P_part_l1 r6 a1 (a2 ++ [(ItemT.mk r2 r5)]) r7
 ) else (
  (r06_P_take a0 s_from).bind fun (r1, r2) =>
  if r2 = true then (
   (T.r06_P_src r1).bind fun (r3, r4) =>
   r06_P_part_j2_b T r3 a1 a2 [r4]
  ) else (
   r06_P_part_j2_b T r1 a1 a2 []
  )
 )
noncomputable def r06_P_part_l5_b (T : Tab_r06_P_Expr) (a0 : PT) (a1 : Bool) (a2 : List ItemT) (a3 : List From) (a4 a5 a6 : List Expr) (a7 : List Key) (a8 : Bool) : Option (PT × Query) :=
 if a8 = true then (
  (T.r06_P_Expr a0).bind fun (r1, r2) =>
  (r06_P_take r1 s_desc).bind fun (r3, r4) =>
  chk (CapOk 104 a7 [(Key.mk r2 r4)]) <|
  (r06_P_take r3 s_x2c).bind fun (r5, r6) =>
  T.r06_P_part_l5 r5 a1 a2 a3 a4 a5 a6 (a7 ++ [(Key.mk r2 r4)]) r6
 ) else (
  (r06_P_take a0 s_limit).bind fun (r1, r2) =>
  if r2 = true then (
   (r06_P_int r1).bind fun (r3, r4) =>
   some (r3, (Query.mk 1 a1 a2 a3 a4 a5 a6 a7 r4 []))
  ) else (
   some (r1, (Query.mk 1 a1 a2 a3 a4 a5 a6 a7 (-1) []))
  )
 )
noncomputable def r06_P_prim_j2_b (T : Tab_r06_P_Expr) (a0 : PT) (a1 : Str) (a2 : Bool) : Option (PT × Expr) :=
 if a2 = true then (
  if a1 = s_count then (
   (r06_P_take a0 s_x2a).bind fun (r1, r2) =>
   if r2 = true then (
    (r06_P_must r1 s_x29).bind fun r3 =>
    some (r3, (Expr.mk 15 0 a1 [] [] []))
   ) else (
    (T.r06_P_Expr r1).bind fun (r3, r4) =>
    (r06_P_must r3 s_x29).bind fun r5 =>
    some (r5, (Expr.mk 15 0 a1 [] [r4] []))
   )
  ) else (
   (T.r06_P_Expr a0).bind fun (r1, r2) =>
   (r06_P_must r1 s_x29).bind fun r3 =>
   some (r3, (Expr.mk 15 0 a1 [] [r2] []))
  )
 ) else (
  (r06_P_take a0 s_x2e).bind fun (r1, r2) =>
  if r2 = true then (
   (r06_P_name T.k r1).bind fun (r3, r4) =>
   some (r3, (Expr.mk 5 0 r4 a1 [] []))
  ) else (
   some (r1, (Expr.mk 5 0 a1 [] [] []))
  )
 )
noncomputable def r06_P_prim_b (T : Tab_r06_P_Expr) (a0 : PT) : Option (PT × Expr) :=
 if a0.E = 0 then (
  (idx a0.T a0.I).bind fun x1 =>
  if x1.Kind = 2 then (
   some ((PT.mk a0.T (IntKind.i64.wrap (a0.I + 1)) a0.Deep a0.At a0.E), (Expr.mk 3 x1.N [] [] [] []))
  ) else (
   if x1.Kind = 3 then (
    some ((PT.mk a0.T (IntKind.i64.wrap (a0.I + 1)) a0.Deep a0.At a0.E), (Expr.mk 4 0 x1.Text [] [] []))
   ) else (
    (r06_P_take a0 s_null).bind fun (r2, r3) =>
    if r3 = true then (
     some (r2, (Expr.mk 1 0 [] [] [] []))
    ) else (
     (r06_P_take r2 s_true).bind fun (r4, r5) =>
     if r5 = true then (
      some (r4, (Expr.mk 2 1 [] [] [] []))
     ) else (
      (r06_P_take r4 s_false).bind fun (r6, r7) =>
      if r7 = true then (
       some (r6, (Expr.mk 2 0 [] [] [] []))
      ) else (
       (r06_P_take r6 s_x3a).bind fun (r8, r9) =>
       if r9 = true then (
        (r06_P_name T.k r8).bind fun (r10, r11) =>
        some (r10, (Expr.mk 6 0 r11 [] [] []))
       ) else (
        (r06_P_take r8 s_case).bind fun (r10, r11) =>
        if r11 = true then (
         (r06_P_must r10 s_when).bind fun r12 =>
         (T.r06_P_Expr r12).bind fun (r13, r14) =>
         (r06_P_must r13 s_then).bind fun r15 =>
         (T.r06_P_Expr r15).bind fun (r16, r17) =>
         (r06_P_must r16 s_else).bind fun r18 =>
         (T.r06_P_Expr r18).bind fun (r19, r20) =>
         (r06_P_must r19 s_end).bind fun r21 =>
         some (r21, (Expr.mk 11 0 [] [] [r14, r17, r20] []))
        ) else (
         (r06_P_take r10 s_exists).bind fun (r12, r13) =>
         if r13 = true then (
          (r06_P_must r12 s_x28).bind fun r14 =>
          (T.r06_P_Query r14).bind fun (r15, r16) =>
          (r06_P_must r15 s_x29).bind fun r17 =>
          some (r17, (Expr.mk 12 0 [] [] [] [r16]))
         ) else (
          (r06_P_take r12 s_x28).bind fun (r14, r15) =>
          if r15 = true then (
           (r06_P_is r14 s_select).bind fun r16 =>
           if r16 = true then (
            (T.r06_P_Query r14).bind fun (r17, r18) =>
            r06_P_prim_j1 r17 (Expr.mk 14 0 [] [] [] [r18])
           ) else (
            (T.r06_P_Expr r14).bind fun (r17, r18) =>
            r06_P_prim_j1 r17 r18
           )
          ) else (
           (r06_P_name T.k r14).bind fun (r16, r17) =>
           if r17 = s_count then (
            (r06_P_take r16 s_x28).bind fun (r18, r19) =>
            r06_P_prim_j2_b T r18 r17 r19
           ) else (
            if r17 = s_sum then (
            (r06_P_take r16 s_x28).bind fun (r18, r19) =>
            r06_P_prim_j2_b T r18 r17 r19
            ) else (
            if r17 = s_min then (
            (r06_P_take r16 s_x28).bind fun (r18, r19) =>
            r06_P_prim_j2_b T r18 r17 r19
            ) else (
            if r17 = s_max then (
            (r06_P_take r16 s_x28).bind fun (r18, r19) =>
            r06_P_prim_j2_b T r18 r17 r19
            ) else (
            r06_P_prim_j2_b T r16 r17 false
            )
            )
            )
           )
          )
         )
        )
       )
      )
     )
    )
   )
  )
 ) else (
  some (a0, (Expr.mk 0 0 [] [] [] []))
 )
noncomputable def r06_P_prod_b (T : Tab_r06_P_Expr) (a0 : PT) : Option (PT × Expr) :=
 (T.r06_P_unary a0).bind fun (r1, r2) =>
 (r06_P_oneOf T.k r1 [s_x2a, s_x2f, s_x25]).bind fun (r3, r4) =>
 T.r06_P_prod_l1 r3 r2 r4
noncomputable def r06_P_prod_l1_b (T : Tab_r06_P_Expr) (a0 : PT) (a1 : Expr) (a2 : Str) : Option (PT × Expr) :=
 if a2 = [] then (
  some (a0, a1)
 ) else (
  (T.r06_P_unary a0).bind fun (r1, r2) =>
  (r06_bin a2 a1 r2).bind fun r3 =>
  (r06_P_oneOf T.k r1 [s_x2a, s_x2f, s_x25]).bind fun (r4, r5) =>
  T.r06_P_prod_l1 r4 r3 r5
 )
noncomputable def r06_P_src_b (T : Tab_r06_P_Expr) (a0 : PT) : Option (PT × From) :=
 (T.r06_P_one a0).bind fun (r1, r2) =>
 T.r06_P_src_l1 r1 r2
noncomputable def r06_P_src_j3_b (T : Tab_r06_P_Expr) (a0 : PT) (a1 : From) (a2 : Int) : Option (PT × From) :=
 (r06_P_must a0 s_join).bind fun r1 =>
 (T.r06_P_one r1).bind fun (r2, r3) =>
 (r06_P_must r2 s_on).bind fun r4 =>
 (T.r06_P_Expr r4).bind fun (r5, r6) =>
 T.r06_P_src_l1 r5 (From.mk a2 [] false [] [] [a1, r3] [r6])
noncomputable def r06_P_src_j2_b (T : Tab_r06_P_Expr) (a0 : PT) (a1 : From) (a2 : Bool) : Option (PT × From) :=
 if a2 = true then (
  (r06_P_take a0 s_left).bind fun (r1, r2) =>
  if r2 = true then (
   r06_P_src_j3_b T r1 a1 4
  ) else (
   r06_P_src_j3_b T r1 a1 3
  )
 ) else (
  some (a0, a1)
 )
noncomputable def r06_P_src_l1_b (T : Tab_r06_P_Expr) (a0 : PT) (a1 : From) : Option (PT × From) :=
 if a0.E = 0 then (
  (r06_P_is a0 s_left).bind fun r1 =>
  if r1 = true then (
   r06_P_src_j2_b T a0 a1 true
  ) else (
   (r06_P_is a0 s_join).bind fun r2 =>
   r06_P_src_j2_b T a0 a1 r2
  )
 ) else (
  r06_P_src_j2_b T a0 a1 false
 )
noncomputable def r06_P_sum_b (T : Tab_r06_P_Expr) (a0 : PT) : Option (PT × Expr) :=
 (T.r06_P_prod a0).bind fun (r1, r2) =>
 (r06_P_oneOf T.k r1 [s_x2b, s_x2d, s_x7cx7c]).bind fun (r3, r4) =>
 T.r06_P_sum_l1 r3 r2 r4
noncomputable def r06_P_sum_l1_b (T : Tab_r06_P_Expr) (a0 : PT) (a1 : Expr) (a2 : Str) : Option (PT × Expr) :=
 if a2 = [] then (
  some (a0, a1)
 ) else (
  (T.r06_P_prod a0).bind fun (r1, r2) =>
  (r06_bin a2 a1 r2).bind fun r3 =>
  (r06_P_oneOf T.k r1 [s_x2b, s_x2d, s_x7cx7c]).bind fun (r4, r5) =>
  T.r06_P_sum_l1 r4 r3 r5
 )
noncomputable def r06_P_unary_b (T : Tab_r06_P_Expr) (a0 : PT) : Option (PT × Expr) :=
 (r06_P_take a0 s_x2d).bind fun (r1, r2) =>
 if r2 = true then (
  (r06_P_down r1).bind fun r3 =>
  if r3.E = 0 then (
   (T.r06_P_unary r3).bind fun (r4, r5) =>
   some ((PT.mk r4.T r4.I (IntKind.i64.wrap (r4.Deep - 1)) r4.At r4.E), (Expr.mk 7 0 [] [] [r5] []))
  ) else (
   some ((PT.mk r3.T r3.I (IntKind.i64.wrap (r3.Deep - 1)) r3.At r3.E), (Expr.mk 0 0 [] [] [] []))
  )
 ) else (
  (T.r06_P_prim r1).bind fun (r3, r4) =>
  some (r3, r4)
 )
noncomputable def tab_r06_P_Expr : Nat → Tab_r06_P_Expr
 | 0 => ⟨0, fun _ => none, fun _ _ => none, fun _ => none, fun _ _ => none, fun _ => none, fun _ _ => none, fun _ => none, fun _ => none, fun _ _ => none, fun _ => none, fun _ => none, fun _ => none, fun _ _ _ _ => none, fun _ _ _ _ _ _ _ _ _ => none, fun _ => none, fun _ => none, fun _ _ _ => none, fun _ => none, fun _ _ => none, fun _ => none, fun _ _ _ => none, fun _ => none⟩
 | k + 1 => ⟨k + 1, r06_P_Expr_b (tab_r06_P_Expr k), r06_P_Expr_l1_b (tab_r06_P_Expr k), r06_P_Query_b (tab_r06_P_Expr k), r06_P_Query_l1_b (tab_r06_P_Expr k), r06_P_and_b (tab_r06_P_Expr k), r06_P_and_l1_b (tab_r06_P_Expr k), r06_P_cmp_b (tab_r06_P_Expr k), r06_P_exprs_b (tab_r06_P_Expr k), r06_P_exprs_l1_b (tab_r06_P_Expr k), r06_P_not_b (tab_r06_P_Expr k), r06_P_one_b (tab_r06_P_Expr k), r06_P_part_b (tab_r06_P_Expr k), r06_P_part_l1_b (tab_r06_P_Expr k), r06_P_part_l5_b (tab_r06_P_Expr k), r06_P_prim_b (tab_r06_P_Expr k), r06_P_prod_b (tab_r06_P_Expr k), r06_P_prod_l1_b (tab_r06_P_Expr k), r06_P_src_b (tab_r06_P_Expr k), r06_P_src_l1_b (tab_r06_P_Expr k), r06_P_sum_b (tab_r06_P_Expr k), r06_P_sum_l1_b (tab_r06_P_Expr k), r06_P_unary_b (tab_r06_P_Expr k)⟩
noncomputable def r06_P_Expr (k : Nat) := (tab_r06_P_Expr k).r06_P_Expr
noncomputable def r06_P_Expr_l1 (k : Nat) := (tab_r06_P_Expr k).r06_P_Expr_l1
noncomputable def r06_P_Query (k : Nat) := (tab_r06_P_Expr k).r06_P_Query
noncomputable def r06_P_Query_l1 (k : Nat) := (tab_r06_P_Expr k).r06_P_Query_l1
noncomputable def r06_P_and (k : Nat) := (tab_r06_P_Expr k).r06_P_and
noncomputable def r06_P_and_l1 (k : Nat) := (tab_r06_P_Expr k).r06_P_and_l1
noncomputable def r06_P_cmp (k : Nat) := (tab_r06_P_Expr k).r06_P_cmp
noncomputable def r06_P_exprs (k : Nat) := (tab_r06_P_Expr k).r06_P_exprs
noncomputable def r06_P_exprs_l1 (k : Nat) := (tab_r06_P_Expr k).r06_P_exprs_l1
noncomputable def r06_P_not (k : Nat) := (tab_r06_P_Expr k).r06_P_not
noncomputable def r06_P_one (k : Nat) := (tab_r06_P_Expr k).r06_P_one
noncomputable def r06_P_part (k : Nat) := (tab_r06_P_Expr k).r06_P_part
noncomputable def r06_P_part_l1 (k : Nat) := (tab_r06_P_Expr k).r06_P_part_l1
noncomputable def r06_P_part_l5 (k : Nat) := (tab_r06_P_Expr k).r06_P_part_l5
noncomputable def r06_P_prim (k : Nat) := (tab_r06_P_Expr k).r06_P_prim
noncomputable def r06_P_prod (k : Nat) := (tab_r06_P_Expr k).r06_P_prod
noncomputable def r06_P_prod_l1 (k : Nat) := (tab_r06_P_Expr k).r06_P_prod_l1
noncomputable def r06_P_src (k : Nat) := (tab_r06_P_Expr k).r06_P_src
noncomputable def r06_P_src_l1 (k : Nat) := (tab_r06_P_Expr k).r06_P_src_l1
noncomputable def r06_P_sum (k : Nat) := (tab_r06_P_Expr k).r06_P_sum
noncomputable def r06_P_sum_l1 (k : Nat) := (tab_r06_P_Expr k).r06_P_sum_l1
noncomputable def r06_P_unary (k : Nat) := (tab_r06_P_Expr k).r06_P_unary
structure Ok_r06_P_Expr (m : Nat) : Prop where
 r06_P_Expr : Sd1 (tab_r06_P_Expr m).r06_P_Expr r06_P_Expr_J
 r06_P_Expr_l1 : Sd2 (tab_r06_P_Expr m).r06_P_Expr_l1 r06_P_Expr_l1_J
 r06_P_Query : Sd1 (tab_r06_P_Expr m).r06_P_Query r06_P_Query_J
 r06_P_Query_l1 : Sd2 (tab_r06_P_Expr m).r06_P_Query_l1 r06_P_Query_l1_J
 r06_P_and : Sd1 (tab_r06_P_Expr m).r06_P_and r06_P_and_J
 r06_P_and_l1 : Sd2 (tab_r06_P_Expr m).r06_P_and_l1 r06_P_and_l1_J
 r06_P_cmp : Sd1 (tab_r06_P_Expr m).r06_P_cmp r06_P_cmp_J
 r06_P_exprs : Sd1 (tab_r06_P_Expr m).r06_P_exprs r06_P_exprs_J
 r06_P_exprs_l1 : Sd2 (tab_r06_P_Expr m).r06_P_exprs_l1 r06_P_exprs_l1_J
 r06_P_not : Sd1 (tab_r06_P_Expr m).r06_P_not r06_P_not_J
 r06_P_one : Sd1 (tab_r06_P_Expr m).r06_P_one r06_P_one_J
 r06_P_part : Sd1 (tab_r06_P_Expr m).r06_P_part r06_P_part_J
 r06_P_part_l1 : Sd4 (tab_r06_P_Expr m).r06_P_part_l1 r06_P_part_l1_J
 r06_P_part_l5 : Sd9 (tab_r06_P_Expr m).r06_P_part_l5 r06_P_part_l5_J
 r06_P_prim : Sd1 (tab_r06_P_Expr m).r06_P_prim r06_P_prim_J
 r06_P_prod : Sd1 (tab_r06_P_Expr m).r06_P_prod r06_P_prod_J
 r06_P_prod_l1 : Sd3 (tab_r06_P_Expr m).r06_P_prod_l1 r06_P_prod_l1_J
 r06_P_src : Sd1 (tab_r06_P_Expr m).r06_P_src r06_P_src_J
 r06_P_src_l1 : Sd2 (tab_r06_P_Expr m).r06_P_src_l1 r06_P_src_l1_J
 r06_P_sum : Sd1 (tab_r06_P_Expr m).r06_P_sum r06_P_sum_J
 r06_P_sum_l1 : Sd3 (tab_r06_P_Expr m).r06_P_sum_l1 r06_P_sum_l1_J
 r06_P_unary : Sd1 (tab_r06_P_Expr m).r06_P_unary r06_P_unary_J
theorem r06_P_Expr_okb {m : Nat} (ih : Ok_r06_P_Expr m) : Sd1 (r06_P_Expr_b (tab_r06_P_Expr m)) r06_P_Expr_J := by
 intro a0 r h
 unfold r06_P_Expr_b at h
 refine ent (c := bodyOf f24) func24 rfl rfl rfl fun cx => ?_
 obtain ⟨r1, h1, h⟩ := bs h fun _ => r06_P_down_ok
 obtain ⟨⟨r2, r3⟩, h2, h⟩ := bs h fun _ => ih.r06_P_and
 exact tt 9 [(1, .reg [(1, cl [0] h1)] []), (2, .reg [(1, cl [0] h2)] [])] [] [0, 2, 3] [(0, 0), (1, 1), (81, 2)] 3 [pf h1, pf h2] (ih.r06_P_Expr_l1 h cx)
theorem r06_P_Expr_l1_okb {m : Nat} (ih : Ok_r06_P_Expr m) : Sd2 (r06_P_Expr_l1_b (tab_r06_P_Expr m)) r06_P_Expr_l1_J := by
 intro a0 a1 r h cx
 unfold r06_P_Expr_l1_b at h
 obtain ⟨⟨r1, r2⟩, h1, h⟩ := bs h fun _ => r06_P_take_ok
 obtain ⟨h2, h⟩ | ⟨h2, h⟩ := ite_some h
 · obtain ⟨⟨r3, r4⟩, h3, h⟩ := bs h fun _ => ih.r06_P_and
   obtain ⟨r5, h4, h⟩ := bs h fun _ => r06_bin_ok
   exact tt 9 [(0, .reg [(1, cl [0] h1)] []), (1, .br true), (2, .reg [(2, cl [0] h3), (3, cl [] h4)] [])] [] [0, 2, 3] [(0, 0), (1, 1), (2, 2)] 3 [pf h1, pf (bt h2), pf h3, pf h4] (ih.r06_P_Expr_l1 h cx)
 · obtain rfl := Option.some.inj h
   exact rr 11 [(0, .reg [(1, cl [0] h1)] []), (1, .br false)] [] [(0, 0)] 1 [pf h1, pf (bf h2)]
theorem r06_P_Query_okb {m : Nat} (ih : Ok_r06_P_Expr m) : Sd1 (r06_P_Query_b (tab_r06_P_Expr m)) r06_P_Query_J := by
 intro a0 r h
 unfold r06_P_Query_b at h
 refine ent (c := bodyOf f31) func31 rfl rfl rfl fun cx => ?_
 obtain ⟨r1, h1, h⟩ := bs h fun _ => r06_P_down_ok
 obtain ⟨h2, h⟩ | ⟨h2, h⟩ := ite_some h
 · obtain ⟨⟨r2, r3⟩, h3, h⟩ := bs h fun _ => ih.r06_P_part
   exact tt 14 [(1, .reg [(1, cl [0] h1)] []), (3, .br false), (4, .reg [(1, cl [0] h3)] [])] [] [0, 2, 3] [(0, 0), (1, 1), (161, 2)] 3 [pf h1, pf (ndf h2), pf h3] (ih.r06_P_Query_l1 h cx)
 · obtain rfl := Option.some.inj h
   exact rr 14 [(1, .reg [(1, cl [0] h1)] []), (3, .br true)] [] [(0, 0)] 1 [pf h1, pf (ndt h2)]
theorem r06_P_Query_j3_okb {m : Nat} (ih : Ok_r06_P_Expr m) : Sd3 (r06_P_Query_j3_b (tab_r06_P_Expr m)) r06_P_Query_j3_J := by
 intro a0 a1 a2 r h cx
 unfold r06_P_Query_j3_b at h
 obtain ⟨⟨r1, r2⟩, h1, h⟩ := bs h fun _ => ih.r06_P_part
 exact tt 3 [(0, .reg [(3, cl [0] h1)] [(4, .one (.own 10 (Row.rows (α := Query) [a1, r2]) 67))])] [.cell 2 2, .cell 2 3, .cell 2 4, .cell 2 5, .cell 2 6, .cell 2 7, .cell 2 9] [0, 2, 3] [(0, 0), (1, 1), (2, 2)] 3 [pf h1, @pf (BldP (α := Query) [a1, r2] 67) (bldP _ _)] (ih.r06_P_Query_l1 h cx)
theorem r06_P_Query_j2_okb {m : Nat} (ih : Ok_r06_P_Expr m) : Sd3 (r06_P_Query_j2_b (tab_r06_P_Expr m)) r06_P_Query_j2_J := by
 intro a0 a1 a2 r h cx
 unfold r06_P_Query_j2_b at h
 obtain ⟨h1, h⟩ | ⟨h1, h⟩ := ite_some h
 · obtain ⟨⟨r1, r2⟩, h2, h⟩ := bs h fun _ => r06_P_take_ok
   obtain ⟨h3, h⟩ | ⟨h3, h⟩ := ite_some h
   · obtain ⟨⟨r3, r4⟩, h4, h⟩ := bs h fun _ => r06_P_take_ok
     obtain ⟨h5, h⟩ | ⟨h5, h⟩ := ite_some h
     · exact tt 15 [(0, .br true), (2, .reg [(1, cl [0] h2)] []), (3, .br true), (5, .reg [(1, cl [0] h4)] []), (6, .br true)] [] [0, 2, 3, 4] [(0, 0), (1, 1), (2, 2)] 3 [pf (bt h1), pf h2, pf (bt h3), pf h4, pf (bt h5)] (r06_P_Query_j3_okb ih h cx)
     · exact tt 15 [(0, .br true), (2, .reg [(1, cl [0] h2)] []), (3, .br true), (5, .reg [(1, cl [0] h4)] []), (6, .br false)] [] [0, 2, 3, 4] [(0, 0), (1, 1), (2, 2)] 3 [pf (bt h1), pf h2, pf (bt h3), pf h4, pf (bf h5)] (r06_P_Query_j3_okb ih h cx)
   · obtain ⟨⟨r3, r4⟩, h4, h⟩ := bs h fun _ => r06_P_take_ok
     obtain ⟨h5, h⟩ | ⟨h5, h⟩ := ite_some h
     · exact tt 13 [(0, .br true), (2, .reg [(1, cl [0] h2)] []), (3, .br false), (4, .reg [(1, cl [0] h4)] []), (5, .br true)] [] [0, 2, 3, 4] [(0, 0), (1, 1), (2, 2)] 3 [pf (bt h1), pf h2, pf (bf h3), pf h4, pf (bt h5)] (r06_P_Query_j3_okb ih h cx)
     · obtain ⟨r5, h6, h⟩ := bs h fun _ => r06_P_must_ok
       exact tt 13 [(0, .br true), (2, .reg [(1, cl [0] h2)] []), (3, .br false), (4, .reg [(1, cl [0] h4)] []), (5, .br false), (6, .reg [(1, cl [0] h6)] [])] [] [0, 2, 3, 4] [(0, 0), (1, 1), (2, 2)] 3 [pf (bt h1), pf h2, pf (bf h3), pf h4, pf (bf h5), pf h6] (r06_P_Query_j3_okb ih h cx)
 · obtain rfl := Option.some.inj h
   exact rr 8 [(0, .br false)] [] [(0, 0)] 1 [pf (bf h1)]
theorem r06_P_Query_l1_okb {m : Nat} (ih : Ok_r06_P_Expr m) : Sd2 (r06_P_Query_l1_b (tab_r06_P_Expr m)) r06_P_Query_l1_J := by
 intro a0 a1 r h cx
 unfold r06_P_Query_l1_b at h
 obtain ⟨h1, h⟩ | ⟨h1, h⟩ := ite_some h
 · obtain ⟨r1, h2, h⟩ := bs h fun _ => r06_P_is_ok
   obtain ⟨h3, h⟩ | ⟨h3, h⟩ := ite_some h
   · exact tt 3 [(0, .reg [(7, cl [0] h2 [0])] [(5, .bool true), (8, .bool true)])] [] [0, 2, 3, 38] [(0, 0), (1, 1), (2, 2)] 3 [pf (dt h1), pf h2, @pf (SameO (.var 74 (ca a0))) rfl, pf (bt h3)] (r06_P_Query_j2_okb ih h cx)
   · obtain ⟨r2, h4, h⟩ := bs h fun _ => r06_P_is_ok
     obtain ⟨h5, h⟩ | ⟨h5, h⟩ := ite_some h
     · exact tt 3 [(0, .reg [(7, cl [0] h2 [0]), (10, cl [0] h4 [0])] [(5, .bool true), (8, .bool false), (12, .bool true)])] [] [0, 2, 3, 38] [(0, 0), (1, 1), (2, 2)] 3 [pf (dt h1), pf h2, @pf (SameO (.var 74 (ca a0))) rfl, pf (bf h3), pf h4, @pf (SameO (.var 74 (ca a0))) rfl, pf (bt h5)] (r06_P_Query_j2_okb ih h cx)
     · obtain ⟨r3, h6, h⟩ := bs h fun _ => r06_P_is_ok
       exact tt 3 [(0, .reg [(7, cl [0] h2 [0]), (10, cl [0] h4 [0]), (14, cl [0] h6 [0])] [(5, .bool true), (8, .bool false), (12, .bool false)])] [] [0, 2, 3, 38] [(0, 0), (1, 1), (2, 2)] 3 [pf (dt h1), pf h2, @pf (SameO (.var 74 (ca a0))) rfl, pf (bf h3), pf h4, @pf (SameO (.var 74 (ca a0))) rfl, pf (bf h5), pf h6, @pf (SameO (.var 74 (ca a0))) rfl] (r06_P_Query_j2_okb ih h cx)
 · exact tt 3 [(0, .reg [] [(5, .bool false)])] [] [0, 2, 3, 38] [(0, 0), (1, 1), (2, 2)] 3 [pf (df h1)] (r06_P_Query_j2_okb ih h cx)
theorem r06_P_and_okb {m : Nat} (ih : Ok_r06_P_Expr m) : Sd1 (r06_P_and_b (tab_r06_P_Expr m)) r06_P_and_J := by
 intro a0 r h
 unfold r06_P_and_b at h
 refine ent (c := bodyOf f53) func53 rfl rfl rfl fun cx => ?_
 obtain ⟨⟨r1, r2⟩, h1, h⟩ := bs h fun _ => ih.r06_P_not
 exact tt 7 [(1, .reg [(1, cl [0] h1)] [])] [] [0, 2, 3] [(0, 0), (1, 1), (49, 2)] 3 [pf h1] (ih.r06_P_and_l1 h cx)
theorem r06_P_and_l1_okb {m : Nat} (ih : Ok_r06_P_Expr m) : Sd2 (r06_P_and_l1_b (tab_r06_P_Expr m)) r06_P_and_l1_J := by
 intro a0 a1 r h cx
 unfold r06_P_and_l1_b at h
 obtain ⟨⟨r1, r2⟩, h1, h⟩ := bs h fun _ => r06_P_take_ok
 obtain ⟨h2, h⟩ | ⟨h2, h⟩ := ite_some h
 · obtain ⟨⟨r3, r4⟩, h3, h⟩ := bs h fun _ => ih.r06_P_not
   obtain ⟨r5, h4, h⟩ := bs h fun _ => r06_bin_ok
   exact tt 9 [(0, .reg [(1, cl [0] h1)] []), (1, .br true), (2, .reg [(2, cl [0] h3), (3, cl [] h4)] [])] [] [0, 2, 3] [(0, 0), (1, 1), (2, 2)] 3 [pf h1, pf (bt h2), pf h3, pf h4] (ih.r06_P_and_l1 h cx)
 · obtain rfl := Option.some.inj h
   exact rr 9 [(0, .reg [(1, cl [0] h1)] []), (1, .br false)] [] [(0, 0)] 1 [pf h1, pf (bf h2)]
theorem r06_P_cmp_okb {m : Nat} (ih : Ok_r06_P_Expr m) : Sd1 (r06_P_cmp_b (tab_r06_P_Expr m)) r06_P_cmp_J := by
 intro a0 r h
 unfold r06_P_cmp_b at h
 refine ent (c := bodyOf f121) func121 rfl rfl rfl fun cx => ?_
 obtain ⟨⟨r1, r2⟩, h1, h⟩ := bs h fun _ => ih.r06_P_sum
 obtain ⟨⟨r3, r4⟩, h2, h⟩ := bs h fun _ => r06_P_oneOf_ok
 obtain ⟨h3, h⟩ | ⟨h3, h⟩ := ite_some h
 · obtain ⟨⟨r5, r6⟩, h4, h⟩ := bs h fun _ => r06_P_take_ok
   obtain ⟨h5, h⟩ | ⟨h5, h⟩ := ite_some h
   · obtain ⟨⟨r7, r8⟩, h6, h⟩ := bs h fun _ => r06_P_take_ok
     obtain ⟨h7, h⟩ | ⟨h7, h⟩ := ite_some h
     · exact tt 22 [(1, .reg [(1, cl [0] h1)] []), (2, .reg [(2, cl [0] h2)] [(1, .one (.own 1 (Row.rows (α := Str) [s_x3d, s_x3cx3e, s_x3cx3d, s_x3ex3d, s_x3c, s_x3e]) 97))]), (4, .br false), (5, .reg [(1, cl [0] h4)] []), (6, .br true), (8, .reg [(1, cl [0] h6)] []), (9, .br true)] [] [0, 2, 3, 5] [(0, 0), (1, 1), (49, 2)] 3 [pf h1, @pf (BldP (α := Str) [s_x3d, s_x3cx3e, s_x3cx3d, s_x3ex3d, s_x3c, s_x3e] 97) (bldP _ _), pf h2, pf (ndf h3), pf h4, pf (bt h5), pf h6, pf (bt h7)] (r06_P_cmp_j1_ok h cx)
     · exact tt 22 [(1, .reg [(1, cl [0] h1)] []), (2, .reg [(2, cl [0] h2)] [(1, .one (.own 1 (Row.rows (α := Str) [s_x3d, s_x3cx3e, s_x3cx3d, s_x3ex3d, s_x3c, s_x3e]) 97))]), (4, .br false), (5, .reg [(1, cl [0] h4)] []), (6, .br true), (8, .reg [(1, cl [0] h6)] []), (9, .br false)] [] [0, 2, 3, 5] [(0, 0), (1, 1), (49, 2)] 3 [pf h1, @pf (BldP (α := Str) [s_x3d, s_x3cx3e, s_x3cx3d, s_x3ex3d, s_x3c, s_x3e] 97) (bldP _ _), pf h2, pf (ndf h3), pf h4, pf (bt h5), pf h6, pf (bf h7)] (r06_P_cmp_j1_ok h cx)
   · obtain ⟨r7, h6, h⟩ := bs h fun _ => r06_P_is_ok
     obtain ⟨h7, h⟩ | ⟨h7, h⟩ := ite_some h
     · obtain ⟨⟨r8, r9⟩, h8, h⟩ := bs h fun _ => r06_P_take_ok
       obtain ⟨h9, h⟩ | ⟨h9, h⟩ := ite_some h
       · obtain ⟨r10, h10, h⟩ := bs h fun _ => r06_P_must_ok
         obtain ⟨r11, h11, h⟩ := bs h fun _ => r06_P_must_ok
         obtain ⟨⟨r12, r13⟩, h12, h⟩ := bs h fun _ => ih.r06_P_Query
         obtain ⟨r14, h13, h⟩ := bs h fun _ => r06_P_must_ok
         obtain rfl := Option.some.inj h
         exact rr 39 [(1, .reg [(1, cl [0] h1)] []), (2, .reg [(2, cl [0] h2)] [(1, .one (.own 1 (Row.rows (α := Str) [s_x3d, s_x3cx3e, s_x3cx3d, s_x3ex3d, s_x3c, s_x3e]) 97))]), (4, .br false), (5, .reg [(1, cl [0] h4)] []), (6, .br false), (7, .reg [(1, cl [0] h6 [0])] [(2, .bool true)]), (10, .reg [(1, cl [0] h8)] []), (11, .br true), (13, .reg [(1, cl [0] h10)] []), (14, .reg [(1, cl [0] h11)] []), (15, .reg [(1, cl [0] h12)] []), (16, .reg [(1, cl [0] h13)] []), (17, .reg [] [(2, .one (.own 6 (Row.rows (α := Expr) [r2]) 561)), (4, .one (.own 10 (Row.rows (α := Query) [r13]) 593))])] [] [(0, 0)] 1 [pf h1, @pf (BldP (α := Str) [s_x3d, s_x3cx3e, s_x3cx3d, s_x3ex3d, s_x3c, s_x3e] 97) (bldP _ _), pf h2, pf (ndf h3), pf h4, pf (bf h5), pf h6, @pf (SameO (.var 74 (ca r5))) rfl, pf (bt h7), pf h8, pf (bt h9), pf h10, pf h11, pf h12, pf h13, @pf (BldP (α := Expr) [r2] 561) (bldP _ _), @pf (BldP (α := Query) [r13] 593) (bldP _ _)]
       · obtain ⟨r10, h10, h⟩ := bs h fun _ => r06_P_must_ok
         obtain ⟨r11, h11, h⟩ := bs h fun _ => r06_P_must_ok
         obtain ⟨⟨r12, r13⟩, h12, h⟩ := bs h fun _ => ih.r06_P_Query
         obtain ⟨r14, h13, h⟩ := bs h fun _ => r06_P_must_ok
         obtain rfl := Option.some.inj h
         exact rr 39 [(1, .reg [(1, cl [0] h1)] []), (2, .reg [(2, cl [0] h2)] [(1, .one (.own 1 (Row.rows (α := Str) [s_x3d, s_x3cx3e, s_x3cx3d, s_x3ex3d, s_x3c, s_x3e]) 97))]), (4, .br false), (5, .reg [(1, cl [0] h4)] []), (6, .br false), (7, .reg [(1, cl [0] h6 [0])] [(2, .bool true)]), (10, .reg [(1, cl [0] h8)] []), (11, .br false), (12, .reg [(1, cl [0] h10)] []), (13, .reg [(1, cl [0] h11)] []), (14, .reg [(1, cl [0] h12)] []), (15, .reg [(1, cl [0] h13)] []), (16, .reg [] [(2, .one (.own 6 (Row.rows (α := Expr) [r2]) 545)), (4, .one (.own 10 (Row.rows (α := Query) [r13]) 577))])] [] [(0, 0)] 1 [pf h1, @pf (BldP (α := Str) [s_x3d, s_x3cx3e, s_x3cx3d, s_x3ex3d, s_x3c, s_x3e] 97) (bldP _ _), pf h2, pf (ndf h3), pf h4, pf (bf h5), pf h6, @pf (SameO (.var 74 (ca r5))) rfl, pf (bt h7), pf h8, pf (bf h9), pf h10, pf h11, pf h12, pf h13, @pf (BldP (α := Expr) [r2] 545) (bldP _ _), @pf (BldP (α := Query) [r13] 577) (bldP _ _)]
     · obtain ⟨r8, h8, h⟩ := bs h fun _ => r06_P_is_ok
       obtain ⟨h9, h⟩ | ⟨h9, h⟩ := ite_some h
       · obtain ⟨⟨r9, r10⟩, h10, h⟩ := bs h fun _ => r06_P_take_ok
         obtain ⟨h11, h⟩ | ⟨h11, h⟩ := ite_some h
         · obtain ⟨r11, h12, h⟩ := bs h fun _ => r06_P_must_ok
           obtain ⟨r12, h13, h⟩ := bs h fun _ => r06_P_must_ok
           obtain ⟨⟨r13, r14⟩, h14, h⟩ := bs h fun _ => ih.r06_P_Query
           obtain ⟨r15, h15, h⟩ := bs h fun _ => r06_P_must_ok
           obtain rfl := Option.some.inj h
           exact rr 39 [(1, .reg [(1, cl [0] h1)] []), (2, .reg [(2, cl [0] h2)] [(1, .one (.own 1 (Row.rows (α := Str) [s_x3d, s_x3cx3e, s_x3cx3d, s_x3ex3d, s_x3c, s_x3e]) 97))]), (4, .br false), (5, .reg [(1, cl [0] h4)] []), (6, .br false), (7, .reg [(1, cl [0] h6 [0]), (4, cl [0] h8 [0])] [(2, .bool false)]), (8, .br true), (10, .reg [(1, cl [0] h10)] []), (11, .br true), (13, .reg [(1, cl [0] h12)] []), (14, .reg [(1, cl [0] h13)] []), (15, .reg [(1, cl [0] h14)] []), (16, .reg [(1, cl [0] h15)] []), (17, .reg [] [(2, .one (.own 6 (Row.rows (α := Expr) [r2]) 561)), (4, .one (.own 10 (Row.rows (α := Query) [r14]) 593))])] [] [(0, 0)] 1 [pf h1, @pf (BldP (α := Str) [s_x3d, s_x3cx3e, s_x3cx3d, s_x3ex3d, s_x3c, s_x3e] 97) (bldP _ _), pf h2, pf (ndf h3), pf h4, pf (bf h5), pf h6, @pf (SameO (.var 74 (ca r5))) rfl, pf (bf h7), pf h8, @pf (SameO (.var 74 (ca r5))) rfl, pf (bt h9), pf h10, pf (bt h11), pf h12, pf h13, pf h14, pf h15, @pf (BldP (α := Expr) [r2] 561) (bldP _ _), @pf (BldP (α := Query) [r14] 593) (bldP _ _)]
         · obtain ⟨r11, h12, h⟩ := bs h fun _ => r06_P_must_ok
           obtain ⟨r12, h13, h⟩ := bs h fun _ => r06_P_must_ok
           obtain ⟨⟨r13, r14⟩, h14, h⟩ := bs h fun _ => ih.r06_P_Query
           obtain ⟨r15, h15, h⟩ := bs h fun _ => r06_P_must_ok
           obtain rfl := Option.some.inj h
           exact rr 39 [(1, .reg [(1, cl [0] h1)] []), (2, .reg [(2, cl [0] h2)] [(1, .one (.own 1 (Row.rows (α := Str) [s_x3d, s_x3cx3e, s_x3cx3d, s_x3ex3d, s_x3c, s_x3e]) 97))]), (4, .br false), (5, .reg [(1, cl [0] h4)] []), (6, .br false), (7, .reg [(1, cl [0] h6 [0]), (4, cl [0] h8 [0])] [(2, .bool false)]), (8, .br true), (10, .reg [(1, cl [0] h10)] []), (11, .br false), (12, .reg [(1, cl [0] h12)] []), (13, .reg [(1, cl [0] h13)] []), (14, .reg [(1, cl [0] h14)] []), (15, .reg [(1, cl [0] h15)] []), (16, .reg [] [(2, .one (.own 6 (Row.rows (α := Expr) [r2]) 545)), (4, .one (.own 10 (Row.rows (α := Query) [r14]) 577))])] [] [(0, 0)] 1 [pf h1, @pf (BldP (α := Str) [s_x3d, s_x3cx3e, s_x3cx3d, s_x3ex3d, s_x3c, s_x3e] 97) (bldP _ _), pf h2, pf (ndf h3), pf h4, pf (bf h5), pf h6, @pf (SameO (.var 74 (ca r5))) rfl, pf (bf h7), pf h8, @pf (SameO (.var 74 (ca r5))) rfl, pf (bt h9), pf h10, pf (bf h11), pf h12, pf h13, pf h14, pf h15, @pf (BldP (α := Expr) [r2] 545) (bldP _ _), @pf (BldP (α := Query) [r14] 577) (bldP _ _)]
       · obtain rfl := Option.some.inj h
         exact rr 25 [(1, .reg [(1, cl [0] h1)] []), (2, .reg [(2, cl [0] h2)] [(1, .one (.own 1 (Row.rows (α := Str) [s_x3d, s_x3cx3e, s_x3cx3d, s_x3ex3d, s_x3c, s_x3e]) 97))]), (4, .br false), (5, .reg [(1, cl [0] h4)] []), (6, .br false), (7, .reg [(1, cl [0] h6 [0]), (4, cl [0] h8 [0])] [(2, .bool false)]), (8, .br false)] [] [(0, 0)] 1 [pf h1, @pf (BldP (α := Str) [s_x3d, s_x3cx3e, s_x3cx3d, s_x3ex3d, s_x3c, s_x3e] 97) (bldP _ _), pf h2, pf (ndf h3), pf h4, pf (bf h5), pf h6, @pf (SameO (.var 74 (ca r5))) rfl, pf (bf h7), pf h8, @pf (SameO (.var 74 (ca r5))) rfl, pf (bf h9)]
 · obtain ⟨⟨r5, r6⟩, h4, h⟩ := bs h fun _ => ih.r06_P_sum
   obtain ⟨r7, h5, h⟩ := bs h fun _ => r06_bin_ok
   obtain rfl := Option.some.inj h
   exact rr 14 [(1, .reg [(1, cl [0] h1)] []), (2, .reg [(2, cl [0] h2)] [(1, .one (.own 1 (Row.rows (α := Str) [s_x3d, s_x3cx3e, s_x3cx3d, s_x3ex3d, s_x3c, s_x3e]) 97))]), (4, .br true), (5, .reg [(3, cl [0] h4), (4, cl [] h5)] [])] [] [(0, 0)] 1 [pf h1, @pf (BldP (α := Str) [s_x3d, s_x3cx3e, s_x3cx3d, s_x3ex3d, s_x3c, s_x3e] 97) (bldP _ _), pf h2, pf (ndt h3), pf h4, pf h5]
theorem r06_P_exprs_okb {m : Nat} (ih : Ok_r06_P_Expr m) : Sd1 (r06_P_exprs_b (tab_r06_P_Expr m)) r06_P_exprs_J := by
 intro a0 r h
 unfold r06_P_exprs_b at h
 refine ent (c := bodyOf f96) func96 rfl rfl rfl fun cx => ?_
 obtain ⟨⟨r1, r2⟩, h1, h⟩ := bs h fun _ => ih.r06_P_Expr
 exact tt 7 [(1, .reg [(1, cl [0] h1)] [(2, .one (.own 6 (Row.rows (α := Expr) [r2]) 49))])] [] [0, 3] [(0, 0), (49, 1)] 2 [pf h1, @pf (BldP (α := Expr) [r2] 49) (bldP _ _)] (ih.r06_P_exprs_l1 h cx)
theorem r06_P_exprs_l1_okb {m : Nat} (ih : Ok_r06_P_Expr m) : Sd2 (r06_P_exprs_l1_b (tab_r06_P_Expr m)) r06_P_exprs_l1_J := by
 intro a0 a1 r h cx
 unfold r06_P_exprs_l1_b at h
 obtain ⟨⟨r1, r2⟩, h1, h⟩ := bs h fun _ => r06_P_take_ok
 obtain ⟨h2, h⟩ | ⟨h2, h⟩ := ite_some h
 · obtain ⟨⟨r3, r4⟩, h3, h⟩ := bs h fun _ => ih.r06_P_Expr
   obtain ⟨h4, h⟩ := chk_some h
   exact tt 9 [(0, .reg [(1, cl [0] h1)] []), (1, .br true), (2, .reg [(2, cl [0] h3)] [(3, .one (.own 6 (Row.rows (α := Expr) [r4]) 82)), (4, .one (.own 6 (Row.rows (α := Expr) (a1 ++ [r4])) 98))])] [] [0, 3] [(0, 0), (98, 1)] 2 [pf h1, pf (bt h2), pf h3, @pf (BldP (α := Expr) [r4] 82) (bldP _ _), @pf (AppP (α := Expr) a1 [r4] 98) (appP _ _ _), pf (cap1 h4), pf (cap2 h4)] (ih.r06_P_exprs_l1 h cx)
 · obtain rfl := Option.some.inj h
   exact rr 9 [(0, .reg [(1, cl [0] h1)] []), (1, .br false)] [] [(0, 0)] 1 [pf h1, pf (bf h2)]
theorem r06_P_not_okb {m : Nat} (ih : Ok_r06_P_Expr m) : Sd1 (r06_P_not_b (tab_r06_P_Expr m)) r06_P_not_J := by
 intro a0 r h
 unfold r06_P_not_b at h
 refine ent (c := bodyOf f86) func86 rfl rfl rfl fun cx => ?_
 obtain ⟨h1, h⟩ | ⟨h1, h⟩ := ite_some h
 · obtain ⟨⟨r1, r2⟩, h2, h⟩ := bs h fun _ => r06_P_take_ok
   obtain ⟨h3, h⟩ | ⟨h3, h⟩ := ite_some h
   · obtain ⟨r3, h4, h⟩ := bs h fun _ => r06_P_down_ok
     obtain ⟨⟨r4, r5⟩, h5, h⟩ := bs h fun _ => ih.r06_P_not
     obtain rfl := Option.some.inj h
     exact rr 21 [(2, .br false), (3, .reg [(1, cl [0] h2)] []), (4, .br true), (5, .reg [(1, cl [0] h4)] []), (6, .reg [(1, cl [0] h5)] [(2, .one (.own 6 (Row.rows (α := Expr) [r5]) 193))])] [] [(0, 0)] 1 [pf (ndf h1), pf h2, pf (bt h3), pf h4, pf h5, @pf (BldP (α := Expr) [r5] 193) (bldP _ _)]
   · obtain ⟨⟨r3, r4⟩, h4, h⟩ := bs h fun _ => ih.r06_P_cmp
     obtain rfl := Option.some.inj h
     exact rr 16 [(2, .br false), (3, .reg [(1, cl [0] h2)] []), (4, .br false), (5, .reg [(1, cl [0] h4)] [])] [] [(0, 0)] 1 [pf (ndf h1), pf h2, pf (bf h3), pf h4]
 · obtain rfl := Option.some.inj h
   exact rr 10 [(2, .br true)] [] [(0, 0)] 1 [pf (ndt h1)]
theorem r06_P_one_okb {m : Nat} (ih : Ok_r06_P_Expr m) : Sd1 (r06_P_one_b (tab_r06_P_Expr m)) r06_P_one_J := by
 intro a0 r h
 unfold r06_P_one_b at h
 refine ent (c := bodyOf f123) func123 rfl rfl rfl fun cx => ?_
 obtain ⟨⟨r1, r2⟩, h1, h⟩ := bs h fun _ => r06_P_take_ok
 obtain ⟨h2, h⟩ | ⟨h2, h⟩ := ite_some h
 · obtain ⟨⟨r3, r4⟩, h3, h⟩ := bs h fun _ => ih.r06_P_Query
   obtain ⟨r5, h4, h⟩ := bs h fun _ => r06_P_must_ok
   obtain ⟨r6, h5, h⟩ := bs h fun _ => r06_P_must_ok
   obtain ⟨⟨r7, r8⟩, h6, h⟩ := bs h fun _ => r06_P_name_ok
   obtain rfl := Option.some.inj h
   exact rr 16 [(1, .reg [(1, cl [0] h1)] []), (2, .br true), (3, .reg [(1, cl [0] h3)] []), (4, .reg [(1, cl [0] h4)] []), (5, .reg [(1, cl [0] h5)] []), (6, .reg [(1, cl [0] h6)] [(3, .one (.own 10 (Row.rows (α := Query) [r4]) 225))])] [] [(0, 0)] 1 [pf h1, pf (bt h2), pf h3, pf h4, pf h5, pf h6, @pf (BldP (α := Query) [r4] 225) (bldP _ _)]
 · obtain ⟨⟨r3, r4⟩, h3, h⟩ := bs h fun _ => r06_P_name_ok
   obtain ⟨⟨r5, r6⟩, h4, h⟩ := bs h fun _ => r06_P_take_ok
   obtain ⟨⟨r7, r8⟩, h5, h⟩ := bs h fun _ => r06_P_take_ok
   obtain ⟨h6, h⟩ | ⟨h6, h⟩ := ite_some h
   · obtain ⟨⟨r9, r10⟩, h7, h⟩ := bs h fun _ => r06_P_name_ok
     obtain rfl := Option.some.inj h
     exact rr 22 [(1, .reg [(1, cl [0] h1)] []), (2, .br false), (3, .reg [(1, cl [0] h3)] []), (5, .reg [(1, cl [0] h4)] []), (6, .reg [(1, cl [0] h5)] []), (7, .br true), (8, .reg [(1, cl [0] h7)] [])] [] [(0, 0)] 1 [pf h1, pf (bf h2), pf h3, pf h4, pf h5, pf (bt h6), pf h7]
   · obtain rfl := Option.some.inj h
     exact rr 22 [(1, .reg [(1, cl [0] h1)] []), (2, .br false), (3, .reg [(1, cl [0] h3)] []), (5, .reg [(1, cl [0] h4)] []), (6, .reg [(1, cl [0] h5)] []), (7, .br false)] [] [(0, 0)] 1 [pf h1, pf (bf h2), pf h3, pf h4, pf h5, pf (bf h6)]
theorem r06_P_part_okb {m : Nat} (ih : Ok_r06_P_Expr m) : Sd1 (r06_P_part_b (tab_r06_P_Expr m)) r06_P_part_J := by
 intro a0 r h
 unfold r06_P_part_b at h
 refine ent (c := bodyOf f58) func58 rfl rfl rfl fun cx => ?_
 obtain ⟨⟨r1, r2⟩, h1, h⟩ := bs h fun _ => r06_P_take_ok
 obtain ⟨h2, h⟩ | ⟨h2, h⟩ := ite_some h
 · obtain ⟨⟨r3, r4⟩, h3, h⟩ := bs h fun _ => ih.r06_P_Query
   obtain ⟨r5, h4, h⟩ := bs h fun _ => r06_P_must_ok
   obtain rfl := Option.some.inj h
   exact rr 14 [(1, .reg [(1, cl [0] h1)] []), (2, .br true), (3, .reg [(1, cl [0] h3)] []), (4, .reg [(1, cl [0] h4)] [])] [] [(0, 0)] 1 [pf h1, pf (bt h2), pf h3, pf h4]
 · obtain ⟨r3, h3, h⟩ := bs h fun _ => r06_P_must_ok
   obtain ⟨⟨r4, r5⟩, h4, h⟩ := bs h fun _ => r06_P_take_ok
   exact tt 18 [(1, .reg [(1, cl [0] h1)] []), (2, .br false), (3, .reg [(1, cl [0] h3)] []), (5, .reg [(1, cl [0] h4)] [])] [.cellOwn 97 2 209 83] [0, 2, 4, 5] [(0, 0), (1, 1), (97, 2), (209, 3)] 4 [pf h1, pf (bf h2), pf h3, pf h4] (ih.r06_P_part_l1 h cx)
theorem r06_P_part_j4_okb {m : Nat} (ih : Ok_r06_P_Expr m) : Sd7 (r06_P_part_j4_b (tab_r06_P_Expr m)) r06_P_part_j4_J := by
 intro a0 a1 a2 a3 a4 a5 a6 r h cx
 unfold r06_P_part_j4_b at h
 obtain ⟨⟨r1, r2⟩, h1, h⟩ := bs h fun _ => r06_P_take_ok
 obtain ⟨h2, h⟩ | ⟨h2, h⟩ := ite_some h
 · obtain ⟨r3, h3, h⟩ := bs h fun _ => r06_P_must_ok
   exact tt 10 [(0, .reg [(1, cl [0] h1)] []), (1, .br true), (2, .reg [(1, cl [0] h3)] [])] [.cellOwn 2 7 87 85] [0, 2, 4, 5] [(0, 0), (1, 1), (2, 2), (3, 3), (4, 4), (5, 5), (6, 6), (87, 7)] 8 [pf h1, pf (bt h2), pf h3] (ih.r06_P_part_l5 h cx)
 · obtain ⟨⟨r3, r4⟩, h3, h⟩ := bs h fun _ => r06_P_take_ok
   obtain ⟨h4, h⟩ | ⟨h4, h⟩ := ite_some h
   · obtain ⟨⟨r5, r6⟩, h5, h⟩ := bs h fun _ => r06_P_int_ok
     obtain rfl := Option.some.inj h
     exact rr 14 [(0, .reg [(1, cl [0] h1)] []), (1, .br false), (2, .reg [(1, cl [0] h3)] []), (3, .br true), (4, .reg [(1, cl [0] h5)] [])] [] [(0, 0)] 1 [pf h1, pf (bf h2), pf h3, pf (bt h4), pf h5]
   · obtain rfl := Option.some.inj h
     exact rr 14 [(0, .reg [(1, cl [0] h1)] []), (1, .br false), (2, .reg [(1, cl [0] h3)] []), (3, .br false)] [] [(0, 0)] 1 [pf h1, pf (bf h2), pf h3, pf (bf h4)]
theorem r06_P_part_j3_okb {m : Nat} (ih : Ok_r06_P_Expr m) : Sd5 (r06_P_part_j3_b (tab_r06_P_Expr m)) r06_P_part_j3_J := by
 intro a0 a1 a2 a3 a4 r h cx
 unfold r06_P_part_j3_b at h
 obtain ⟨⟨r1, r2⟩, h1, h⟩ := bs h fun _ => r06_P_take_ok
 obtain ⟨h2, h⟩ | ⟨h2, h⟩ := ite_some h
 · obtain ⟨r3, h3, h⟩ := bs h fun _ => r06_P_must_ok
   obtain ⟨⟨r4, r5⟩, h4, h⟩ := bs h fun _ => ih.r06_P_exprs
   obtain ⟨⟨r6, r7⟩, h5, h⟩ := bs h fun _ => r06_P_take_ok
   obtain ⟨h6, h⟩ | ⟨h6, h⟩ := ite_some h
   · obtain ⟨⟨r8, r9⟩, h7, h⟩ := bs h fun _ => ih.r06_P_Expr
     exact tt 12 [(0, .reg [(1, cl [0] h1)] []), (1, .br true), (2, .reg [(1, cl [0] h3)] []), (3, .reg [(1, cl [0] h4)] []), (4, .reg [(1, cl [0] h5)] []), (5, .br true), (6, .reg [(1, cl [0] h7)] [(2, .one (.own 6 (Row.rows (α := Expr) [r9]) 198))])] [] [0, 2, 4] [(0, 0), (1, 1), (2, 2), (3, 3), (4, 4), (5, 5), (198, 6)] 7 [pf h1, pf (bt h2), pf h3, pf h4, pf h5, pf (bt h6), pf h7, @pf (BldP (α := Expr) [r9] 198) (bldP _ _)] (r06_P_part_j4_okb ih h cx)
   · exact tt 12 [(0, .reg [(1, cl [0] h1)] []), (1, .br true), (2, .reg [(1, cl [0] h3)] []), (3, .reg [(1, cl [0] h4)] []), (4, .reg [(1, cl [0] h5)] []), (5, .br false)] [.cellOwn 2 6 166 26] [0, 2, 4] [(0, 0), (1, 1), (2, 2), (3, 3), (4, 4), (5, 5), (166, 6)] 7 [pf h1, pf (bt h2), pf h3, pf h4, pf h5, pf (bf h6)] (r06_P_part_j4_okb ih h cx)
 · exact tt 5 [(0, .reg [(1, cl [0] h1)] []), (1, .br false)] [.cell 2 5, .cellOwn 2 6 38 26] [0, 2, 4] [(0, 0), (1, 1), (2, 2), (3, 3), (4, 4), (5, 5), (38, 6)] 7 [pf h1, pf (bf h2)] (r06_P_part_j4_okb ih h cx)
theorem r06_P_part_j2_okb {m : Nat} (ih : Ok_r06_P_Expr m) : Sd4 (r06_P_part_j2_b (tab_r06_P_Expr m)) r06_P_part_j2_J := by
 intro a0 a1 a2 a3 r h cx
 unfold r06_P_part_j2_b at h
 obtain ⟨⟨r1, r2⟩, h1, h⟩ := bs h fun _ => r06_P_take_ok
 obtain ⟨h2, h⟩ | ⟨h2, h⟩ := ite_some h
 · obtain ⟨⟨r3, r4⟩, h3, h⟩ := bs h fun _ => ih.r06_P_Expr
   exact tt 5 [(0, .reg [(1, cl [0] h1)] []), (1, .br true), (2, .reg [(1, cl [0] h3)] [(2, .one (.own 6 (Row.rows (α := Expr) [r4]) 69))])] [] [0, 2, 4] [(0, 0), (1, 1), (2, 2), (3, 3), (4, 4), (69, 5)] 6 [pf h1, pf (bt h2), pf h3, @pf (BldP (α := Expr) [r4] 69) (bldP _ _)] (r06_P_part_j3_okb ih h cx)
 · exact tt 5 [(0, .reg [(1, cl [0] h1)] []), (1, .br false)] [.cellOwn 2 4 37 26] [0, 2, 4] [(0, 0), (1, 1), (2, 2), (3, 3), (4, 4), (37, 5)] 6 [pf h1, pf (bf h2)] (r06_P_part_j3_okb ih h cx)
theorem r06_P_part_l1_okb {m : Nat} (ih : Ok_r06_P_Expr m) : Sd4 (r06_P_part_l1_b (tab_r06_P_Expr m)) r06_P_part_l1_J := by
 intro a0 a1 a2 a3 r h cx
 unfold r06_P_part_l1_b at h
 obtain ⟨h1, h⟩ | ⟨h1, h⟩ := ite_some h
 · obtain ⟨⟨r1, r2⟩, h2, h⟩ := bs h fun _ => ih.r06_P_Expr
   obtain ⟨r3, h3, h⟩ := bs h fun _ => r06_P_must_ok
   obtain ⟨⟨r4, r5⟩, h4, h⟩ := bs h fun _ => r06_P_name_ok
   obtain ⟨h5, h⟩ := chk_some h
   obtain ⟨⟨r6, r7⟩, h6, h⟩ := bs h fun _ => r06_P_take_ok
   exact tt 15 [(1, .br true), (2, .reg [(1, cl [0] h2)] []), (3, .reg [(1, cl [0] h3)] []), (4, .reg [(4, cl [0] h4)] [(6, .one (.own 7 (Row.rows (α := ItemT) [(ItemT.mk r2 r5)]) 212)), (7, .one (.own 7 (Row.rows (α := ItemT) (a2 ++ [(ItemT.mk r2 r5)])) 228))]), (5, .reg [(1, cl [0] h6)] [])] [] [0, 2, 4, 5] [(0, 0), (1, 1), (2, 2), (228, 3)] 4 [pf (bt h1), pf h2, pf h3, pf h4, @pf (BldP (α := ItemT) [(ItemT.mk r2 r5)] 212) (bldP _ _), @pf (AppP (α := ItemT) a2 [(ItemT.mk r2 r5)] 228) (appP _ _ _), pf (cap1 h5), pf (cap2 h5), pf h6] (ih.r06_P_part_l1 h cx)
 · obtain ⟨⟨r1, r2⟩, h2, h⟩ := bs h fun _ => r06_P_take_ok
   obtain ⟨h3, h⟩ | ⟨h3, h⟩ := ite_some h
   · obtain ⟨⟨r3, r4⟩, h4, h⟩ := bs h fun _ => ih.r06_P_src
     exact tt 10 [(1, .br false), (2, .reg [(1, cl [0] h2)] []), (3, .br true), (4, .reg [(1, cl [0] h4)] [(2, .one (.own 7 (Row.rows (α := From) [r4]) 84))])] [] [0, 2, 4] [(0, 0), (1, 1), (2, 2), (3, 3), (84, 4)] 5 [pf (bf h1), pf h2, pf (bt h3), pf h4, @pf (BldP (α := From) [r4] 84) (bldP _ _)] (r06_P_part_j2_okb ih h cx)
   · exact tt 10 [(1, .br false), (2, .reg [(1, cl [0] h2)] []), (3, .br false)] [.cellOwn 2 3 52 65] [0, 2, 4] [(0, 0), (1, 1), (2, 2), (3, 3), (52, 4)] 5 [pf (bf h1), pf h2, pf (bf h3)] (r06_P_part_j2_okb ih h cx)
theorem r06_P_part_l5_okb {m : Nat} (ih : Ok_r06_P_Expr m) : Sd9 (r06_P_part_l5_b (tab_r06_P_Expr m)) r06_P_part_l5_J := by
 intro a0 a1 a2 a3 a4 a5 a6 a7 a8 r h cx
 unfold r06_P_part_l5_b at h
 obtain ⟨h1, h⟩ | ⟨h1, h⟩ := ite_some h
 · obtain ⟨⟨r1, r2⟩, h2, h⟩ := bs h fun _ => ih.r06_P_Expr
   obtain ⟨⟨r3, r4⟩, h3, h⟩ := bs h fun _ => r06_P_take_ok
   obtain ⟨h4, h⟩ := chk_some h
   obtain ⟨⟨r5, r6⟩, h5, h⟩ := bs h fun _ => r06_P_take_ok
   exact tt 15 [(1, .br true), (2, .reg [(1, cl [0] h2)] []), (3, .reg [(1, cl [0] h3)] []), (4, .reg [] [(3, .one (.own 7 (Row.rows (α := Key) [(Key.mk r2 r4)]) 216)), (4, .one (.own 7 (Row.rows (α := Key) (a7 ++ [(Key.mk r2 r4)])) 232))]), (5, .reg [(1, cl [0] h5)] [])] [] [0, 2, 4, 5] [(0, 0), (1, 1), (2, 2), (3, 3), (4, 4), (5, 5), (6, 6), (232, 7)] 8 [pf (bt h1), pf h2, pf h3, @pf (BldP (α := Key) [(Key.mk r2 r4)] 216) (bldP _ _), @pf (AppP (α := Key) a7 [(Key.mk r2 r4)] 232) (appP _ _ _), pf (cap1 h4), pf (cap2 h4), pf h5] (ih.r06_P_part_l5 h cx)
 · obtain ⟨⟨r1, r2⟩, h2, h⟩ := bs h fun _ => r06_P_take_ok
   obtain ⟨h3, h⟩ | ⟨h3, h⟩ := ite_some h
   · obtain ⟨⟨r3, r4⟩, h4, h⟩ := bs h fun _ => r06_P_int_ok
     obtain rfl := Option.some.inj h
     exact rr 14 [(1, .br false), (2, .reg [(1, cl [0] h2)] []), (3, .br true), (4, .reg [(1, cl [0] h4)] [])] [] [(0, 0)] 1 [pf (bf h1), pf h2, pf (bt h3), pf h4]
   · obtain rfl := Option.some.inj h
     exact rr 14 [(1, .br false), (2, .reg [(1, cl [0] h2)] []), (3, .br false)] [] [(0, 0)] 1 [pf (bf h1), pf h2, pf (bf h3)]
theorem r06_P_prim_j2_okb {m : Nat} (ih : Ok_r06_P_Expr m) : Sd3 (r06_P_prim_j2_b (tab_r06_P_Expr m)) r06_P_prim_j2_J := by
 intro a0 a1 a2 r h cx
 unfold r06_P_prim_j2_b at h
 obtain ⟨h1, h⟩ | ⟨h1, h⟩ := ite_some h
 · obtain ⟨h2, h⟩ | ⟨h2, h⟩ := ite_some h
   · obtain ⟨⟨r1, r2⟩, h3, h⟩ := bs h fun _ => r06_P_take_ok
     obtain ⟨h4, h⟩ | ⟨h4, h⟩ := ite_some h
     · obtain ⟨r3, h5, h⟩ := bs h fun _ => r06_P_must_ok
       obtain rfl := Option.some.inj h
       exact rr 13 [(0, .br true), (2, .reg [(4, cl [0] h3)] [(2, .bool true)]), (3, .br true), (4, .reg [(1, cl [0] h5)] [])] [] [(0, 0)] 1 [pf (bt h1), pf (dt h2), pf h3, pf (bt h4), pf h5]
     · obtain ⟨⟨r3, r4⟩, h5, h⟩ := bs h fun _ => ih.r06_P_Expr
       obtain ⟨r5, h6, h⟩ := bs h fun _ => r06_P_must_ok
       obtain rfl := Option.some.inj h
       exact rr 16 [(0, .br true), (2, .reg [(4, cl [0] h3)] [(2, .bool true)]), (3, .br false), (4, .reg [(1, cl [0] h5)] [(2, .one (.own 6 (Row.rows (α := Expr) [r4]) 194))]), (5, .reg [(1, cl [0] h6)] [])] [] [(0, 0)] 1 [pf (bt h1), pf (dt h2), pf h3, pf (bf h4), pf h5, @pf (BldP (α := Expr) [r4] 194) (bldP _ _), pf h6]
   · obtain ⟨⟨r1, r2⟩, h3, h⟩ := bs h fun _ => ih.r06_P_Expr
     obtain ⟨r3, h4, h⟩ := bs h fun _ => r06_P_must_ok
     obtain rfl := Option.some.inj h
     exact rr 16 [(0, .br true), (2, .reg [] [(2, .bool false)]), (4, .reg [(1, cl [0] h3)] [(2, .one (.own 6 (Row.rows (α := Expr) [r2]) 194))]), (5, .reg [(1, cl [0] h4)] [])] [] [(0, 0)] 1 [pf (bt h1), pf (df h2), pf h3, @pf (BldP (α := Expr) [r2] 194) (bldP _ _), pf h4]
 · obtain ⟨⟨r1, r2⟩, h2, h⟩ := bs h fun _ => r06_P_take_ok
   obtain ⟨h3, h⟩ | ⟨h3, h⟩ := ite_some h
   · obtain ⟨⟨r3, r4⟩, h4, h⟩ := bs h fun _ => r06_P_name_ok
     obtain rfl := Option.some.inj h
     exact rr 10 [(0, .br false), (1, .reg [(1, cl [0] h2)] []), (2, .br true), (3, .reg [(2, cl [0] h4)] [])] [] [(0, 0)] 1 [pf (bf h1), pf h2, pf (bt h3), pf h4]
   · obtain rfl := Option.some.inj h
     exact rr 11 [(0, .br false), (1, .reg [(1, cl [0] h2)] []), (2, .br false)] [] [(0, 0)] 1 [pf (bf h1), pf h2, pf (bf h3)]
theorem r06_P_prim_okb {m : Nat} (ih : Ok_r06_P_Expr m) : Sd1 (r06_P_prim_b (tab_r06_P_Expr m)) r06_P_prim_J := by
 intro a0 r h
 unfold r06_P_prim_b at h
 refine ent (c := bodyOf f157) func157 rfl rfl rfl fun cx => ?_
 obtain ⟨h1, h⟩ | ⟨h1, h⟩ := ite_some h
 · obtain ⟨x1, h2, h⟩ := bind_some h
   obtain ⟨h3, h⟩ | ⟨h3, h⟩ := ite_some h
   · obtain rfl := Option.some.inj h
     exact rr 19 [(2, .br false), (3, .reg [(9, .row (Row.cells x1))] []), (5, .br true)] [] [(0, 0)] 1 [pf (ndf h1), pf (inP h2), pf (atP h2), pf (dt h3)]
   · obtain ⟨h4, h⟩ | ⟨h4, h⟩ := ite_some h
     · obtain rfl := Option.some.inj h
       exact rr 24 [(2, .br false), (3, .reg [(9, .row (Row.cells x1))] []), (5, .br false), (7, .br true)] [] [(0, 0)] 1 [pf (ndf h1), pf (inP h2), pf (atP h2), pf (df h3), pf (dt h4)]
     · obtain ⟨⟨r2, r3⟩, h5, h⟩ := bs h fun _ => r06_P_take_ok
       obtain ⟨h6, h⟩ | ⟨h6, h⟩ := ite_some h
       · obtain rfl := Option.some.inj h
         exact rr 27 [(2, .br false), (3, .reg [(9, .row (Row.cells x1))] []), (5, .br false), (7, .br false), (8, .reg [(1, cl [0] h5)] []), (9, .br true)] [] [(0, 0)] 1 [pf (ndf h1), pf (inP h2), pf (atP h2), pf (df h3), pf (df h4), pf h5, pf (bt h6)]
       · obtain ⟨⟨r4, r5⟩, h7, h⟩ := bs h fun _ => r06_P_take_ok
         obtain ⟨h8, h⟩ | ⟨h8, h⟩ := ite_some h
         · obtain rfl := Option.some.inj h
           exact rr 32 [(2, .br false), (3, .reg [(9, .row (Row.cells x1))] []), (5, .br false), (7, .br false), (8, .reg [(1, cl [0] h5)] []), (9, .br false), (10, .reg [(1, cl [0] h7)] []), (11, .br true)] [] [(0, 0)] 1 [pf (ndf h1), pf (inP h2), pf (atP h2), pf (df h3), pf (df h4), pf h5, pf (bf h6), pf h7, pf (bt h8)]
         · obtain ⟨⟨r6, r7⟩, h9, h⟩ := bs h fun _ => r06_P_take_ok
           obtain ⟨h10, h⟩ | ⟨h10, h⟩ := ite_some h
           · obtain rfl := Option.some.inj h
             exact rr 37 [(2, .br false), (3, .reg [(9, .row (Row.cells x1))] []), (5, .br false), (7, .br false), (8, .reg [(1, cl [0] h5)] []), (9, .br false), (10, .reg [(1, cl [0] h7)] []), (11, .br false), (12, .reg [(1, cl [0] h9)] []), (13, .br true)] [] [(0, 0)] 1 [pf (ndf h1), pf (inP h2), pf (atP h2), pf (df h3), pf (df h4), pf h5, pf (bf h6), pf h7, pf (bf h8), pf h9, pf (bt h10)]
           · obtain ⟨⟨r8, r9⟩, h11, h⟩ := bs h fun _ => r06_P_take_ok
             obtain ⟨h12, h⟩ | ⟨h12, h⟩ := ite_some h
             · obtain ⟨⟨r10, r11⟩, h13, h⟩ := bs h fun _ => r06_P_name_ok
               obtain rfl := Option.some.inj h
               exact rr 42 [(2, .br false), (3, .reg [(9, .row (Row.cells x1))] []), (5, .br false), (7, .br false), (8, .reg [(1, cl [0] h5)] []), (9, .br false), (10, .reg [(1, cl [0] h7)] []), (11, .br false), (12, .reg [(1, cl [0] h9)] []), (13, .br false), (14, .reg [(1, cl [0] h11)] []), (15, .br true), (16, .reg [(1, cl [0] h13)] [])] [] [(0, 0)] 1 [pf (ndf h1), pf (inP h2), pf (atP h2), pf (df h3), pf (df h4), pf h5, pf (bf h6), pf h7, pf (bf h8), pf h9, pf (bf h10), pf h11, pf (bt h12), pf h13]
             · obtain ⟨⟨r10, r11⟩, h13, h⟩ := bs h fun _ => r06_P_take_ok
               obtain ⟨h14, h⟩ | ⟨h14, h⟩ := ite_some h
               · obtain ⟨r12, h15, h⟩ := bs h fun _ => r06_P_must_ok
                 obtain ⟨⟨r13, r14⟩, h16, h⟩ := bs h fun _ => ih.r06_P_Expr
                 obtain ⟨r15, h17, h⟩ := bs h fun _ => r06_P_must_ok
                 obtain ⟨⟨r16, r17⟩, h18, h⟩ := bs h fun _ => ih.r06_P_Expr
                 obtain ⟨r18, h19, h⟩ := bs h fun _ => r06_P_must_ok
                 obtain ⟨⟨r19, r20⟩, h20, h⟩ := bs h fun _ => ih.r06_P_Expr
                 obtain ⟨r21, h21, h⟩ := bs h fun _ => r06_P_must_ok
                 obtain rfl := Option.some.inj h
                 exact rr 61 [(2, .br false), (3, .reg [(9, .row (Row.cells x1))] []), (5, .br false), (7, .br false), (8, .reg [(1, cl [0] h5)] []), (9, .br false), (10, .reg [(1, cl [0] h7)] []), (11, .br false), (12, .reg [(1, cl [0] h9)] []), (13, .br false), (14, .reg [(1, cl [0] h11)] []), (15, .br false), (16, .reg [(1, cl [0] h13)] []), (17, .br true), (18, .reg [(1, cl [0] h15)] []), (19, .reg [(1, cl [0] h16)] []), (20, .reg [(1, cl [0] h17)] []), (21, .reg [(1, cl [0] h18)] []), (22, .reg [(1, cl [0] h19)] []), (23, .reg [(1, cl [0] h20)] []), (24, .reg [(1, cl [0] h21)] []), (25, .reg [] [(3, .one (.own 6 (Row.rows (α := Expr) [r14, r17, r20]) 913))])] [] [(0, 0)] 1 [pf (ndf h1), pf (inP h2), pf (atP h2), pf (df h3), pf (df h4), pf h5, pf (bf h6), pf h7, pf (bf h8), pf h9, pf (bf h10), pf h11, pf (bf h12), pf h13, pf (bt h14), pf h15, pf h16, pf h17, pf h18, pf h19, pf h20, pf h21, @pf (BldP (α := Expr) [r14, r17, r20] 913) (bldP _ _)]
               · obtain ⟨⟨r12, r13⟩, h15, h⟩ := bs h fun _ => r06_P_take_ok
                 obtain ⟨h16, h⟩ | ⟨h16, h⟩ := ite_some h
                 · obtain ⟨r14, h17, h⟩ := bs h fun _ => r06_P_must_ok
                   obtain ⟨⟨r15, r16⟩, h18, h⟩ := bs h fun _ => ih.r06_P_Query
                   obtain ⟨r17, h19, h⟩ := bs h fun _ => r06_P_must_ok
                   obtain rfl := Option.some.inj h
                   exact rr 58 [(2, .br false), (3, .reg [(9, .row (Row.cells x1))] []), (5, .br false), (7, .br false), (8, .reg [(1, cl [0] h5)] []), (9, .br false), (10, .reg [(1, cl [0] h7)] []), (11, .br false), (12, .reg [(1, cl [0] h9)] []), (13, .br false), (14, .reg [(1, cl [0] h11)] []), (15, .br false), (16, .reg [(1, cl [0] h13)] []), (17, .br false), (18, .reg [(1, cl [0] h15)] []), (19, .br true), (20, .reg [(1, cl [0] h17)] []), (21, .reg [(1, cl [0] h18)] []), (22, .reg [(1, cl [0] h19)] []), (23, .reg [] [(1, .one (.own 10 (Row.rows (α := Query) [r16]) 721))])] [] [(0, 0)] 1 [pf (ndf h1), pf (inP h2), pf (atP h2), pf (df h3), pf (df h4), pf h5, pf (bf h6), pf h7, pf (bf h8), pf h9, pf (bf h10), pf h11, pf (bf h12), pf h13, pf (bf h14), pf h15, pf (bt h16), pf h17, pf h18, pf h19, @pf (BldP (α := Query) [r16] 721) (bldP _ _)]
                 · obtain ⟨⟨r14, r15⟩, h17, h⟩ := bs h fun _ => r06_P_take_ok
                   obtain ⟨h18, h⟩ | ⟨h18, h⟩ := ite_some h
                   · obtain ⟨r16, h19, h⟩ := bs h fun _ => r06_P_is_ok
                     obtain ⟨h20, h⟩ | ⟨h20, h⟩ := ite_some h
                     · obtain ⟨⟨r17, r18⟩, h21, h⟩ := bs h fun _ => ih.r06_P_Query
                       exact tt 60 [(2, .br false), (3, .reg [(9, .row (Row.cells x1))] []), (5, .br false), (7, .br false), (8, .reg [(1, cl [0] h5)] []), (9, .br false), (10, .reg [(1, cl [0] h7)] []), (11, .br false), (12, .reg [(1, cl [0] h9)] []), (13, .br false), (14, .reg [(1, cl [0] h11)] []), (15, .br false), (16, .reg [(1, cl [0] h13)] []), (17, .br false), (18, .reg [(1, cl [0] h15)] []), (19, .br false), (20, .reg [(1, cl [0] h17)] []), (21, .br true), (23, .reg [(1, cl [0] h19 [0])] []), (24, .br true), (25, .reg [(1, cl [0] h21)] [(2, .one (.own 10 (Row.rows (α := Query) [r18]) 721))])] [.cell 625 4, .cell 625 5] [0, 2, 8] [(0, 0), (1, 1), (625, 2)] 3 [pf (ndf h1), pf (inP h2), pf (atP h2), pf (df h3), pf (df h4), pf h5, pf (bf h6), pf h7, pf (bf h8), pf h9, pf (bf h10), pf h11, pf (bf h12), pf h13, pf (bf h14), pf h15, pf (bf h16), pf h17, pf (bt h18), pf h19, @pf (SameO (.var 74 (ca r14))) rfl, pf (bt h20), pf h21, @pf (BldP (α := Query) [r18] 721) (bldP _ _)] (r06_P_prim_j1_ok h cx)
                     · obtain ⟨⟨r17, r18⟩, h21, h⟩ := bs h fun _ => ih.r06_P_Expr
                       exact tt 60 [(2, .br false), (3, .reg [(9, .row (Row.cells x1))] []), (5, .br false), (7, .br false), (8, .reg [(1, cl [0] h5)] []), (9, .br false), (10, .reg [(1, cl [0] h7)] []), (11, .br false), (12, .reg [(1, cl [0] h9)] []), (13, .br false), (14, .reg [(1, cl [0] h11)] []), (15, .br false), (16, .reg [(1, cl [0] h13)] []), (17, .br false), (18, .reg [(1, cl [0] h15)] []), (19, .br false), (20, .reg [(1, cl [0] h17)] []), (21, .br true), (23, .reg [(1, cl [0] h19 [0])] []), (24, .br false), (25, .reg [(1, cl [0] h21)] [])] [] [0, 2, 8] [(0, 0), (1, 1), (625, 2)] 3 [pf (ndf h1), pf (inP h2), pf (atP h2), pf (df h3), pf (df h4), pf h5, pf (bf h6), pf h7, pf (bf h8), pf h9, pf (bf h10), pf h11, pf (bf h12), pf h13, pf (bf h14), pf h15, pf (bf h16), pf h17, pf (bt h18), pf h19, @pf (SameO (.var 74 (ca r14))) rfl, pf (bf h20), pf h21] (r06_P_prim_j1_ok h cx)
                   · obtain ⟨⟨r16, r17⟩, h19, h⟩ := bs h fun _ => r06_P_name_ok
                     obtain ⟨h20, h⟩ | ⟨h20, h⟩ := ite_some h
                     · obtain ⟨⟨r18, r19⟩, h21, h⟩ := bs h fun _ => r06_P_take_ok
                       exact tt 59 [(2, .br false), (3, .reg [(9, .row (Row.cells x1))] []), (5, .br false), (7, .br false), (8, .reg [(1, cl [0] h5)] []), (9, .br false), (10, .reg [(1, cl [0] h7)] []), (11, .br false), (12, .reg [(1, cl [0] h9)] []), (13, .br false), (14, .reg [(1, cl [0] h11)] []), (15, .br false), (16, .reg [(1, cl [0] h13)] []), (17, .br false), (18, .reg [(1, cl [0] h15)] []), (19, .br false), (20, .reg [(1, cl [0] h17)] []), (21, .br false), (22, .reg [(1, cl [0] h19)] []), (23, .reg [(16, cl [0] h21)] [(2, .bool true)])] [] [0, 2, 9, 132] [(0, 0), (1, 1)] 2 [pf (ndf h1), pf (inP h2), pf (atP h2), pf (df h3), pf (df h4), pf h5, pf (bf h6), pf h7, pf (bf h8), pf h9, pf (bf h10), pf h11, pf (bf h12), pf h13, pf (bf h14), pf h15, pf (bf h16), pf h17, pf (bf h18), pf h19, pf (dt h20), pf h21] (r06_P_prim_j2_okb ih h cx)
                     · obtain ⟨h21, h⟩ | ⟨h21, h⟩ := ite_some h
                       · obtain ⟨⟨r18, r19⟩, h22, h⟩ := bs h fun _ => r06_P_take_ok
                         exact tt 59 [(2, .br false), (3, .reg [(9, .row (Row.cells x1))] []), (5, .br false), (7, .br false), (8, .reg [(1, cl [0] h5)] []), (9, .br false), (10, .reg [(1, cl [0] h7)] []), (11, .br false), (12, .reg [(1, cl [0] h9)] []), (13, .br false), (14, .reg [(1, cl [0] h11)] []), (15, .br false), (16, .reg [(1, cl [0] h13)] []), (17, .br false), (18, .reg [(1, cl [0] h15)] []), (19, .br false), (20, .reg [(1, cl [0] h17)] []), (21, .br false), (22, .reg [(1, cl [0] h19)] []), (23, .reg [(16, cl [0] h22)] [(2, .bool false), (6, .bool true)])] [] [0, 2, 9, 132] [(0, 0), (1, 1)] 2 [pf (ndf h1), pf (inP h2), pf (atP h2), pf (df h3), pf (df h4), pf h5, pf (bf h6), pf h7, pf (bf h8), pf h9, pf (bf h10), pf h11, pf (bf h12), pf h13, pf (bf h14), pf h15, pf (bf h16), pf h17, pf (bf h18), pf h19, pf (df h20), pf (dt h21), pf h22] (r06_P_prim_j2_okb ih h cx)
                       · obtain ⟨h22, h⟩ | ⟨h22, h⟩ := ite_some h
                         · obtain ⟨⟨r18, r19⟩, h23, h⟩ := bs h fun _ => r06_P_take_ok
                           exact tt 59 [(2, .br false), (3, .reg [(9, .row (Row.cells x1))] []), (5, .br false), (7, .br false), (8, .reg [(1, cl [0] h5)] []), (9, .br false), (10, .reg [(1, cl [0] h7)] []), (11, .br false), (12, .reg [(1, cl [0] h9)] []), (13, .br false), (14, .reg [(1, cl [0] h11)] []), (15, .br false), (16, .reg [(1, cl [0] h13)] []), (17, .br false), (18, .reg [(1, cl [0] h15)] []), (19, .br false), (20, .reg [(1, cl [0] h17)] []), (21, .br false), (22, .reg [(1, cl [0] h19)] []), (23, .reg [(16, cl [0] h23)] [(2, .bool false), (6, .bool false), (10, .bool true)])] [] [0, 2, 9, 132] [(0, 0), (1, 1)] 2 [pf (ndf h1), pf (inP h2), pf (atP h2), pf (df h3), pf (df h4), pf h5, pf (bf h6), pf h7, pf (bf h8), pf h9, pf (bf h10), pf h11, pf (bf h12), pf h13, pf (bf h14), pf h15, pf (bf h16), pf h17, pf (bf h18), pf h19, pf (df h20), pf (df h21), pf (dt h22), pf h23] (r06_P_prim_j2_okb ih h cx)
                         · obtain ⟨h23, h⟩ | ⟨h23, h⟩ := ite_some h
                           · obtain ⟨⟨r18, r19⟩, h24, h⟩ := bs h fun _ => r06_P_take_ok
                             exact tt 59 [(2, .br false), (3, .reg [(9, .row (Row.cells x1))] []), (5, .br false), (7, .br false), (8, .reg [(1, cl [0] h5)] []), (9, .br false), (10, .reg [(1, cl [0] h7)] []), (11, .br false), (12, .reg [(1, cl [0] h9)] []), (13, .br false), (14, .reg [(1, cl [0] h11)] []), (15, .br false), (16, .reg [(1, cl [0] h13)] []), (17, .br false), (18, .reg [(1, cl [0] h15)] []), (19, .br false), (20, .reg [(1, cl [0] h17)] []), (21, .br false), (22, .reg [(1, cl [0] h19)] []), (23, .reg [(16, cl [0] h24)] [(2, .bool false), (6, .bool false), (10, .bool false), (14, .bool true)])] [] [0, 2, 9, 132] [(0, 0), (1, 1)] 2 [pf (ndf h1), pf (inP h2), pf (atP h2), pf (df h3), pf (df h4), pf h5, pf (bf h6), pf h7, pf (bf h8), pf h9, pf (bf h10), pf h11, pf (bf h12), pf h13, pf (bf h14), pf h15, pf (bf h16), pf h17, pf (bf h18), pf h19, pf (df h20), pf (df h21), pf (df h22), pf (dt h23), pf h24] (r06_P_prim_j2_okb ih h cx)
                           · exact tt 59 [(2, .br false), (3, .reg [(9, .row (Row.cells x1))] []), (5, .br false), (7, .br false), (8, .reg [(1, cl [0] h5)] []), (9, .br false), (10, .reg [(1, cl [0] h7)] []), (11, .br false), (12, .reg [(1, cl [0] h9)] []), (13, .br false), (14, .reg [(1, cl [0] h11)] []), (15, .br false), (16, .reg [(1, cl [0] h13)] []), (17, .br false), (18, .reg [(1, cl [0] h15)] []), (19, .br false), (20, .reg [(1, cl [0] h17)] []), (21, .br false), (22, .reg [(1, cl [0] h19)] []), (23, .reg [] [(2, .bool false), (6, .bool false), (10, .bool false), (14, .bool false)])] [] [0, 2, 9, 132] [(0, 0), (1, 1)] 2 [pf (ndf h1), pf (inP h2), pf (atP h2), pf (df h3), pf (df h4), pf h5, pf (bf h6), pf h7, pf (bf h8), pf h9, pf (bf h10), pf h11, pf (bf h12), pf h13, pf (bf h14), pf h15, pf (bf h16), pf h17, pf (bf h18), pf h19, pf (df h20), pf (df h21), pf (df h22), pf (df h23)] (r06_P_prim_j2_okb ih h cx)
 · obtain rfl := Option.some.inj h
   exact rr 10 [(2, .br true)] [] [(0, 0)] 1 [pf (ndt h1)]
theorem r06_P_prod_okb {m : Nat} (ih : Ok_r06_P_Expr m) : Sd1 (r06_P_prod_b (tab_r06_P_Expr m)) r06_P_prod_J := by
 intro a0 r h
 unfold r06_P_prod_b at h
 refine ent (c := bodyOf f149) func149 rfl rfl rfl fun cx => ?_
 obtain ⟨⟨r1, r2⟩, h1, h⟩ := bs h fun _ => ih.r06_P_unary
 obtain ⟨⟨r3, r4⟩, h2, h⟩ := bs h fun _ => r06_P_oneOf_ok
 exact tt 9 [(1, .reg [(1, cl [0] h1)] []), (2, .reg [(2, cl [0] h2)] [(1, .one (.own 1 (Row.rows (α := Str) [s_x2a, s_x2f, s_x25]) 97))])] [] [0, 2, 3, 4] [(0, 0), (1, 1), (49, 2)] 3 [pf h1, @pf (BldP (α := Str) [s_x2a, s_x2f, s_x25] 97) (bldP _ _), pf h2] (ih.r06_P_prod_l1 h cx)
theorem r06_P_prod_l1_okb {m : Nat} (ih : Ok_r06_P_Expr m) : Sd3 (r06_P_prod_l1_b (tab_r06_P_Expr m)) r06_P_prod_l1_J := by
 intro a0 a1 a2 r h cx
 unfold r06_P_prod_l1_b at h
 obtain ⟨h1, h⟩ | ⟨h1, h⟩ := ite_some h
 · obtain rfl := Option.some.inj h
   exact rr 9 [(1, .br false)] [] [(0, 0)] 1 [pf (ndf h1)]
 · obtain ⟨⟨r1, r2⟩, h2, h⟩ := bs h fun _ => ih.r06_P_unary
   obtain ⟨r3, h3, h⟩ := bs h fun _ => r06_bin_ok
   obtain ⟨⟨r4, r5⟩, h4, h⟩ := bs h fun _ => r06_P_oneOf_ok
   exact tt 11 [(1, .br true), (2, .reg [(3, cl [0] h2), (4, cl [] h3)] []), (3, .reg [(2, cl [0] h4)] [(1, .one (.own 1 (Row.rows (α := Str) [s_x2a, s_x2f, s_x25]) 147))])] [] [0, 2, 3, 4] [(0, 0), (1, 1), (2, 2)] 3 [pf (ndt h1), pf h2, pf h3, @pf (BldP (α := Str) [s_x2a, s_x2f, s_x25] 147) (bldP _ _), pf h4] (ih.r06_P_prod_l1 h cx)
theorem r06_P_src_okb {m : Nat} (ih : Ok_r06_P_Expr m) : Sd1 (r06_P_src_b (tab_r06_P_Expr m)) r06_P_src_J := by
 intro a0 r h
 unfold r06_P_src_b at h
 refine ent (c := bodyOf f95) func95 rfl rfl rfl fun cx => ?_
 obtain ⟨⟨r1, r2⟩, h1, h⟩ := bs h fun _ => ih.r06_P_one
 exact tt 7 [(1, .reg [(1, cl [0] h1)] [])] [] [0, 2, 3] [(0, 0), (1, 1), (49, 2)] 3 [pf h1] (ih.r06_P_src_l1 h cx)
theorem r06_P_src_j3_okb {m : Nat} (ih : Ok_r06_P_Expr m) : Sd3 (r06_P_src_j3_b (tab_r06_P_Expr m)) r06_P_src_j3_J := by
 intro a0 a1 a2 r h cx
 unfold r06_P_src_j3_b at h
 obtain ⟨r1, h1, h⟩ := bs h fun _ => r06_P_must_ok
 obtain ⟨⟨r2, r3⟩, h2, h⟩ := bs h fun _ => ih.r06_P_one
 obtain ⟨r4, h3, h⟩ := bs h fun _ => r06_P_must_ok
 obtain ⟨⟨r5, r6⟩, h4, h⟩ := bs h fun _ => ih.r06_P_Expr
 exact tt 9 [(0, .reg [(1, cl [0] h1)] []), (1, .reg [(1, cl [0] h2)] []), (2, .reg [(1, cl [0] h3)] []), (3, .reg [(5, cl [0] h4)] [(3, .one (.own 7 (Row.rows (α := From) [a1, r3]) 179)), (6, .one (.own 6 (Row.rows (α := Expr) [r6]) 227))])] [.cell 2 4, .cell 2 5, .cell 2 6] [0, 2, 3] [(0, 0), (1, 1), (2, 2)] 3 [pf h1, pf h2, pf h3, @pf (BldP (α := From) [a1, r3] 179) (bldP _ _), pf h4, @pf (BldP (α := Expr) [r6] 227) (bldP _ _)] (ih.r06_P_src_l1 h cx)
theorem r06_P_src_j2_okb {m : Nat} (ih : Ok_r06_P_Expr m) : Sd3 (r06_P_src_j2_b (tab_r06_P_Expr m)) r06_P_src_j2_J := by
 intro a0 a1 a2 r h cx
 unfold r06_P_src_j2_b at h
 obtain ⟨h1, h⟩ | ⟨h1, h⟩ := ite_some h
 · obtain ⟨⟨r1, r2⟩, h2, h⟩ := bs h fun _ => r06_P_take_ok
   obtain ⟨h3, h⟩ | ⟨h3, h⟩ := ite_some h
   · exact tt 10 [(0, .br true), (2, .reg [(1, cl [0] h2)] []), (3, .br true)] [] [0, 2, 3, 4] [(0, 0), (1, 1), (2, 2)] 3 [pf (bt h1), pf h2, pf (bt h3)] (r06_P_src_j3_okb ih h cx)
   · exact tt 10 [(0, .br true), (2, .reg [(1, cl [0] h2)] []), (3, .br false)] [] [0, 2, 3, 4] [(0, 0), (1, 1), (2, 2)] 3 [pf (bt h1), pf h2, pf (bf h3)] (r06_P_src_j3_okb ih h cx)
 · obtain rfl := Option.some.inj h
   exact rr 6 [(0, .br false)] [] [(0, 0)] 1 [pf (bf h1)]
theorem r06_P_src_l1_okb {m : Nat} (ih : Ok_r06_P_Expr m) : Sd2 (r06_P_src_l1_b (tab_r06_P_Expr m)) r06_P_src_l1_J := by
 intro a0 a1 r h cx
 unfold r06_P_src_l1_b at h
 obtain ⟨h1, h⟩ | ⟨h1, h⟩ := ite_some h
 · obtain ⟨r1, h2, h⟩ := bs h fun _ => r06_P_is_ok
   obtain ⟨h3, h⟩ | ⟨h3, h⟩ := ite_some h
   · exact tt 3 [(0, .reg [(7, cl [0] h2 [0])] [(5, .bool true), (8, .bool true)])] [] [0, 2, 3, 20] [(0, 0), (1, 1), (2, 2)] 3 [pf (dt h1), pf h2, @pf (SameO (.var 74 (ca a0))) rfl, pf (bt h3)] (r06_P_src_j2_okb ih h cx)
   · obtain ⟨r2, h4, h⟩ := bs h fun _ => r06_P_is_ok
     exact tt 3 [(0, .reg [(7, cl [0] h2 [0]), (10, cl [0] h4 [0])] [(5, .bool true), (8, .bool false)])] [] [0, 2, 3, 20] [(0, 0), (1, 1), (2, 2)] 3 [pf (dt h1), pf h2, @pf (SameO (.var 74 (ca a0))) rfl, pf (bf h3), pf h4, @pf (SameO (.var 74 (ca a0))) rfl] (r06_P_src_j2_okb ih h cx)
 · exact tt 3 [(0, .reg [] [(5, .bool false)])] [] [0, 2, 3, 20] [(0, 0), (1, 1), (2, 2)] 3 [pf (df h1)] (r06_P_src_j2_okb ih h cx)
theorem r06_P_sum_okb {m : Nat} (ih : Ok_r06_P_Expr m) : Sd1 (r06_P_sum_b (tab_r06_P_Expr m)) r06_P_sum_J := by
 intro a0 r h
 unfold r06_P_sum_b at h
 refine ent (c := bodyOf f139) func139 rfl rfl rfl fun cx => ?_
 obtain ⟨⟨r1, r2⟩, h1, h⟩ := bs h fun _ => ih.r06_P_prod
 obtain ⟨⟨r3, r4⟩, h2, h⟩ := bs h fun _ => r06_P_oneOf_ok
 exact tt 9 [(1, .reg [(1, cl [0] h1)] []), (2, .reg [(2, cl [0] h2)] [(1, .one (.own 1 (Row.rows (α := Str) [s_x2b, s_x2d, s_x7cx7c]) 97))])] [] [0, 2, 3, 4] [(0, 0), (1, 1), (49, 2)] 3 [pf h1, @pf (BldP (α := Str) [s_x2b, s_x2d, s_x7cx7c] 97) (bldP _ _), pf h2] (ih.r06_P_sum_l1 h cx)
theorem r06_P_sum_l1_okb {m : Nat} (ih : Ok_r06_P_Expr m) : Sd3 (r06_P_sum_l1_b (tab_r06_P_Expr m)) r06_P_sum_l1_J := by
 intro a0 a1 a2 r h cx
 unfold r06_P_sum_l1_b at h
 obtain ⟨h1, h⟩ | ⟨h1, h⟩ := ite_some h
 · obtain rfl := Option.some.inj h
   exact rr 9 [(1, .br false)] [] [(0, 0)] 1 [pf (ndf h1)]
 · obtain ⟨⟨r1, r2⟩, h2, h⟩ := bs h fun _ => ih.r06_P_prod
   obtain ⟨r3, h3, h⟩ := bs h fun _ => r06_bin_ok
   obtain ⟨⟨r4, r5⟩, h4, h⟩ := bs h fun _ => r06_P_oneOf_ok
   exact tt 11 [(1, .br true), (2, .reg [(3, cl [0] h2), (4, cl [] h3)] []), (3, .reg [(2, cl [0] h4)] [(1, .one (.own 1 (Row.rows (α := Str) [s_x2b, s_x2d, s_x7cx7c]) 147))])] [] [0, 2, 3, 4] [(0, 0), (1, 1), (2, 2)] 3 [pf (ndt h1), pf h2, pf h3, @pf (BldP (α := Str) [s_x2b, s_x2d, s_x7cx7c] 147) (bldP _ _), pf h4] (ih.r06_P_sum_l1 h cx)
theorem r06_P_unary_okb {m : Nat} (ih : Ok_r06_P_Expr m) : Sd1 (r06_P_unary_b (tab_r06_P_Expr m)) r06_P_unary_J := by
 intro a0 r h
 unfold r06_P_unary_b at h
 refine ent (c := bodyOf f153) func153 rfl rfl rfl fun cx => ?_
 obtain ⟨⟨r1, r2⟩, h1, h⟩ := bs h fun _ => r06_P_take_ok
 obtain ⟨h2, h⟩ | ⟨h2, h⟩ := ite_some h
 · obtain ⟨r3, h3, h⟩ := bs h fun _ => r06_P_down_ok
   obtain ⟨h4, h⟩ | ⟨h4, h⟩ := ite_some h
   · obtain ⟨⟨r4, r5⟩, h5, h⟩ := bs h fun _ => ih.r06_P_unary
     obtain rfl := Option.some.inj h
     exact rr 21 [(1, .reg [(1, cl [0] h1)] []), (2, .br true), (3, .reg [(1, cl [0] h3)] []), (6, .br true), (7, .reg [(1, cl [0] h5)] [(2, .one (.own 6 (Row.rows (α := Expr) [r5]) 241))])] [] [(0, 0)] 1 [pf h1, pf (bt h2), pf h3, pf (dt h4), pf h5, @pf (BldP (α := Expr) [r5] 241) (bldP _ _)]
   · obtain rfl := Option.some.inj h
     exact rr 21 [(1, .reg [(1, cl [0] h1)] []), (2, .br true), (3, .reg [(1, cl [0] h3)] []), (6, .br false)] [] [(0, 0)] 1 [pf h1, pf (bt h2), pf h3, pf (df h4)]
 · obtain ⟨⟨r3, r4⟩, h3, h⟩ := bs h fun _ => ih.r06_P_prim
   obtain rfl := Option.some.inj h
   exact rr 11 [(1, .reg [(1, cl [0] h1)] []), (2, .br false), (3, .reg [(1, cl [0] h3)] [])] [] [(0, 0)] 1 [pf h1, pf (bf h2), pf h3]
theorem ok_r06_P_Expr : ∀ m, Ok_r06_P_Expr m
 | 0 => ⟨(fun h => nomatch (show none = some _ from h)), (fun h => nomatch (show none = some _ from h)), (fun h => nomatch (show none = some _ from h)), (fun h => nomatch (show none = some _ from h)), (fun h => nomatch (show none = some _ from h)), (fun h => nomatch (show none = some _ from h)), (fun h => nomatch (show none = some _ from h)), (fun h => nomatch (show none = some _ from h)), (fun h => nomatch (show none = some _ from h)), (fun h => nomatch (show none = some _ from h)), (fun h => nomatch (show none = some _ from h)), (fun h => nomatch (show none = some _ from h)), (fun h => nomatch (show none = some _ from h)), (fun h => nomatch (show none = some _ from h)), (fun h => nomatch (show none = some _ from h)), (fun h => nomatch (show none = some _ from h)), (fun h => nomatch (show none = some _ from h)), (fun h => nomatch (show none = some _ from h)), (fun h => nomatch (show none = some _ from h)), (fun h => nomatch (show none = some _ from h)), (fun h => nomatch (show none = some _ from h)), (fun h => nomatch (show none = some _ from h))⟩
 | m + 1 => ⟨r06_P_Expr_okb (ok_r06_P_Expr m), r06_P_Expr_l1_okb (ok_r06_P_Expr m), r06_P_Query_okb (ok_r06_P_Expr m), r06_P_Query_l1_okb (ok_r06_P_Expr m), r06_P_and_okb (ok_r06_P_Expr m), r06_P_and_l1_okb (ok_r06_P_Expr m), r06_P_cmp_okb (ok_r06_P_Expr m), r06_P_exprs_okb (ok_r06_P_Expr m), r06_P_exprs_l1_okb (ok_r06_P_Expr m), r06_P_not_okb (ok_r06_P_Expr m), r06_P_one_okb (ok_r06_P_Expr m), r06_P_part_okb (ok_r06_P_Expr m), r06_P_part_l1_okb (ok_r06_P_Expr m), r06_P_part_l5_okb (ok_r06_P_Expr m), r06_P_prim_okb (ok_r06_P_Expr m), r06_P_prod_okb (ok_r06_P_Expr m), r06_P_prod_l1_okb (ok_r06_P_Expr m), r06_P_src_okb (ok_r06_P_Expr m), r06_P_src_l1_okb (ok_r06_P_Expr m), r06_P_sum_okb (ok_r06_P_Expr m), r06_P_sum_l1_okb (ok_r06_P_Expr m), r06_P_unary_okb (ok_r06_P_Expr m)⟩
theorem r06_P_Expr_ok {k : Nat} : Sd1 (r06_P_Expr k) r06_P_Expr_J := (ok_r06_P_Expr k).r06_P_Expr
theorem r06_P_Expr_l1_ok {k : Nat} : Sd2 (r06_P_Expr_l1 k) r06_P_Expr_l1_J := (ok_r06_P_Expr k).r06_P_Expr_l1
theorem r06_P_Query_ok {k : Nat} : Sd1 (r06_P_Query k) r06_P_Query_J := (ok_r06_P_Expr k).r06_P_Query
theorem r06_P_Query_l1_ok {k : Nat} : Sd2 (r06_P_Query_l1 k) r06_P_Query_l1_J := (ok_r06_P_Expr k).r06_P_Query_l1
theorem r06_P_and_ok {k : Nat} : Sd1 (r06_P_and k) r06_P_and_J := (ok_r06_P_Expr k).r06_P_and
theorem r06_P_and_l1_ok {k : Nat} : Sd2 (r06_P_and_l1 k) r06_P_and_l1_J := (ok_r06_P_Expr k).r06_P_and_l1
theorem r06_P_cmp_ok {k : Nat} : Sd1 (r06_P_cmp k) r06_P_cmp_J := (ok_r06_P_Expr k).r06_P_cmp
theorem r06_P_exprs_ok {k : Nat} : Sd1 (r06_P_exprs k) r06_P_exprs_J := (ok_r06_P_Expr k).r06_P_exprs
theorem r06_P_exprs_l1_ok {k : Nat} : Sd2 (r06_P_exprs_l1 k) r06_P_exprs_l1_J := (ok_r06_P_Expr k).r06_P_exprs_l1
theorem r06_P_not_ok {k : Nat} : Sd1 (r06_P_not k) r06_P_not_J := (ok_r06_P_Expr k).r06_P_not
theorem r06_P_one_ok {k : Nat} : Sd1 (r06_P_one k) r06_P_one_J := (ok_r06_P_Expr k).r06_P_one
theorem r06_P_part_ok {k : Nat} : Sd1 (r06_P_part k) r06_P_part_J := (ok_r06_P_Expr k).r06_P_part
theorem r06_P_part_l1_ok {k : Nat} : Sd4 (r06_P_part_l1 k) r06_P_part_l1_J := (ok_r06_P_Expr k).r06_P_part_l1
theorem r06_P_part_l5_ok {k : Nat} : Sd9 (r06_P_part_l5 k) r06_P_part_l5_J := (ok_r06_P_Expr k).r06_P_part_l5
theorem r06_P_prim_ok {k : Nat} : Sd1 (r06_P_prim k) r06_P_prim_J := (ok_r06_P_Expr k).r06_P_prim
theorem r06_P_prod_ok {k : Nat} : Sd1 (r06_P_prod k) r06_P_prod_J := (ok_r06_P_Expr k).r06_P_prod
theorem r06_P_prod_l1_ok {k : Nat} : Sd3 (r06_P_prod_l1 k) r06_P_prod_l1_J := (ok_r06_P_Expr k).r06_P_prod_l1
theorem r06_P_src_ok {k : Nat} : Sd1 (r06_P_src k) r06_P_src_J := (ok_r06_P_Expr k).r06_P_src
theorem r06_P_src_l1_ok {k : Nat} : Sd2 (r06_P_src_l1 k) r06_P_src_l1_J := (ok_r06_P_Expr k).r06_P_src_l1
theorem r06_P_sum_ok {k : Nat} : Sd1 (r06_P_sum k) r06_P_sum_J := (ok_r06_P_Expr k).r06_P_sum
theorem r06_P_sum_l1_ok {k : Nat} : Sd3 (r06_P_sum_l1 k) r06_P_sum_l1_J := (ok_r06_P_Expr k).r06_P_sum_l1
theorem r06_P_unary_ok {k : Nat} : Sd1 (r06_P_unary k) r06_P_unary_J := (ok_r06_P_Expr k).r06_P_unary

noncomputable def r06_Expr_O (a0 : Expr) (a1 a2 : Int) : List O := []
noncomputable def r06_Expr_V (a0 : Expr) (a1 a2 : Int) : V := .tup [.agg (ca a0), .one (.int .i64 a1), .one (.int .i64 a2)]
noncomputable def r06_Expr_J (a0 : Str) (r : (Expr × Int × Int)) : Prop := Has prog 9 [.one (.str a0)] [] (r06_Expr_O r.1 r.2.1 r.2.2) (r06_Expr_V r.1 r.2.1 r.2.2)
noncomputable def r06_Expr (k : Nat) (a0 : Str) : Option (Expr × Int × Int) :=
 (r06_New k a0 0).bind fun r1 =>
 if r1.E = 0 then (
  (r06_P_Expr k r1).bind fun (r2, r3) =>
  (r06_P_End r2).bind fun (r4, r5, r6) =>
  if r6 = 0 then (
   some (r3, r5, r6)
  ) else (
   some ((Expr.mk 0 0 [] [] [] []), r5, r6)
  )
 ) else (
  some ((Expr.mk 0 0 [] [] [] []), r1.At, r1.E)
 )
theorem r06_Expr_ok {k : Nat} : Sd1 (r06_Expr k) r06_Expr_J := by
 intro a0 r h
 unfold r06_Expr at h
 refine ent (c := bodyOf f9) func9 rfl rfl rfl fun cx => ?_
 obtain ⟨r1, h1, h⟩ := bs h fun _ => r06_New_ok
 obtain ⟨h2, h⟩ | ⟨h2, h⟩ := ite_some h
 · obtain ⟨⟨r2, r3⟩, h3, h⟩ := bs h fun _ => r06_P_Expr_ok
   obtain ⟨⟨r4, r5, r6⟩, h4, h⟩ := bs h fun _ => r06_P_End_ok
   obtain ⟨h5, h⟩ | ⟨h5, h⟩ := ite_some h
   · obtain rfl := Option.some.inj h
     exact rr 22 [(1, .reg [(1, cl [] h1)] []), (3, .br false), (4, .reg [(1, cl [64] h3)] []), (5, .reg [(1, cl [64] h4)] []), (7, .br false)] [] [] 0 [pf h1, pf (ndf h2), pf h3, pf h4, pf (ndf h5)]
   · obtain rfl := Option.some.inj h
     exact rr 22 [(1, .reg [(1, cl [] h1)] []), (3, .br false), (4, .reg [(1, cl [64] h3)] []), (5, .reg [(1, cl [64] h4)] []), (7, .br true)] [] [] 0 [pf h1, pf (ndf h2), pf h3, pf h4, pf (ndt h5)]
 · obtain rfl := Option.some.inj h
   exact rr 12 [(1, .reg [(1, cl [] h1)] []), (3, .br true)] [] [] 0 [pf h1, pf (ndt h2)]

noncomputable def r06_SameQuery_O (a0 : Bool) : List O := []
noncomputable def r06_SameQuery_V (a0 : Bool) : V := .one (.bool a0)
noncomputable def r06_SameQuery_J (a0 a1 : Query) (r : Bool) : Prop := Has prog 13 [.agg (ca a0), .agg (ca a1)] [] (r06_SameQuery_O r) (r06_SameQuery_V r)
noncomputable def r06_SameFroms_O (a0 : Bool) : List O := []
noncomputable def r06_SameFroms_V (a0 : Bool) : V := .one (.bool a0)
noncomputable def r06_SameFroms_J (a0 a1 : List From) (r : Bool) : Prop := Has prog 32 [.one (.c (.sl 7 (Row.rows (α := From) a0))), .one (.c (.sl 7 (Row.rows (α := From) a1)))] [] (r06_SameFroms_O r) (r06_SameFroms_V r)
noncomputable def r06_SameQueries_O (a0 : Bool) : List O := []
noncomputable def r06_SameQueries_V (a0 : Bool) : V := .one (.bool a0)
noncomputable def r06_SameQueries_J (a0 a1 : List Query) (r : Bool) : Prop := Has prog 27 [.one (.c (.sl 10 (Row.rows (α := Query) a0))), .one (.c (.sl 10 (Row.rows (α := Query) a1)))] [] (r06_SameQueries_O r) (r06_SameQueries_V r)
noncomputable def r06_SameExprs_O (a0 : Bool) : List O := []
noncomputable def r06_SameExprs_V (a0 : Bool) : V := .one (.bool a0)
noncomputable def r06_SameExprs_J (a0 a1 : List Expr) (r : Bool) : Prop := Has prog 26 [.one (.c (.sl 6 (Row.rows (α := Expr) a0))), .one (.c (.sl 6 (Row.rows (α := Expr) a1)))] [] (r06_SameExprs_O r) (r06_SameExprs_V r)
noncomputable def r06_SameExpr_O (a0 : Bool) : List O := []
noncomputable def r06_SameExpr_V (a0 : Bool) : V := .one (.bool a0)
noncomputable def r06_SameExpr_J (a0 a1 : Expr) (r : Bool) : Prop := Has prog 10 [.agg (ca a0), .agg (ca a1)] [] (r06_SameExpr_O r) (r06_SameExpr_V r)
noncomputable def r06_SameQuery_j5_K : List Item := stackAt (bodyOf f13) [1, 1, 1, 0, 1, 0, 0, 1, 0, 0, 1] []
noncomputable def r06_SameQuery_j5_S (a0 a1 : Query) (a2 : Int) (a3 : Bool) : St := ⟨[(2, .one (.ptr 0 0)), (3, .one (.ptr 1 0)), (6, .one (.int .i64 a2)), (115, .one (.bool a3))], [(0, .var 38 (ca a0)), (1, .var 38 (ca a1))], 2, 149, 0⟩
noncomputable def r06_SameQuery_j5_J (a0 a1 : Query) (a2 : Int) (a3 : Bool) (r : Bool) : Prop := ∀ cx : Cx, AK prog cx r06_SameQuery_j5_K (r06_SameQuery_j5_S a0 a1 a2 a3) (Fin lay f13.results.toList 0 fun o v => o = r06_SameQuery_O r ∧ v = r06_SameQuery_V r)
noncomputable def r06_SameFroms_j2_K : List Item := stackAt (bodyOf f32) [1, 1, 0, 1, 0, 0, 1, 0, 0, 1, 1] []
noncomputable def r06_SameFroms_j2_S (a0 a1 : List From) (a2 : Int) (a3 : Bool) : St := ⟨[(0, .one (.c (.sl 7 (Row.rows (α := From) a0)))), (1, .one (.c (.sl 7 (Row.rows (α := From) a1)))), (5, .one (.int .i64 a2)), (76, .one (.bool a3))], [], 0, 77, 0⟩
noncomputable def r06_SameFroms_j2_J (a0 a1 : List From) (a2 : Int) (a3 : Bool) (r : Bool) : Prop := ∀ cx : Cx, AK prog cx r06_SameFroms_j2_K (r06_SameFroms_j2_S a0 a1 a2 a3) (Fin lay f32.results.toList 0 fun o v => o = r06_SameFroms_O r ∧ v = r06_SameFroms_V r)
noncomputable def r06_SameFroms_l1_K : List Item := stackAt (bodyOf f32) [1, 1, 0, 1, 0, 0] []
noncomputable def r06_SameFroms_l1_S (a0 a1 : List From) (a2 : Int) : St := ⟨[(0, .one (.c (.sl 7 (Row.rows (α := From) a0)))), (1, .one (.c (.sl 7 (Row.rows (α := From) a1)))), (5, .one (.int .i64 a2))], [], 0, 77, 0⟩
noncomputable def r06_SameFroms_l1_J (a0 a1 : List From) (a2 : Int) (r : Bool) : Prop := ∀ cx : Cx, AK prog cx r06_SameFroms_l1_K (r06_SameFroms_l1_S a0 a1 a2) (Fin lay f32.results.toList 0 fun o v => o = r06_SameFroms_O r ∧ v = r06_SameFroms_V r)
noncomputable def r06_SameQuery_l4_K : List Item := stackAt (bodyOf f13) [1, 1, 1, 0, 1, 0, 0] []
noncomputable def r06_SameQuery_l4_S (a0 a1 : Query) (a2 : Int) : St := ⟨[(2, .one (.ptr 0 0)), (3, .one (.ptr 1 0)), (6, .one (.int .i64 a2))], [(0, .var 38 (ca a0)), (1, .var 38 (ca a1))], 2, 149, 0⟩
noncomputable def r06_SameQuery_l4_J (a0 a1 : Query) (a2 : Int) (r : Bool) : Prop := ∀ cx : Cx, AK prog cx r06_SameQuery_l4_K (r06_SameQuery_l4_S a0 a1 a2) (Fin lay f13.results.toList 0 fun o v => o = r06_SameQuery_O r ∧ v = r06_SameQuery_V r)
noncomputable def r06_SameQuery_j3_K : List Item := stackAt (bodyOf f13) [1, 1, 0, 1, 0, 0, 1, 0, 0, 1] []
noncomputable def r06_SameQuery_j3_S (a0 a1 : Query) (a2 : Int) (a3 : Bool) : St := ⟨[(2, .one (.ptr 0 0)), (3, .one (.ptr 1 0)), (5, .one (.int .i64 a2)), (79, .one (.bool a3))], [(0, .var 38 (ca a0)), (1, .var 38 (ca a1))], 2, 149, 0⟩
noncomputable def r06_SameQuery_j3_J (a0 a1 : Query) (a2 : Int) (a3 : Bool) (r : Bool) : Prop := ∀ cx : Cx, AK prog cx r06_SameQuery_j3_K (r06_SameQuery_j3_S a0 a1 a2 a3) (Fin lay f13.results.toList 0 fun o v => o = r06_SameQuery_O r ∧ v = r06_SameQuery_V r)
noncomputable def r06_SameQuery_l2_K : List Item := stackAt (bodyOf f13) [1, 1, 0, 1, 0, 0] []
noncomputable def r06_SameQuery_l2_S (a0 a1 : Query) (a2 : Int) : St := ⟨[(2, .one (.ptr 0 0)), (3, .one (.ptr 1 0)), (5, .one (.int .i64 a2))], [(0, .var 38 (ca a0)), (1, .var 38 (ca a1))], 2, 149, 0⟩
noncomputable def r06_SameQuery_l2_J (a0 a1 : Query) (a2 : Int) (r : Bool) : Prop := ∀ cx : Cx, AK prog cx r06_SameQuery_l2_K (r06_SameQuery_l2_S a0 a1 a2) (Fin lay f13.results.toList 0 fun o v => o = r06_SameQuery_O r ∧ v = r06_SameQuery_V r)
noncomputable def r06_SameQuery_j1_K : List Item := stackAt (bodyOf f13) [1, 0, 1] []
noncomputable def r06_SameQuery_j1_S (a0 a1 : Query) (a2 : Bool) : St := ⟨[(2, .one (.ptr 0 0)), (3, .one (.ptr 1 0)), (43, .one (.bool a2))], [(0, .var 38 (ca a0)), (1, .var 38 (ca a1))], 2, 149, 0⟩
noncomputable def r06_SameQuery_j1_J (a0 a1 : Query) (a2 : Bool) (r : Bool) : Prop := ∀ cx : Cx, AK prog cx r06_SameQuery_j1_K (r06_SameQuery_j1_S a0 a1 a2) (Fin lay f13.results.toList 0 fun o v => o = r06_SameQuery_O r ∧ v = r06_SameQuery_V r)
noncomputable def r06_SameQueries_l1_K : List Item := stackAt (bodyOf f27) [1, 1, 0, 1, 0, 0] []
noncomputable def r06_SameQueries_l1_S (a0 a1 : List Query) (a2 : Int) : St := ⟨[(0, .one (.c (.sl 10 (Row.rows (α := Query) a0)))), (1, .one (.c (.sl 10 (Row.rows (α := Query) a1)))), (5, .one (.int .i64 a2))], [], 0, 27, 0⟩
noncomputable def r06_SameQueries_l1_J (a0 a1 : List Query) (a2 : Int) (r : Bool) : Prop := ∀ cx : Cx, AK prog cx r06_SameQueries_l1_K (r06_SameQueries_l1_S a0 a1 a2) (Fin lay f27.results.toList 0 fun o v => o = r06_SameQueries_O r ∧ v = r06_SameQueries_V r)
noncomputable def r06_SameExprs_l1_K : List Item := stackAt (bodyOf f26) [1, 1, 0, 1, 0, 0] []
noncomputable def r06_SameExprs_l1_S (a0 a1 : List Expr) (a2 : Int) : St := ⟨[(0, .one (.c (.sl 6 (Row.rows (α := Expr) a0)))), (1, .one (.c (.sl 6 (Row.rows (α := Expr) a1)))), (5, .one (.int .i64 a2))], [], 0, 27, 0⟩
noncomputable def r06_SameExprs_l1_J (a0 a1 : List Expr) (a2 : Int) (r : Bool) : Prop := ∀ cx : Cx, AK prog cx r06_SameExprs_l1_K (r06_SameExprs_l1_S a0 a1 a2) (Fin lay f26.results.toList 0 fun o v => o = r06_SameExprs_O r ∧ v = r06_SameExprs_V r)
structure Tab_r06_SameExpr where
 k : Nat
 r06_SameExpr : Expr → Expr → Option Bool
 r06_SameExprs : (List Expr) → (List Expr) → Option Bool
 r06_SameExprs_l1 : (List Expr) → (List Expr) → Int → Option Bool
 r06_SameFroms : (List From) → (List From) → Option Bool
 r06_SameFroms_l1 : (List From) → (List From) → Int → Option Bool
 r06_SameQueries : (List Query) → (List Query) → Option Bool
 r06_SameQueries_l1 : (List Query) → (List Query) → Int → Option Bool
 r06_SameQuery : Query → Query → Option Bool
 r06_SameQuery_l2 : Query → Query → Int → Option Bool
 r06_SameQuery_l4 : Query → Query → Int → Option Bool
noncomputable def r06_SameExpr_b (T : Tab_r06_SameExpr) (a0 a1 : Expr) : Option Bool :=
 if a0.Kind = a1.Kind then (
  if a0.N = a1.N then (
   if a0.S = a1.S then (
    if a0.T = a1.T then (
     (T.r06_SameExprs a0.Kids a1.Kids).bind fun r1 =>
     if r1 = true then (
      (T.r06_SameQueries a0.Q a1.Q).bind fun r2 =>
      some r2
     ) else (
      some false
     )
    ) else (
     some false
    )
   ) else (
    some false
   )
  ) else (
   some false
  )
 ) else (
  some false
 )
noncomputable def r06_SameExprs_b (T : Tab_r06_SameExpr) (a0 a1 : List Expr) : Option Bool :=
 if (a0.length : Int) = (a1.length : Int) then (
  T.r06_SameExprs_l1 a0 a1 0
 ) else (
  some false
 )
noncomputable def r06_SameExprs_l1_b (T : Tab_r06_SameExpr) (a0 a1 : List Expr) (a2 : Int) : Option Bool :=
 if a2 < (a0.length : Int) then (
  (idx a0 a2).bind fun x1 =>
  (idx a1 a2).bind fun x2 =>
  (T.r06_SameExpr x1 x2).bind fun r3 =>
  if r3 = true then (
   T.r06_SameExprs_l1 a0 a1 (IntKind.i64.wrap (a2 + 1))
  ) else (
   some false
  )
 ) else (
  some true
 )
noncomputable def r06_SameFroms_b (T : Tab_r06_SameExpr) (a0 a1 : List From) : Option Bool :=
 if (a0.length : Int) = (a1.length : Int) then (
  T.r06_SameFroms_l1 a0 a1 0
 ) else (
  some false
 )
noncomputable def r06_SameFroms_j2_b (T : Tab_r06_SameExpr) (a0 a1 : List From) (a2 : Int) (a3 : Bool) : Option Bool :=
 if a3 = true then (
  some false
 ) else (
  T.r06_SameFroms_l1 a0 a1 (IntKind.i64.wrap (a2 + 1))
 )
noncomputable def r06_SameFroms_l1_b (T : Tab_r06_SameExpr) (a0 a1 : List From) (a2 : Int) : Option Bool :=
 if a2 < (a0.length : Int) then (
  (idx a0 a2).bind fun x1 =>
  (idx a1 a2).bind fun x2 =>
  if x1.Kind = x2.Kind then (
   if x1.Table = x2.Table then (
    if (x1.Visible == x2.Visible) = true then (
     if x1.As = x2.As then (
      (T.r06_SameQueries x1.Q x2.Q).bind fun r3 =>
      if r3 = true then (
       (T.r06_SameFroms x1.Kids x2.Kids).bind fun r4 =>
       if r4 = true then (
        (T.r06_SameExprs x1.On x2.On).bind fun r5 =>
        r06_SameFroms_j2_b T a0 a1 a2 (!r5)
       ) else (
        r06_SameFroms_j2_b T a0 a1 a2 true
       )
      ) else (
       r06_SameFroms_j2_b T a0 a1 a2 true
      )
     ) else (
      r06_SameFroms_j2_b T a0 a1 a2 true
     )
    ) else (
     r06_SameFroms_j2_b T a0 a1 a2 true
    )
   ) else (
    r06_SameFroms_j2_b T a0 a1 a2 true
   )
  ) else (
   r06_SameFroms_j2_b T a0 a1 a2 true
  )
 ) else (
  some true
 )
noncomputable def r06_SameQueries_b (T : Tab_r06_SameExpr) (a0 a1 : List Query) : Option Bool :=
 if (a0.length : Int) = (a1.length : Int) then (
  T.r06_SameQueries_l1 a0 a1 0
 ) else (
  some false
 )
noncomputable def r06_SameQueries_l1_b (T : Tab_r06_SameExpr) (a0 a1 : List Query) (a2 : Int) : Option Bool :=
 if a2 < (a0.length : Int) then (
  (idx a0 a2).bind fun x1 =>
  (idx a1 a2).bind fun x2 =>
  (T.r06_SameQuery x1 x2).bind fun r3 =>
  if r3 = true then (
   T.r06_SameQueries_l1 a0 a1 (IntKind.i64.wrap (a2 + 1))
  ) else (
   some false
  )
 ) else (
  some true
 )
noncomputable def r06_SameQuery_j1_b (T : Tab_r06_SameExpr) (a0 a1 : Query) (a2 : Bool) : Option Bool :=
 if a2 = true then (
  some false
 ) else (
  T.r06_SameQuery_l2 a0 a1 0
 )
noncomputable def r06_SameQuery_b (T : Tab_r06_SameExpr) (a0 a1 : Query) : Option Bool :=
 if a0.Kind = a1.Kind then (
  if (a0.Distinct == a1.Distinct) = true then (
   if a0.Limit = a1.Limit then (
    if (a0.Items.length : Int) = (a1.Items.length : Int) then (
     r06_SameQuery_j1_b T a0 a1 (!(decide ((a0.Order.length : Int) = (a1.Order.length : Int))))
    ) else (
     r06_SameQuery_j1_b T a0 a1 true
    )
   ) else (
    r06_SameQuery_j1_b T a0 a1 true
   )
  ) else (
   r06_SameQuery_j1_b T a0 a1 true
  )
 ) else (
  r06_SameQuery_j1_b T a0 a1 true
 )
noncomputable def r06_SameQuery_j3_b (T : Tab_r06_SameExpr) (a0 a1 : Query) (a2 : Int) (a3 : Bool) : Option Bool :=
 if a3 = true then (
  some false
 ) else (
  T.r06_SameQuery_l2 a0 a1 (IntKind.i64.wrap (a2 + 1))
 )
noncomputable def r06_SameQuery_j5_b (T : Tab_r06_SameExpr) (a0 a1 : Query) (a2 : Int) (a3 : Bool) : Option Bool :=
 if a3 = true then (
  some false
 ) else (
  T.r06_SameQuery_l4 a0 a1 (IntKind.i64.wrap (a2 + 1))
 )
noncomputable def r06_SameQuery_l2_b (T : Tab_r06_SameExpr) (a0 a1 : Query) (a2 : Int) : Option Bool :=
 if a2 < (a0.Items.length : Int) then (
  (idx a0.Items a2).bind fun x1 =>
  (idx a1.Items a2).bind fun x2 =>
  if x1.Name = x2.Name then (
   (T.r06_SameExpr x1.E x2.E).bind fun r3 =>
   r06_SameQuery_j3_b T a0 a1 a2 (!r3)
  ) else (
   r06_SameQuery_j3_b T a0 a1 a2 true
  )
 ) else (
  T.r06_SameQuery_l4 a0 a1 0
 )
noncomputable def r06_SameQuery_l4_b (T : Tab_r06_SameExpr) (a0 a1 : Query) (a2 : Int) : Option Bool :=
 if a2 < (a0.Order.length : Int) then (
  (idx a0.Order a2).bind fun x1 =>
  (idx a1.Order a2).bind fun x2 =>
  if (x1.Desc == x2.Desc) = true then (
   (T.r06_SameExpr x1.E x2.E).bind fun r3 =>
   r06_SameQuery_j5_b T a0 a1 a2 (!r3)
  ) else (
   r06_SameQuery_j5_b T a0 a1 a2 true
  )
 ) else (
  (T.r06_SameFroms a0.From a1.From).bind fun r1 =>
  if r1 = true then (
   (T.r06_SameExprs a0.Where a1.Where).bind fun r2 =>
   if r2 = true then (
    (T.r06_SameExprs a0.Group a1.Group).bind fun r3 =>
    if r3 = true then (
     (T.r06_SameExprs a0.Having a1.Having).bind fun r4 =>
     if r4 = true then (
      (T.r06_SameQueries a0.Kids a1.Kids).bind fun r5 =>
      some r5
     ) else (
      some false
     )
    ) else (
     some false
    )
   ) else (
    some false
   )
  ) else (
   some false
  )
 )
noncomputable def tab_r06_SameExpr : Nat → Tab_r06_SameExpr
 | 0 => ⟨0, fun _ _ => none, fun _ _ => none, fun _ _ _ => none, fun _ _ => none, fun _ _ _ => none, fun _ _ => none, fun _ _ _ => none, fun _ _ => none, fun _ _ _ => none, fun _ _ _ => none⟩
 | k + 1 => ⟨k + 1, r06_SameExpr_b (tab_r06_SameExpr k), r06_SameExprs_b (tab_r06_SameExpr k), r06_SameExprs_l1_b (tab_r06_SameExpr k), r06_SameFroms_b (tab_r06_SameExpr k), r06_SameFroms_l1_b (tab_r06_SameExpr k), r06_SameQueries_b (tab_r06_SameExpr k), r06_SameQueries_l1_b (tab_r06_SameExpr k), r06_SameQuery_b (tab_r06_SameExpr k), r06_SameQuery_l2_b (tab_r06_SameExpr k), r06_SameQuery_l4_b (tab_r06_SameExpr k)⟩
noncomputable def r06_SameExpr (k : Nat) := (tab_r06_SameExpr k).r06_SameExpr
noncomputable def r06_SameExprs (k : Nat) := (tab_r06_SameExpr k).r06_SameExprs
noncomputable def r06_SameExprs_l1 (k : Nat) := (tab_r06_SameExpr k).r06_SameExprs_l1
noncomputable def r06_SameFroms (k : Nat) := (tab_r06_SameExpr k).r06_SameFroms
noncomputable def r06_SameFroms_l1 (k : Nat) := (tab_r06_SameExpr k).r06_SameFroms_l1
noncomputable def r06_SameQueries (k : Nat) := (tab_r06_SameExpr k).r06_SameQueries
noncomputable def r06_SameQueries_l1 (k : Nat) := (tab_r06_SameExpr k).r06_SameQueries_l1
noncomputable def r06_SameQuery (k : Nat) := (tab_r06_SameExpr k).r06_SameQuery
noncomputable def r06_SameQuery_l2 (k : Nat) := (tab_r06_SameExpr k).r06_SameQuery_l2
noncomputable def r06_SameQuery_l4 (k : Nat) := (tab_r06_SameExpr k).r06_SameQuery_l4
structure Ok_r06_SameExpr (m : Nat) : Prop where
 r06_SameExpr : Sd2 (tab_r06_SameExpr m).r06_SameExpr r06_SameExpr_J
 r06_SameExprs : Sd2 (tab_r06_SameExpr m).r06_SameExprs r06_SameExprs_J
 r06_SameExprs_l1 : Sd3 (tab_r06_SameExpr m).r06_SameExprs_l1 r06_SameExprs_l1_J
 r06_SameFroms : Sd2 (tab_r06_SameExpr m).r06_SameFroms r06_SameFroms_J
 r06_SameFroms_l1 : Sd3 (tab_r06_SameExpr m).r06_SameFroms_l1 r06_SameFroms_l1_J
 r06_SameQueries : Sd2 (tab_r06_SameExpr m).r06_SameQueries r06_SameQueries_J
 r06_SameQueries_l1 : Sd3 (tab_r06_SameExpr m).r06_SameQueries_l1 r06_SameQueries_l1_J
 r06_SameQuery : Sd2 (tab_r06_SameExpr m).r06_SameQuery r06_SameQuery_J
 r06_SameQuery_l2 : Sd3 (tab_r06_SameExpr m).r06_SameQuery_l2 r06_SameQuery_l2_J
 r06_SameQuery_l4 : Sd3 (tab_r06_SameExpr m).r06_SameQuery_l4 r06_SameQuery_l4_J
theorem r06_SameExpr_okb {m : Nat} (ih : Ok_r06_SameExpr m) : Sd2 (r06_SameExpr_b (tab_r06_SameExpr m)) r06_SameExpr_J := by
 intro a0 a1 r h
 unfold r06_SameExpr_b at h
 refine ent (c := bodyOf f10) func10 rfl rfl rfl fun cx => ?_
 obtain ⟨h1, h⟩ | ⟨h1, h⟩ := ite_some h
 · obtain ⟨h2, h⟩ | ⟨h2, h⟩ := ite_some h
   · obtain ⟨h3, h⟩ | ⟨h3, h⟩ := ite_some h
     · obtain ⟨h4, h⟩ | ⟨h4, h⟩ := ite_some h
       · obtain ⟨r1, h5, h⟩ := bs h fun _ => ih.r06_SameExprs
         obtain ⟨h6, h⟩ | ⟨h6, h⟩ := ite_some h
         · obtain ⟨r2, h7, h⟩ := bs h fun _ => ih.r06_SameQueries
           obtain rfl := Option.some.inj h
           exact rr 6 [(1, .reg [(31, cl [] h5), (38, cl [] h7)] [(5, .bool true), (12, .bool true), (19, .bool true), (26, .bool true), (33, .bool true)])] [] [] 0 [pf (dt h1), pf (dt h2), pf (dt h3), pf (dt h4), pf h5, pf (bt h6), pf h7]
         · obtain rfl := Option.some.inj h
           exact rr 6 [(1, .reg [(31, cl [] h5)] [(5, .bool true), (12, .bool true), (19, .bool true), (26, .bool true), (33, .bool false)])] [] [] 0 [pf (dt h1), pf (dt h2), pf (dt h3), pf (dt h4), pf h5, pf (bf h6)]
       · obtain rfl := Option.some.inj h
         exact rr 6 [(1, .reg [] [(5, .bool true), (12, .bool true), (19, .bool true), (26, .bool false)])] [] [] 0 [pf (dt h1), pf (dt h2), pf (dt h3), pf (df h4)]
     · obtain rfl := Option.some.inj h
       exact rr 6 [(1, .reg [] [(5, .bool true), (12, .bool true), (19, .bool false)])] [] [] 0 [pf (dt h1), pf (dt h2), pf (df h3)]
   · obtain rfl := Option.some.inj h
     exact rr 6 [(1, .reg [] [(5, .bool true), (12, .bool false)])] [] [] 0 [pf (dt h1), pf (df h2)]
 · obtain rfl := Option.some.inj h
   exact rr 6 [(1, .reg [] [(5, .bool false)])] [] [] 0 [pf (df h1)]
theorem r06_SameExprs_okb {m : Nat} (ih : Ok_r06_SameExpr m) : Sd2 (r06_SameExprs_b (tab_r06_SameExpr m)) r06_SameExprs_J := by
 intro a0 a1 r h
 unfold r06_SameExprs_b at h
 refine ent (c := bodyOf f26) func26 rfl rfl rfl fun cx => ?_
 obtain ⟨h1, h⟩ | ⟨h1, h⟩ := ite_some h
 · exact tt 12 [(1, .reg [] [(1, .one (.int .i64 (a0.length : Int))), (3, .one (.int .i64 (a1.length : Int)))]), (2, .br false)] [] [0, 1, 5] [] 0 [@pf (LenP (α := Expr) a0) (lenP _), @pf (LenP (α := Expr) a1) (lenP _), pf (ndf h1)] (ih.r06_SameExprs_l1 h cx)
 · obtain rfl := Option.some.inj h
   exact rr 10 [(1, .reg [] [(1, .one (.int .i64 (a0.length : Int))), (3, .one (.int .i64 (a1.length : Int)))]), (2, .br true)] [] [] 0 [@pf (LenP (α := Expr) a0) (lenP _), @pf (LenP (α := Expr) a1) (lenP _), pf (ndt h1)]
theorem r06_SameExprs_l1_okb {m : Nat} (ih : Ok_r06_SameExpr m) : Sd3 (r06_SameExprs_l1_b (tab_r06_SameExpr m)) r06_SameExprs_l1_J := by
 intro a0 a1 a2 r h cx
 unfold r06_SameExprs_l1_b at h
 obtain ⟨h1, h⟩ | ⟨h1, h⟩ := ite_some h
 · obtain ⟨x1, h2, h⟩ := bind_some h
   obtain ⟨x2, h3, h⟩ := bind_some h
   obtain ⟨r3, h4, h⟩ := bs h fun _ => ih.r06_SameExpr
   obtain ⟨h5, h⟩ | ⟨h5, h⟩ := ite_some h
   · exact tt 14 [(0, .reg [] [(2, .one (.int .i64 (a0.length : Int)))]), (1, .br true), (2, .reg [(3, .row (Row.cells x1)), (7, .row (Row.cells x2)), (8, cl [] h4)] []), (3, .br false)] [] [0, 1, 5] [] 0 [@pf (LenP (α := Expr) a0) (lenP _), pf (dt h1), pf (inP h2), pf (atP h2), pf (inP h3), pf (atP h3), pf h4, pf (nbf h5)] (ih.r06_SameExprs_l1 h cx)
   · obtain rfl := Option.some.inj h
     exact rr 14 [(0, .reg [] [(2, .one (.int .i64 (a0.length : Int)))]), (1, .br true), (2, .reg [(3, .row (Row.cells x1)), (7, .row (Row.cells x2)), (8, cl [] h4)] []), (3, .br true)] [] [] 0 [@pf (LenP (α := Expr) a0) (lenP _), pf (dt h1), pf (inP h2), pf (atP h2), pf (inP h3), pf (atP h3), pf h4, pf (nbt h5)]
 · obtain rfl := Option.some.inj h
   exact rr 9 [(0, .reg [] [(2, .one (.int .i64 (a0.length : Int)))]), (1, .br false)] [] [] 0 [@pf (LenP (α := Expr) a0) (lenP _), pf (df h1)]
theorem r06_SameFroms_okb {m : Nat} (ih : Ok_r06_SameExpr m) : Sd2 (r06_SameFroms_b (tab_r06_SameExpr m)) r06_SameFroms_J := by
 intro a0 a1 r h
 unfold r06_SameFroms_b at h
 refine ent (c := bodyOf f32) func32 rfl rfl rfl fun cx => ?_
 obtain ⟨h1, h⟩ | ⟨h1, h⟩ := ite_some h
 · exact tt 12 [(1, .reg [] [(1, .one (.int .i64 (a0.length : Int))), (3, .one (.int .i64 (a1.length : Int)))]), (2, .br false)] [] [0, 1, 5] [] 0 [@pf (LenP (α := From) a0) (lenP _), @pf (LenP (α := From) a1) (lenP _), pf (ndf h1)] (ih.r06_SameFroms_l1 h cx)
 · obtain rfl := Option.some.inj h
   exact rr 10 [(1, .reg [] [(1, .one (.int .i64 (a0.length : Int))), (3, .one (.int .i64 (a1.length : Int)))]), (2, .br true)] [] [] 0 [@pf (LenP (α := From) a0) (lenP _), @pf (LenP (α := From) a1) (lenP _), pf (ndt h1)]
theorem r06_SameFroms_j2_okb {m : Nat} (ih : Ok_r06_SameExpr m) : Sd4 (r06_SameFroms_j2_b (tab_r06_SameExpr m)) r06_SameFroms_j2_J := by
 intro a0 a1 a2 a3 r h cx
 unfold r06_SameFroms_j2_b at h
 obtain ⟨h1, h⟩ | ⟨h1, h⟩ := ite_some h
 · obtain rfl := Option.some.inj h
   exact rr 5 [(0, .br true)] [] [] 0 [pf (bt h1)]
 · exact tt 5 [(0, .br false)] [] [0, 1, 5] [] 0 [pf (bf h1)] (ih.r06_SameFroms_l1 h cx)
theorem r06_SameFroms_l1_okb {m : Nat} (ih : Ok_r06_SameExpr m) : Sd3 (r06_SameFroms_l1_b (tab_r06_SameExpr m)) r06_SameFroms_l1_J := by
 intro a0 a1 a2 r h cx
 unfold r06_SameFroms_l1_b at h
 obtain ⟨h1, h⟩ | ⟨h1, h⟩ := ite_some h
 · obtain ⟨x1, h2, h⟩ := bind_some h
   obtain ⟨x2, h3, h⟩ := bind_some h
   obtain ⟨h4, h⟩ | ⟨h4, h⟩ := ite_some h
   · obtain ⟨h5, h⟩ | ⟨h5, h⟩ := ite_some h
     · obtain ⟨h6, h⟩ | ⟨h6, h⟩ := ite_some h
       · obtain ⟨h7, h⟩ | ⟨h7, h⟩ := ite_some h
         · obtain ⟨r3, h8, h⟩ := bs h fun _ => ih.r06_SameQueries
           obtain ⟨h9, h⟩ | ⟨h9, h⟩ := ite_some h
           · obtain ⟨r4, h10, h⟩ := bs h fun _ => ih.r06_SameFroms
             obtain ⟨h11, h⟩ | ⟨h11, h⟩ := ite_some h
             · obtain ⟨r5, h12, h⟩ := bs h fun _ => ih.r06_SameExprs
               exact tt 11 [(0, .reg [] [(2, .one (.int .i64 (a0.length : Int)))]), (1, .br true), (2, .reg [(3, .row (Row.cells x1)), (7, .row (Row.cells x2))] []), (3, .reg [(31, cl [] h8), (39, cl [] h10), (47, cl [] h12)] [(5, .bool false), (12, .bool false), (19, .bool false), (26, .bool false), (34, .bool false), (42, .bool false)])] [] [0, 1, 5, 76] [] 0 [@pf (LenP (α := From) a0) (lenP _), pf (dt h1), pf (inP h2), pf (atP h2), pf (inP h3), pf (atP h3), pf (ndf h4), pf (ndf h5), pf (nbf h6), pf (ndf h7), pf h8, pf (nbf h9), pf h10, pf (nbf h11), pf h12] (r06_SameFroms_j2_okb ih h cx)
             · exact tt 11 [(0, .reg [] [(2, .one (.int .i64 (a0.length : Int)))]), (1, .br true), (2, .reg [(3, .row (Row.cells x1)), (7, .row (Row.cells x2))] []), (3, .reg [(31, cl [] h8), (39, cl [] h10)] [(5, .bool false), (12, .bool false), (19, .bool false), (26, .bool false), (34, .bool false), (42, .bool true)])] [] [0, 1, 5, 76] [] 0 [@pf (LenP (α := From) a0) (lenP _), pf (dt h1), pf (inP h2), pf (atP h2), pf (inP h3), pf (atP h3), pf (ndf h4), pf (ndf h5), pf (nbf h6), pf (ndf h7), pf h8, pf (nbf h9), pf h10, pf (nbt h11)] (r06_SameFroms_j2_okb ih h cx)
           · exact tt 11 [(0, .reg [] [(2, .one (.int .i64 (a0.length : Int)))]), (1, .br true), (2, .reg [(3, .row (Row.cells x1)), (7, .row (Row.cells x2))] []), (3, .reg [(31, cl [] h8)] [(5, .bool false), (12, .bool false), (19, .bool false), (26, .bool false), (34, .bool true)])] [] [0, 1, 5, 76] [] 0 [@pf (LenP (α := From) a0) (lenP _), pf (dt h1), pf (inP h2), pf (atP h2), pf (inP h3), pf (atP h3), pf (ndf h4), pf (ndf h5), pf (nbf h6), pf (ndf h7), pf h8, pf (nbt h9)] (r06_SameFroms_j2_okb ih h cx)
         · exact tt 11 [(0, .reg [] [(2, .one (.int .i64 (a0.length : Int)))]), (1, .br true), (2, .reg [(3, .row (Row.cells x1)), (7, .row (Row.cells x2))] []), (3, .reg [] [(5, .bool false), (12, .bool false), (19, .bool false), (26, .bool true)])] [] [0, 1, 5, 76] [] 0 [@pf (LenP (α := From) a0) (lenP _), pf (dt h1), pf (inP h2), pf (atP h2), pf (inP h3), pf (atP h3), pf (ndf h4), pf (ndf h5), pf (nbf h6), pf (ndt h7)] (r06_SameFroms_j2_okb ih h cx)
       · exact tt 11 [(0, .reg [] [(2, .one (.int .i64 (a0.length : Int)))]), (1, .br true), (2, .reg [(3, .row (Row.cells x1)), (7, .row (Row.cells x2))] []), (3, .reg [] [(5, .bool false), (12, .bool false), (19, .bool true)])] [] [0, 1, 5, 76] [] 0 [@pf (LenP (α := From) a0) (lenP _), pf (dt h1), pf (inP h2), pf (atP h2), pf (inP h3), pf (atP h3), pf (ndf h4), pf (ndf h5), pf (nbt h6)] (r06_SameFroms_j2_okb ih h cx)
     · exact tt 11 [(0, .reg [] [(2, .one (.int .i64 (a0.length : Int)))]), (1, .br true), (2, .reg [(3, .row (Row.cells x1)), (7, .row (Row.cells x2))] []), (3, .reg [] [(5, .bool false), (12, .bool true)])] [] [0, 1, 5, 76] [] 0 [@pf (LenP (α := From) a0) (lenP _), pf (dt h1), pf (inP h2), pf (atP h2), pf (inP h3), pf (atP h3), pf (ndf h4), pf (ndt h5)] (r06_SameFroms_j2_okb ih h cx)
   · exact tt 11 [(0, .reg [] [(2, .one (.int .i64 (a0.length : Int)))]), (1, .br true), (2, .reg [(3, .row (Row.cells x1)), (7, .row (Row.cells x2))] []), (3, .reg [] [(5, .bool true)])] [] [0, 1, 5, 76] [] 0 [@pf (LenP (α := From) a0) (lenP _), pf (dt h1), pf (inP h2), pf (atP h2), pf (inP h3), pf (atP h3), pf (ndt h4)] (r06_SameFroms_j2_okb ih h cx)
 · obtain rfl := Option.some.inj h
   exact rr 9 [(0, .reg [] [(2, .one (.int .i64 (a0.length : Int)))]), (1, .br false)] [] [] 0 [@pf (LenP (α := From) a0) (lenP _), pf (df h1)]
theorem r06_SameQueries_okb {m : Nat} (ih : Ok_r06_SameExpr m) : Sd2 (r06_SameQueries_b (tab_r06_SameExpr m)) r06_SameQueries_J := by
 intro a0 a1 r h
 unfold r06_SameQueries_b at h
 refine ent (c := bodyOf f27) func27 rfl rfl rfl fun cx => ?_
 obtain ⟨h1, h⟩ | ⟨h1, h⟩ := ite_some h
 · exact tt 12 [(1, .reg [] [(1, .one (.int .i64 (a0.length : Int))), (3, .one (.int .i64 (a1.length : Int)))]), (2, .br false)] [] [0, 1, 5] [] 0 [@pf (LenP (α := Query) a0) (lenP _), @pf (LenP (α := Query) a1) (lenP _), pf (ndf h1)] (ih.r06_SameQueries_l1 h cx)
 · obtain rfl := Option.some.inj h
   exact rr 10 [(1, .reg [] [(1, .one (.int .i64 (a0.length : Int))), (3, .one (.int .i64 (a1.length : Int)))]), (2, .br true)] [] [] 0 [@pf (LenP (α := Query) a0) (lenP _), @pf (LenP (α := Query) a1) (lenP _), pf (ndt h1)]
theorem r06_SameQueries_l1_okb {m : Nat} (ih : Ok_r06_SameExpr m) : Sd3 (r06_SameQueries_l1_b (tab_r06_SameExpr m)) r06_SameQueries_l1_J := by
 intro a0 a1 a2 r h cx
 unfold r06_SameQueries_l1_b at h
 obtain ⟨h1, h⟩ | ⟨h1, h⟩ := ite_some h
 · obtain ⟨x1, h2, h⟩ := bind_some h
   obtain ⟨x2, h3, h⟩ := bind_some h
   obtain ⟨r3, h4, h⟩ := bs h fun _ => ih.r06_SameQuery
   obtain ⟨h5, h⟩ | ⟨h5, h⟩ := ite_some h
   · exact tt 14 [(0, .reg [] [(2, .one (.int .i64 (a0.length : Int)))]), (1, .br true), (2, .reg [(3, .row (Row.cells x1)), (7, .row (Row.cells x2)), (8, cl [] h4)] []), (3, .br false)] [] [0, 1, 5] [] 0 [@pf (LenP (α := Query) a0) (lenP _), pf (dt h1), pf (inP h2), pf (atP h2), pf (inP h3), pf (atP h3), pf h4, pf (nbf h5)] (ih.r06_SameQueries_l1 h cx)
   · obtain rfl := Option.some.inj h
     exact rr 14 [(0, .reg [] [(2, .one (.int .i64 (a0.length : Int)))]), (1, .br true), (2, .reg [(3, .row (Row.cells x1)), (7, .row (Row.cells x2)), (8, cl [] h4)] []), (3, .br true)] [] [] 0 [@pf (LenP (α := Query) a0) (lenP _), pf (dt h1), pf (inP h2), pf (atP h2), pf (inP h3), pf (atP h3), pf h4, pf (nbt h5)]
 · obtain rfl := Option.some.inj h
   exact rr 9 [(0, .reg [] [(2, .one (.int .i64 (a0.length : Int)))]), (1, .br false)] [] [] 0 [@pf (LenP (α := Query) a0) (lenP _), pf (df h1)]
theorem r06_SameQuery_j1_okb {m : Nat} (ih : Ok_r06_SameExpr m) : Sd3 (r06_SameQuery_j1_b (tab_r06_SameExpr m)) r06_SameQuery_j1_J := by
 intro a0 a1 a2 r h cx
 unfold r06_SameQuery_j1_b at h
 obtain ⟨h1, h⟩ | ⟨h1, h⟩ := ite_some h
 · obtain rfl := Option.some.inj h
   exact rr 5 [(0, .br true)] [] [] 0 [pf (bt h1)]
 · exact tt 7 [(0, .br false)] [] [2, 3, 5] [(0, 0), (1, 1)] 2 [pf (bf h1)] (ih.r06_SameQuery_l2 h cx)
theorem r06_SameQuery_okb {m : Nat} (ih : Ok_r06_SameExpr m) : Sd2 (r06_SameQuery_b (tab_r06_SameExpr m)) r06_SameQuery_J := by
 intro a0 a1 r h
 unfold r06_SameQuery_b at h
 refine ent (c := bodyOf f13) func13 rfl rfl rfl fun cx => ?_
 obtain ⟨h1, h⟩ | ⟨h1, h⟩ := ite_some h
 · obtain ⟨h2, h⟩ | ⟨h2, h⟩ := ite_some h
   · obtain ⟨h3, h⟩ | ⟨h3, h⟩ := ite_some h
     · obtain ⟨h4, h⟩ | ⟨h4, h⟩ := ite_some h
       · exact tt 5 [(1, .reg [] [(5, .bool false), (12, .bool false), (19, .bool false), (22, .one (.int .i64 (a0.Items.length : Int))), (25, .one (.int .i64 (a1.Items.length : Int))), (28, .bool false), (31, .one (.int .i64 (a0.Order.length : Int))), (34, .one (.int .i64 (a1.Order.length : Int)))])] [] [2, 3, 43] [(0, 0), (16, 1)] 2 [pf (ndf h1), pf (nbf h2), pf (ndf h3), @pf (LenP (α := ItemT) a0.Items) (lenP _), @pf (LenP (α := ItemT) a1.Items) (lenP _), pf (ndf h4), @pf (LenP (α := Key) a0.Order) (lenP _), @pf (LenP (α := Key) a1.Order) (lenP _)] (r06_SameQuery_j1_okb ih h cx)
       · exact tt 5 [(1, .reg [] [(5, .bool false), (12, .bool false), (19, .bool false), (22, .one (.int .i64 (a0.Items.length : Int))), (25, .one (.int .i64 (a1.Items.length : Int))), (28, .bool true)])] [] [2, 3, 43] [(0, 0), (16, 1)] 2 [pf (ndf h1), pf (nbf h2), pf (ndf h3), @pf (LenP (α := ItemT) a0.Items) (lenP _), @pf (LenP (α := ItemT) a1.Items) (lenP _), pf (ndt h4)] (r06_SameQuery_j1_okb ih h cx)
     · exact tt 5 [(1, .reg [] [(5, .bool false), (12, .bool false), (19, .bool true)])] [] [2, 3, 43] [(0, 0), (16, 1)] 2 [pf (ndf h1), pf (nbf h2), pf (ndt h3)] (r06_SameQuery_j1_okb ih h cx)
   · exact tt 5 [(1, .reg [] [(5, .bool false), (12, .bool true)])] [] [2, 3, 43] [(0, 0), (16, 1)] 2 [pf (ndf h1), pf (nbt h2)] (r06_SameQuery_j1_okb ih h cx)
 · exact tt 5 [(1, .reg [] [(5, .bool true)])] [] [2, 3, 43] [(0, 0), (16, 1)] 2 [pf (ndt h1)] (r06_SameQuery_j1_okb ih h cx)
theorem r06_SameQuery_j3_okb {m : Nat} (ih : Ok_r06_SameExpr m) : Sd4 (r06_SameQuery_j3_b (tab_r06_SameExpr m)) r06_SameQuery_j3_J := by
 intro a0 a1 a2 a3 r h cx
 unfold r06_SameQuery_j3_b at h
 obtain ⟨h1, h⟩ | ⟨h1, h⟩ := ite_some h
 · obtain rfl := Option.some.inj h
   exact rr 5 [(0, .br true)] [] [] 0 [pf (bt h1)]
 · exact tt 5 [(0, .br false)] [] [2, 3, 5] [(0, 0), (1, 1)] 2 [pf (bf h1)] (ih.r06_SameQuery_l2 h cx)
theorem r06_SameQuery_j5_okb {m : Nat} (ih : Ok_r06_SameExpr m) : Sd4 (r06_SameQuery_j5_b (tab_r06_SameExpr m)) r06_SameQuery_j5_J := by
 intro a0 a1 a2 a3 r h cx
 unfold r06_SameQuery_j5_b at h
 obtain ⟨h1, h⟩ | ⟨h1, h⟩ := ite_some h
 · obtain rfl := Option.some.inj h
   exact rr 5 [(0, .br true)] [] [] 0 [pf (bt h1)]
 · exact tt 5 [(0, .br false)] [] [2, 3, 6] [(0, 0), (1, 1)] 2 [pf (bf h1)] (ih.r06_SameQuery_l4 h cx)
theorem r06_SameQuery_l2_okb {m : Nat} (ih : Ok_r06_SameExpr m) : Sd3 (r06_SameQuery_l2_b (tab_r06_SameExpr m)) r06_SameQuery_l2_J := by
 intro a0 a1 a2 r h cx
 unfold r06_SameQuery_l2_b at h
 obtain ⟨h1, h⟩ | ⟨h1, h⟩ := ite_some h
 · obtain ⟨x1, h2, h⟩ := bind_some h
   obtain ⟨x2, h3, h⟩ := bind_some h
   obtain ⟨h4, h⟩ | ⟨h4, h⟩ := ite_some h
   · obtain ⟨r3, h5, h⟩ := bs h fun _ => ih.r06_SameExpr
     exact tt 9 [(0, .reg [] [(3, .one (.int .i64 (a0.Items.length : Int)))]), (1, .br true), (2, .reg [(5, .row (Row.cells x1)), (11, .row (Row.cells x2)), (19, .row (Row.cells x1)), (25, .row (Row.cells x2)), (26, cl [] h5)] [(13, .bool false)])] [] [2, 3, 5, 79] [(0, 0), (1, 1)] 2 [@pf (LenP (α := ItemT) a0.Items) (lenP _), pf (dt h1), pf (inP h2), pf (atP h2), pf (inP h3), pf (atP h3), pf (ndf h4), pf (inP h2), pf (atP h2), pf (inP h3), pf (atP h3), pf h5] (r06_SameQuery_j3_okb ih h cx)
   · exact tt 9 [(0, .reg [] [(3, .one (.int .i64 (a0.Items.length : Int)))]), (1, .br true), (2, .reg [(5, .row (Row.cells x1)), (11, .row (Row.cells x2))] [(13, .bool true)])] [] [2, 3, 5, 79] [(0, 0), (1, 1)] 2 [@pf (LenP (α := ItemT) a0.Items) (lenP _), pf (dt h1), pf (inP h2), pf (atP h2), pf (inP h3), pf (atP h3), pf (ndt h4)] (r06_SameQuery_j3_okb ih h cx)
 · exact tt 10 [(0, .reg [] [(3, .one (.int .i64 (a0.Items.length : Int)))]), (1, .br false)] [] [2, 3, 6] [(0, 0), (1, 1)] 2 [@pf (LenP (α := ItemT) a0.Items) (lenP _), pf (df h1)] (ih.r06_SameQuery_l4 h cx)
theorem r06_SameQuery_l4_okb {m : Nat} (ih : Ok_r06_SameExpr m) : Sd3 (r06_SameQuery_l4_b (tab_r06_SameExpr m)) r06_SameQuery_l4_J := by
 intro a0 a1 a2 r h cx
 unfold r06_SameQuery_l4_b at h
 obtain ⟨h1, h⟩ | ⟨h1, h⟩ := ite_some h
 · obtain ⟨x1, h2, h⟩ := bind_some h
   obtain ⟨x2, h3, h⟩ := bind_some h
   obtain ⟨h4, h⟩ | ⟨h4, h⟩ := ite_some h
   · obtain ⟨r3, h5, h⟩ := bs h fun _ => ih.r06_SameExpr
     exact tt 9 [(0, .reg [] [(3, .one (.int .i64 (a0.Order.length : Int)))]), (1, .br true), (2, .reg [(5, .row (Row.cells x1)), (11, .row (Row.cells x2)), (19, .row (Row.cells x1)), (25, .row (Row.cells x2)), (26, cl [] h5)] [(13, .bool false)])] [] [2, 3, 6, 115] [(0, 0), (1, 1)] 2 [@pf (LenP (α := Key) a0.Order) (lenP _), pf (dt h1), pf (inP h2), pf (atP h2), pf (inP h3), pf (atP h3), pf (nbf h4), pf (inP h2), pf (atP h2), pf (inP h3), pf (atP h3), pf h5] (r06_SameQuery_j5_okb ih h cx)
   · exact tt 9 [(0, .reg [] [(3, .one (.int .i64 (a0.Order.length : Int)))]), (1, .br true), (2, .reg [(5, .row (Row.cells x1)), (11, .row (Row.cells x2))] [(13, .bool true)])] [] [2, 3, 6, 115] [(0, 0), (1, 1)] 2 [@pf (LenP (α := Key) a0.Order) (lenP _), pf (dt h1), pf (inP h2), pf (atP h2), pf (inP h3), pf (atP h3), pf (nbt h4)] (r06_SameQuery_j5_okb ih h cx)
 · obtain ⟨r1, h2, h⟩ := bs h fun _ => ih.r06_SameFroms
   obtain ⟨h3, h⟩ | ⟨h3, h⟩ := ite_some h
   · obtain ⟨r2, h4, h⟩ := bs h fun _ => ih.r06_SameExprs
     obtain ⟨h5, h⟩ | ⟨h5, h⟩ := ite_some h
     · obtain ⟨r3, h6, h⟩ := bs h fun _ => ih.r06_SameExprs
       obtain ⟨h7, h⟩ | ⟨h7, h⟩ := ite_some h
       · obtain ⟨r4, h8, h⟩ := bs h fun _ => ih.r06_SameExprs
         obtain ⟨h9, h⟩ | ⟨h9, h⟩ := ite_some h
         · obtain ⟨r5, h10, h⟩ := bs h fun _ => ih.r06_SameQueries
           obtain rfl := Option.some.inj h
           exact rr 9 [(0, .reg [] [(3, .one (.int .i64 (a0.Order.length : Int)))]), (1, .br false), (2, .reg [(4, cl [] h2), (10, cl [] h4), (17, cl [] h6), (24, cl [] h8), (31, cl [] h10)] [(5, .bool true), (12, .bool true), (19, .bool true), (26, .bool true)])] [] [] 0 [@pf (LenP (α := Key) a0.Order) (lenP _), pf (df h1), pf h2, pf (bt h3), pf h4, pf (bt h5), pf h6, pf (bt h7), pf h8, pf (bt h9), pf h10]
         · obtain rfl := Option.some.inj h
           exact rr 9 [(0, .reg [] [(3, .one (.int .i64 (a0.Order.length : Int)))]), (1, .br false), (2, .reg [(4, cl [] h2), (10, cl [] h4), (17, cl [] h6), (24, cl [] h8)] [(5, .bool true), (12, .bool true), (19, .bool true), (26, .bool false)])] [] [] 0 [@pf (LenP (α := Key) a0.Order) (lenP _), pf (df h1), pf h2, pf (bt h3), pf h4, pf (bt h5), pf h6, pf (bt h7), pf h8, pf (bf h9)]
       · obtain rfl := Option.some.inj h
         exact rr 9 [(0, .reg [] [(3, .one (.int .i64 (a0.Order.length : Int)))]), (1, .br false), (2, .reg [(4, cl [] h2), (10, cl [] h4), (17, cl [] h6)] [(5, .bool true), (12, .bool true), (19, .bool false)])] [] [] 0 [@pf (LenP (α := Key) a0.Order) (lenP _), pf (df h1), pf h2, pf (bt h3), pf h4, pf (bt h5), pf h6, pf (bf h7)]
     · obtain rfl := Option.some.inj h
       exact rr 9 [(0, .reg [] [(3, .one (.int .i64 (a0.Order.length : Int)))]), (1, .br false), (2, .reg [(4, cl [] h2), (10, cl [] h4)] [(5, .bool true), (12, .bool false)])] [] [] 0 [@pf (LenP (α := Key) a0.Order) (lenP _), pf (df h1), pf h2, pf (bt h3), pf h4, pf (bf h5)]
   · obtain rfl := Option.some.inj h
     exact rr 9 [(0, .reg [] [(3, .one (.int .i64 (a0.Order.length : Int)))]), (1, .br false), (2, .reg [(4, cl [] h2)] [(5, .bool false)])] [] [] 0 [@pf (LenP (α := Key) a0.Order) (lenP _), pf (df h1), pf h2, pf (bf h3)]
theorem ok_r06_SameExpr : ∀ m, Ok_r06_SameExpr m
 | 0 => ⟨(fun h => nomatch (show none = some _ from h)), (fun h => nomatch (show none = some _ from h)), (fun h => nomatch (show none = some _ from h)), (fun h => nomatch (show none = some _ from h)), (fun h => nomatch (show none = some _ from h)), (fun h => nomatch (show none = some _ from h)), (fun h => nomatch (show none = some _ from h)), (fun h => nomatch (show none = some _ from h)), (fun h => nomatch (show none = some _ from h)), (fun h => nomatch (show none = some _ from h))⟩
 | m + 1 => ⟨r06_SameExpr_okb (ok_r06_SameExpr m), r06_SameExprs_okb (ok_r06_SameExpr m), r06_SameExprs_l1_okb (ok_r06_SameExpr m), r06_SameFroms_okb (ok_r06_SameExpr m), r06_SameFroms_l1_okb (ok_r06_SameExpr m), r06_SameQueries_okb (ok_r06_SameExpr m), r06_SameQueries_l1_okb (ok_r06_SameExpr m), r06_SameQuery_okb (ok_r06_SameExpr m), r06_SameQuery_l2_okb (ok_r06_SameExpr m), r06_SameQuery_l4_okb (ok_r06_SameExpr m)⟩
theorem r06_SameExpr_ok {k : Nat} : Sd2 (r06_SameExpr k) r06_SameExpr_J := (ok_r06_SameExpr k).r06_SameExpr
theorem r06_SameExprs_ok {k : Nat} : Sd2 (r06_SameExprs k) r06_SameExprs_J := (ok_r06_SameExpr k).r06_SameExprs
theorem r06_SameExprs_l1_ok {k : Nat} : Sd3 (r06_SameExprs_l1 k) r06_SameExprs_l1_J := (ok_r06_SameExpr k).r06_SameExprs_l1
theorem r06_SameFroms_ok {k : Nat} : Sd2 (r06_SameFroms k) r06_SameFroms_J := (ok_r06_SameExpr k).r06_SameFroms
theorem r06_SameFroms_l1_ok {k : Nat} : Sd3 (r06_SameFroms_l1 k) r06_SameFroms_l1_J := (ok_r06_SameExpr k).r06_SameFroms_l1
theorem r06_SameQueries_ok {k : Nat} : Sd2 (r06_SameQueries k) r06_SameQueries_J := (ok_r06_SameExpr k).r06_SameQueries
theorem r06_SameQueries_l1_ok {k : Nat} : Sd3 (r06_SameQueries_l1 k) r06_SameQueries_l1_J := (ok_r06_SameExpr k).r06_SameQueries_l1
theorem r06_SameQuery_ok {k : Nat} : Sd2 (r06_SameQuery k) r06_SameQuery_J := (ok_r06_SameExpr k).r06_SameQuery
theorem r06_SameQuery_l2_ok {k : Nat} : Sd3 (r06_SameQuery_l2 k) r06_SameQuery_l2_J := (ok_r06_SameExpr k).r06_SameQuery_l2
theorem r06_SameQuery_l4_ok {k : Nat} : Sd3 (r06_SameQuery_l4 k) r06_SameQuery_l4_J := (ok_r06_SameExpr k).r06_SameQuery_l4

noncomputable def l06_SyntaxExprs_O (a0 : Bool) : List O := []
noncomputable def l06_SyntaxExprs_V (a0 : Bool) : V := .one (.bool a0)
noncomputable def l06_SyntaxExprs_J (a0 : Str) (r : Bool) : Prop := Has prog 3 [.one (.str a0)] [] (l06_SyntaxExprs_O r) (l06_SyntaxExprs_V r)
noncomputable def l06_SyntaxExprs (k : Nat) (a0 : Str) : Option Bool :=
 if 21000 < (a0.length : Int) then (
  (l06_alive k).bind fun r1 =>
  some r1
 ) else (
  (syntax_Expr k a0).bind fun (r1, r2, r3) =>
  (r06_Expr k a0).bind fun (r4, r5, r6) =>
  (r06_SameExpr k r1 r4).bind fun r7 =>
  if r7 = true then (
   if r2 = r5 then (
    if r3 = r6 then (
     (l06_alive k).bind fun r8 =>
     some r8
    ) else (
     some false
    )
   ) else (
    some false
   )
  ) else (
   some false
  )
 )
theorem l06_SyntaxExprs_ok {k : Nat} : Sd1 (l06_SyntaxExprs k) l06_SyntaxExprs_J := by
 intro a0 r h
 unfold l06_SyntaxExprs at h
 refine ent (c := bodyOf f3) func3 rfl rfl rfl fun cx => ?_
 obtain ⟨h1, h⟩ | ⟨h1, h⟩ := ite_some h
 · obtain ⟨r1, h2, h⟩ := bs h fun _ => l06_alive_ok
   obtain rfl := Option.some.inj h
   exact rr 10 [(2, .br true), (3, .reg [(0, cl [] h2)] [])] [] [] 0 [pf (dt h1), pf h2]
 · obtain ⟨⟨r1, r2, r3⟩, h2, h⟩ := bs h fun _ => syntax_Expr_ok
   obtain ⟨⟨r4, r5, r6⟩, h3, h⟩ := bs h fun _ => r06_Expr_ok
   obtain ⟨r7, h4, h⟩ := bs h fun _ => r06_SameExpr_ok
   obtain ⟨h5, h⟩ | ⟨h5, h⟩ := ite_some h
   · obtain ⟨h6, h⟩ | ⟨h6, h⟩ := ite_some h
     · obtain ⟨h7, h⟩ | ⟨h7, h⟩ := ite_some h
       · obtain ⟨r8, h8, h⟩ := bs h fun _ => l06_alive_ok
         obtain rfl := Option.some.inj h
         exact rr 15 [(2, .br false), (3, .reg [(1, cl [] h2)] []), (4, .reg [(1, cl [] h3)] []), (5, .reg [(2, cl [] h4), (14, cl [] h8)] [(3, .bool true), (8, .bool true), (13, .bool true)])] [] [] 0 [pf (df h1), pf h2, pf h3, pf h4, pf (bt h5), pf (dt h6), pf (dt h7), pf h8]
       · obtain rfl := Option.some.inj h
         exact rr 15 [(2, .br false), (3, .reg [(1, cl [] h2)] []), (4, .reg [(1, cl [] h3)] []), (5, .reg [(2, cl [] h4)] [(3, .bool true), (8, .bool true), (13, .bool false)])] [] [] 0 [pf (df h1), pf h2, pf h3, pf h4, pf (bt h5), pf (dt h6), pf (df h7)]
     · obtain rfl := Option.some.inj h
       exact rr 15 [(2, .br false), (3, .reg [(1, cl [] h2)] []), (4, .reg [(1, cl [] h3)] []), (5, .reg [(2, cl [] h4)] [(3, .bool true), (8, .bool false)])] [] [] 0 [pf (df h1), pf h2, pf h3, pf h4, pf (bt h5), pf (df h6)]
   · obtain rfl := Option.some.inj h
     exact rr 15 [(2, .br false), (3, .reg [(1, cl [] h2)] []), (4, .reg [(1, cl [] h3)] []), (5, .reg [(2, cl [] h4)] [(3, .bool false)])] [] [] 0 [pf (df h1), pf h2, pf h3, pf h4, pf (bf h5)]

noncomputable def r06_Query_O (a0 : Query) (a1 a2 : Int) : List O := []
noncomputable def r06_Query_V (a0 : Query) (a1 a2 : Int) : V := .tup [.agg (ca a0), .one (.int .i64 a1), .one (.int .i64 a2)]
noncomputable def r06_Query_J (a0 : Str) (r : (Query × Int × Int)) : Prop := Has prog 12 [.one (.str a0)] [] (r06_Query_O r.1 r.2.1 r.2.2) (r06_Query_V r.1 r.2.1 r.2.2)
noncomputable def r06_Query (k : Nat) (a0 : Str) : Option (Query × Int × Int) :=
 (r06_New k a0 0).bind fun r1 =>
 if r1.E = 0 then (
  (r06_P_Query k r1).bind fun (r2, r3) =>
  (r06_P_End r2).bind fun (r4, r5, r6) =>
  if r6 = 0 then (
   some (r3, r5, r6)
  ) else (
   some ((Query.mk 0 false [] [] [] [] [] [] 0 []), r5, r6)
  )
 ) else (
  some ((Query.mk 0 false [] [] [] [] [] [] 0 []), r1.At, r1.E)
 )
theorem r06_Query_ok {k : Nat} : Sd1 (r06_Query k) r06_Query_J := by
 intro a0 r h
 unfold r06_Query at h
 refine ent (c := bodyOf f12) func12 rfl rfl rfl fun cx => ?_
 obtain ⟨r1, h1, h⟩ := bs h fun _ => r06_New_ok
 obtain ⟨h2, h⟩ | ⟨h2, h⟩ := ite_some h
 · obtain ⟨⟨r2, r3⟩, h3, h⟩ := bs h fun _ => r06_P_Query_ok
   obtain ⟨⟨r4, r5, r6⟩, h4, h⟩ := bs h fun _ => r06_P_End_ok
   obtain ⟨h5, h⟩ | ⟨h5, h⟩ := ite_some h
   · obtain rfl := Option.some.inj h
     exact rr 22 [(1, .reg [(1, cl [] h1)] []), (3, .br false), (4, .reg [(1, cl [64] h3)] []), (5, .reg [(1, cl [64] h4)] []), (7, .br false)] [] [] 0 [pf h1, pf (ndf h2), pf h3, pf h4, pf (ndf h5)]
   · obtain rfl := Option.some.inj h
     exact rr 22 [(1, .reg [(1, cl [] h1)] []), (3, .br false), (4, .reg [(1, cl [64] h3)] []), (5, .reg [(1, cl [64] h4)] []), (7, .br true)] [] [] 0 [pf h1, pf (ndf h2), pf h3, pf h4, pf (ndt h5)]
 · obtain rfl := Option.some.inj h
   exact rr 12 [(1, .reg [(1, cl [] h1)] []), (3, .br true)] [] [] 0 [pf h1, pf (ndt h2)]

noncomputable def l06_SyntaxQueries_O (a0 : Bool) : List O := []
noncomputable def l06_SyntaxQueries_V (a0 : Bool) : V := .one (.bool a0)
noncomputable def l06_SyntaxQueries_J (a0 : Str) (r : Bool) : Prop := Has prog 4 [.one (.str a0)] [] (l06_SyntaxQueries_O r) (l06_SyntaxQueries_V r)
noncomputable def l06_SyntaxQueries (k : Nat) (a0 : Str) : Option Bool :=
 if 21000 < (a0.length : Int) then (
  (l06_alive k).bind fun r1 =>
  some r1
 ) else (
  (syntax_Query k a0).bind fun (r1, r2, r3) =>
  (r06_Query k a0).bind fun (r4, r5, r6) =>
  (r06_SameQuery k r1 r4).bind fun r7 =>
  if r7 = true then (
   if r2 = r5 then (
    if r3 = r6 then (
     (l06_alive k).bind fun r8 =>
     some r8
    ) else (
     some false
    )
   ) else (
    some false
   )
  ) else (
   some false
  )
 )
theorem l06_SyntaxQueries_ok {k : Nat} : Sd1 (l06_SyntaxQueries k) l06_SyntaxQueries_J := by
 intro a0 r h
 unfold l06_SyntaxQueries at h
 refine ent (c := bodyOf f4) func4 rfl rfl rfl fun cx => ?_
 obtain ⟨h1, h⟩ | ⟨h1, h⟩ := ite_some h
 · obtain ⟨r1, h2, h⟩ := bs h fun _ => l06_alive_ok
   obtain rfl := Option.some.inj h
   exact rr 10 [(2, .br true), (3, .reg [(0, cl [] h2)] [])] [] [] 0 [pf (dt h1), pf h2]
 · obtain ⟨⟨r1, r2, r3⟩, h2, h⟩ := bs h fun _ => syntax_Query_ok
   obtain ⟨⟨r4, r5, r6⟩, h3, h⟩ := bs h fun _ => r06_Query_ok
   obtain ⟨r7, h4, h⟩ := bs h fun _ => r06_SameQuery_ok
   obtain ⟨h5, h⟩ | ⟨h5, h⟩ := ite_some h
   · obtain ⟨h6, h⟩ | ⟨h6, h⟩ := ite_some h
     · obtain ⟨h7, h⟩ | ⟨h7, h⟩ := ite_some h
       · obtain ⟨r8, h8, h⟩ := bs h fun _ => l06_alive_ok
         obtain rfl := Option.some.inj h
         exact rr 15 [(2, .br false), (3, .reg [(1, cl [] h2)] []), (4, .reg [(1, cl [] h3)] []), (5, .reg [(2, cl [] h4), (14, cl [] h8)] [(3, .bool true), (8, .bool true), (13, .bool true)])] [] [] 0 [pf (df h1), pf h2, pf h3, pf h4, pf (bt h5), pf (dt h6), pf (dt h7), pf h8]
       · obtain rfl := Option.some.inj h
         exact rr 15 [(2, .br false), (3, .reg [(1, cl [] h2)] []), (4, .reg [(1, cl [] h3)] []), (5, .reg [(2, cl [] h4)] [(3, .bool true), (8, .bool true), (13, .bool false)])] [] [] 0 [pf (df h1), pf h2, pf h3, pf h4, pf (bt h5), pf (dt h6), pf (df h7)]
     · obtain rfl := Option.some.inj h
       exact rr 15 [(2, .br false), (3, .reg [(1, cl [] h2)] []), (4, .reg [(1, cl [] h3)] []), (5, .reg [(2, cl [] h4)] [(3, .bool true), (8, .bool false)])] [] [] 0 [pf (df h1), pf h2, pf h3, pf h4, pf (bt h5), pf (df h6)]
   · obtain rfl := Option.some.inj h
     exact rr 15 [(2, .br false), (3, .reg [(1, cl [] h2)] []), (4, .reg [(1, cl [] h3)] []), (5, .reg [(2, cl [] h4)] [(3, .bool false)])] [] [] 0 [pf (df h1), pf h2, pf h3, pf h4, pf (bf h5)]

noncomputable def r06_SamePairs_O (a0 : Bool) : List O := []
noncomputable def r06_SamePairs_V (a0 : Bool) : V := .one (.bool a0)
noncomputable def r06_SamePairs_J (a0 a1 : List Pair) (r : Bool) : Prop := Has prog 41 [.one (.c (.sl 2 (Row.rows (α := Pair) a0))), .one (.c (.sl 2 (Row.rows (α := Pair) a1)))] [] (r06_SamePairs_O r) (r06_SamePairs_V r)
noncomputable def r06_SamePairs_j2_K : List Item := stackAt (bodyOf f41) [1, 1, 0, 1, 0, 0, 1, 0, 0, 1] []
noncomputable def r06_SamePairs_j2_S (a0 a1 : List Pair) (a2 : Int) (a3 : Bool) : St := ⟨[(0, .one (.c (.sl 2 (Row.rows (α := Pair) a0)))), (1, .one (.c (.sl 2 (Row.rows (α := Pair) a1)))), (5, .one (.int .i64 a2)), (40, .one (.bool a3))], [], 0, 41, 0⟩
noncomputable def r06_SamePairs_j2_J (a0 a1 : List Pair) (a2 : Int) (a3 : Bool) (r : Bool) : Prop := ∀ cx : Cx, AK prog cx r06_SamePairs_j2_K (r06_SamePairs_j2_S a0 a1 a2 a3) (Fin lay f41.results.toList 0 fun o v => o = r06_SamePairs_O r ∧ v = r06_SamePairs_V r)
noncomputable def r06_SamePairs_l1_K : List Item := stackAt (bodyOf f41) [1, 1, 0, 1, 0, 0] []
noncomputable def r06_SamePairs_l1_S (a0 a1 : List Pair) (a2 : Int) : St := ⟨[(0, .one (.c (.sl 2 (Row.rows (α := Pair) a0)))), (1, .one (.c (.sl 2 (Row.rows (α := Pair) a1)))), (5, .one (.int .i64 a2))], [], 0, 41, 0⟩
noncomputable def r06_SamePairs_l1_J (a0 a1 : List Pair) (a2 : Int) (r : Bool) : Prop := ∀ cx : Cx, AK prog cx r06_SamePairs_l1_K (r06_SamePairs_l1_S a0 a1 a2) (Fin lay f41.results.toList 0 fun o v => o = r06_SamePairs_O r ∧ v = r06_SamePairs_V r)
structure Tab_r06_SamePairs_j2 where
 k : Nat
 r06_SamePairs_l1 : (List Pair) → (List Pair) → Int → Option Bool
noncomputable def r06_SamePairs_j2_b (T : Tab_r06_SamePairs_j2) (a0 a1 : List Pair) (a2 : Int) (a3 : Bool) : Option Bool :=
 if a3 = true then (
  some false
 ) else (
  T.r06_SamePairs_l1 a0 a1 (IntKind.i64.wrap (a2 + 1))
 )
noncomputable def r06_SamePairs_l1_b (T : Tab_r06_SamePairs_j2) (a0 a1 : List Pair) (a2 : Int) : Option Bool :=
 if a2 < (a0.length : Int) then (
  (idx a0 a2).bind fun x1 =>
  (idx a1 a2).bind fun x2 =>
  if x1.Low = x2.Low then (
   r06_SamePairs_j2_b T a0 a1 a2 (!(decide (x1.High = x2.High)))
  ) else (
   r06_SamePairs_j2_b T a0 a1 a2 true
  )
 ) else (
  some true
 )
noncomputable def tab_r06_SamePairs_j2 : Nat → Tab_r06_SamePairs_j2
 | 0 => ⟨0, fun _ _ _ => none⟩
 | k + 1 => ⟨k + 1, r06_SamePairs_l1_b (tab_r06_SamePairs_j2 k)⟩
noncomputable def r06_SamePairs_l1 (k : Nat) := (tab_r06_SamePairs_j2 k).r06_SamePairs_l1
structure Ok_r06_SamePairs_j2 (m : Nat) : Prop where
 r06_SamePairs_l1 : Sd3 (tab_r06_SamePairs_j2 m).r06_SamePairs_l1 r06_SamePairs_l1_J
theorem r06_SamePairs_j2_okb {m : Nat} (ih : Ok_r06_SamePairs_j2 m) : Sd4 (r06_SamePairs_j2_b (tab_r06_SamePairs_j2 m)) r06_SamePairs_j2_J := by
 intro a0 a1 a2 a3 r h cx
 unfold r06_SamePairs_j2_b at h
 obtain ⟨h1, h⟩ | ⟨h1, h⟩ := ite_some h
 · obtain rfl := Option.some.inj h
   exact rr 5 [(0, .br true)] [] [] 0 [pf (bt h1)]
 · exact tt 5 [(0, .br false)] [] [0, 1, 5] [] 0 [pf (bf h1)] (ih.r06_SamePairs_l1 h cx)
theorem r06_SamePairs_l1_okb {m : Nat} (ih : Ok_r06_SamePairs_j2 m) : Sd3 (r06_SamePairs_l1_b (tab_r06_SamePairs_j2 m)) r06_SamePairs_l1_J := by
 intro a0 a1 a2 r h cx
 unfold r06_SamePairs_l1_b at h
 obtain ⟨h1, h⟩ | ⟨h1, h⟩ := ite_some h
 · obtain ⟨x1, h2, h⟩ := bind_some h
   obtain ⟨x2, h3, h⟩ := bind_some h
   obtain ⟨h4, h⟩ | ⟨h4, h⟩ := ite_some h
   · exact tt 9 [(0, .reg [] [(2, .one (.int .i64 (a0.length : Int)))]), (1, .br true), (2, .reg [(4, .row (Row.cells x1)), (9, .row (Row.cells x2)), (16, .row (Row.cells x1)), (21, .row (Row.cells x2))] [(11, .bool false)])] [] [0, 1, 5, 40] [] 0 [@pf (LenP (α := Pair) a0) (lenP _), pf (dt h1), pf (inP h2), pf (atP h2), pf (inP h3), pf (atP h3), pf (ndf h4), pf (inP h2), pf (atP h2), pf (inP h3), pf (atP h3)] (r06_SamePairs_j2_okb ih h cx)
   · exact tt 9 [(0, .reg [] [(2, .one (.int .i64 (a0.length : Int)))]), (1, .br true), (2, .reg [(4, .row (Row.cells x1)), (9, .row (Row.cells x2))] [(11, .bool true)])] [] [0, 1, 5, 40] [] 0 [@pf (LenP (α := Pair) a0) (lenP _), pf (dt h1), pf (inP h2), pf (atP h2), pf (inP h3), pf (atP h3), pf (ndt h4)] (r06_SamePairs_j2_okb ih h cx)
 · obtain rfl := Option.some.inj h
   exact rr 9 [(0, .reg [] [(2, .one (.int .i64 (a0.length : Int)))]), (1, .br false)] [] [] 0 [@pf (LenP (α := Pair) a0) (lenP _), pf (df h1)]
theorem ok_r06_SamePairs_j2 : ∀ m, Ok_r06_SamePairs_j2 m
 | 0 => ⟨(fun h => nomatch (show none = some _ from h))⟩
 | m + 1 => ⟨r06_SamePairs_l1_okb (ok_r06_SamePairs_j2 m)⟩
theorem r06_SamePairs_l1_ok {k : Nat} : Sd3 (r06_SamePairs_l1 k) r06_SamePairs_l1_J := (ok_r06_SamePairs_j2 k).r06_SamePairs_l1

noncomputable def r06_SamePairs (k : Nat) (a0 a1 : List Pair) : Option Bool :=
 if (a0.length : Int) = (a1.length : Int) then (
  r06_SamePairs_l1 k a0 a1 0
 ) else (
  some false
 )
theorem r06_SamePairs_ok {k : Nat} : Sd2 (r06_SamePairs k) r06_SamePairs_J := by
 intro a0 a1 r h
 unfold r06_SamePairs at h
 refine ent (c := bodyOf f41) func41 rfl rfl rfl fun cx => ?_
 obtain ⟨h1, h⟩ | ⟨h1, h⟩ := ite_some h
 · exact tt 12 [(1, .reg [] [(1, .one (.int .i64 (a0.length : Int))), (3, .one (.int .i64 (a1.length : Int)))]), (2, .br false)] [] [0, 1, 5] [] 0 [@pf (LenP (α := Pair) a0) (lenP _), @pf (LenP (α := Pair) a1) (lenP _), pf (ndf h1)] (r06_SamePairs_l1_ok h cx)
 · obtain rfl := Option.some.inj h
   exact rr 10 [(1, .reg [] [(1, .one (.int .i64 (a0.length : Int))), (3, .one (.int .i64 (a1.length : Int)))]), (2, .br true)] [] [] 0 [@pf (LenP (α := Pair) a0) (lenP _), @pf (LenP (α := Pair) a1) (lenP _), pf (ndt h1)]

noncomputable def r06_SameTexts_O (a0 : Bool) : List O := []
noncomputable def r06_SameTexts_V (a0 : Bool) : V := .one (.bool a0)
noncomputable def r06_SameTexts_J (a0 a1 : List Str) (r : Bool) : Prop := Has prog 36 [.one (.c (.sl 1 (Row.rows (α := Str) a0))), .one (.c (.sl 1 (Row.rows (α := Str) a1)))] [] (r06_SameTexts_O r) (r06_SameTexts_V r)
noncomputable def r06_SameTexts_l1_K : List Item := stackAt (bodyOf f36) [1, 1, 0, 1, 0, 0] []
noncomputable def r06_SameTexts_l1_S (a0 a1 : List Str) (a2 : Int) : St := ⟨[(0, .one (.c (.sl 1 (Row.rows (α := Str) a0)))), (1, .one (.c (.sl 1 (Row.rows (α := Str) a1)))), (5, .one (.int .i64 a2))], [], 0, 26, 0⟩
noncomputable def r06_SameTexts_l1_J (a0 a1 : List Str) (a2 : Int) (r : Bool) : Prop := ∀ cx : Cx, AK prog cx r06_SameTexts_l1_K (r06_SameTexts_l1_S a0 a1 a2) (Fin lay f36.results.toList 0 fun o v => o = r06_SameTexts_O r ∧ v = r06_SameTexts_V r)
structure Tab_r06_SameTexts_l1 where
 k : Nat
 r06_SameTexts_l1 : (List Str) → (List Str) → Int → Option Bool
noncomputable def r06_SameTexts_l1_b (T : Tab_r06_SameTexts_l1) (a0 a1 : List Str) (a2 : Int) : Option Bool :=
 if a2 < (a0.length : Int) then (
  (idx a0 a2).bind fun x1 =>
  (idx a1 a2).bind fun x2 =>
  if x1 = x2 then (
   T.r06_SameTexts_l1 a0 a1 (IntKind.i64.wrap (a2 + 1))
  ) else (
   some false
  )
 ) else (
  some true
 )
noncomputable def tab_r06_SameTexts_l1 : Nat → Tab_r06_SameTexts_l1
 | 0 => ⟨0, fun _ _ _ => none⟩
 | k + 1 => ⟨k + 1, r06_SameTexts_l1_b (tab_r06_SameTexts_l1 k)⟩
noncomputable def r06_SameTexts_l1 (k : Nat) := (tab_r06_SameTexts_l1 k).r06_SameTexts_l1
structure Ok_r06_SameTexts_l1 (m : Nat) : Prop where
 r06_SameTexts_l1 : Sd3 (tab_r06_SameTexts_l1 m).r06_SameTexts_l1 r06_SameTexts_l1_J
theorem r06_SameTexts_l1_okb {m : Nat} (ih : Ok_r06_SameTexts_l1 m) : Sd3 (r06_SameTexts_l1_b (tab_r06_SameTexts_l1 m)) r06_SameTexts_l1_J := by
 intro a0 a1 a2 r h cx
 unfold r06_SameTexts_l1_b at h
 obtain ⟨h1, h⟩ | ⟨h1, h⟩ := ite_some h
 · obtain ⟨x1, h2, h⟩ := bind_some h
   obtain ⟨x2, h3, h⟩ := bind_some h
   obtain ⟨h4, h⟩ | ⟨h4, h⟩ := ite_some h
   · exact tt 14 [(0, .reg [] [(2, .one (.int .i64 (a0.length : Int)))]), (1, .br true), (2, .reg [(3, .row (Row.cells x1)), (7, .row (Row.cells x2))] []), (3, .br false)] [] [0, 1, 5] [] 0 [@pf (LenP (α := Str) a0) (lenP _), pf (dt h1), pf (inP h2), pf (atP h2), pf (inP h3), pf (atP h3), pf (ndf h4)] (ih.r06_SameTexts_l1 h cx)
   · obtain rfl := Option.some.inj h
     exact rr 14 [(0, .reg [] [(2, .one (.int .i64 (a0.length : Int)))]), (1, .br true), (2, .reg [(3, .row (Row.cells x1)), (7, .row (Row.cells x2))] []), (3, .br true)] [] [] 0 [@pf (LenP (α := Str) a0) (lenP _), pf (dt h1), pf (inP h2), pf (atP h2), pf (inP h3), pf (atP h3), pf (ndt h4)]
 · obtain rfl := Option.some.inj h
   exact rr 9 [(0, .reg [] [(2, .one (.int .i64 (a0.length : Int)))]), (1, .br false)] [] [] 0 [@pf (LenP (α := Str) a0) (lenP _), pf (df h1)]
theorem ok_r06_SameTexts_l1 : ∀ m, Ok_r06_SameTexts_l1 m
 | 0 => ⟨(fun h => nomatch (show none = some _ from h))⟩
 | m + 1 => ⟨r06_SameTexts_l1_okb (ok_r06_SameTexts_l1 m)⟩
theorem r06_SameTexts_l1_ok {k : Nat} : Sd3 (r06_SameTexts_l1 k) r06_SameTexts_l1_J := (ok_r06_SameTexts_l1 k).r06_SameTexts_l1
end Go.Syn
