/- Part M1 of the model: each function answers as its plain twin in this text says, whenever that twin answers. No other condition. (Printed by a program of this work.) -/
import Derived.Test.YtoioflodpmideaaM0
import Derived.Test.YtoioflodpmideaaAbs22
namespace Go.Syn
open Go.Abs Go.Proofs.Try
set_option linter.unusedVariables false
noncomputable def sp_left_expr_1_O (a0 : Parser) (a1 : Expr) : List O := [.var 64 (ca a0), .var 49 [.ptr 0 0]]
noncomputable def sp_left_expr_1_V (a0 : Parser) (a1 : Expr) : V := .agg (ca a1)
noncomputable def sp_left_expr_1_J (a0 : Parser) (a1 : List Str) (r : (Parser × Expr)) : Prop := Has prog 24 [.one (.ptr 0 0), .one (.fn 25 [] [.ptr 1 0]), .one (.fn 27 [.ptr 0 0] []), .one (.c (.sl 1 (Row.rows (α := Str) a1)))] [.var 64 (ca a0), .var 49 [.ptr 0 0]] (sp_left_expr_1_O r.1 r.2) (sp_left_expr_1_V r.1 r.2)
noncomputable def sp_inner_not_O (a0 : Parser) (a1 : Expr) : List O := [.var 64 (ca a0)]
noncomputable def sp_inner_not_V (a0 : Parser) (a1 : Expr) : V := .agg (ca a1)
noncomputable def sp_inner_not_J (a0 : Parser) (a1 : Int) (r : (Parser × Expr)) : Prop := Has prog 39 [.one (.ptr 0 0), .one (.int .i64 a1), .one (.fn 26 [.ptr 0 0] [])] [.var 64 (ca a0)] (sp_inner_not_O r.1 r.2) (sp_inner_not_V r.1 r.2)
noncomputable def sp_round_O (a0 : Parser) (a1 : Expr) : List O := [.var 64 (ca a0)]
noncomputable def sp_round_V (a0 : Parser) (a1 : Expr) : V := .agg (ca a1)
noncomputable def sp_round_J (a0 : Parser) (r : (Parser × Expr)) : Prop := Has prog 99 [.one (.ptr 0 0)] [.var 64 (ca a0)] (sp_round_O r.1 r.2) (sp_round_V r.1 r.2)
noncomputable def sp_cases_O (a0 : Parser) (a1 : Expr) : List O := [.var 64 (ca a0)]
noncomputable def sp_cases_V (a0 : Parser) (a1 : Expr) : V := .agg (ca a1)
noncomputable def sp_cases_J (a0 : Parser) (r : (Parser × Expr)) : Prop := Has prog 98 [.one (.ptr 0 0)] [.var 64 (ca a0)] (sp_cases_O r.1 r.2) (sp_cases_V r.1 r.2)
noncomputable def sp_prim_O (a0 : Parser) (a1 : Expr) : List O := [.var 64 (ca a0)]
noncomputable def sp_prim_V (a0 : Parser) (a1 : Expr) : V := .agg (ca a1)
noncomputable def sp_prim_J (a0 : Parser) (r : (Parser × Expr)) : Prop := Has prog 97 [.one (.ptr 0 0)] [.var 64 (ca a0)] (sp_prim_O r.1 r.2) (sp_prim_V r.1 r.2)
noncomputable def sp_inner_unary_O (a0 : Parser) (a1 : Expr) : List O := [.var 64 (ca a0)]
noncomputable def sp_inner_unary_V (a0 : Parser) (a1 : Expr) : V := .agg (ca a1)
noncomputable def sp_inner_unary_J (a0 : Parser) (a1 : Int) (r : (Parser × Expr)) : Prop := Has prog 39 [.one (.ptr 0 0), .one (.int .i64 a1), .one (.fn 94 [.ptr 0 0] [])] [.var 64 (ca a0)] (sp_inner_unary_O r.1 r.2) (sp_inner_unary_V r.1 r.2)
noncomputable def sp_unary_O (a0 : Parser) (a1 : Expr) : List O := [.var 64 (ca a0)]
noncomputable def sp_unary_V (a0 : Parser) (a1 : Expr) : V := .agg (ca a1)
noncomputable def sp_unary_J (a0 : Parser) (r : (Parser × Expr)) : Prop := Has prog 94 [.one (.ptr 0 0)] [.var 64 (ca a0)] (sp_unary_O r.1 r.2) (sp_unary_V r.1 r.2)
noncomputable def sp_left_unary_O (a0 : Parser) (a1 : Expr) : List O := [.var 64 (ca a0)]
noncomputable def sp_left_unary_V (a0 : Parser) (a1 : Expr) : V := .agg (ca a1)
noncomputable def sp_left_unary_J (a0 : Parser) (a1 : List Str) (r : (Parser × Expr)) : Prop := Has prog 24 [.one (.ptr 0 0), .one (.fn 94 [.ptr 0 0] []), .one (.fn 44 [.ptr 0 0] []), .one (.c (.sl 1 (Row.rows (α := Str) a1)))] [.var 64 (ca a0)] (sp_left_unary_O r.1 r.2) (sp_left_unary_V r.1 r.2)
noncomputable def sp_prod_O (a0 : Parser) (a1 : Expr) : List O := [.var 64 (ca a0)]
noncomputable def sp_prod_V (a0 : Parser) (a1 : Expr) : V := .agg (ca a1)
noncomputable def sp_prod_J (a0 : Parser) (r : (Parser × Expr)) : Prop := Has prog 85 [.one (.ptr 0 0)] [.var 64 (ca a0)] (sp_prod_O r.1 r.2) (sp_prod_V r.1 r.2)
noncomputable def sp_left_prod_O (a0 : Parser) (a1 : Expr) : List O := [.var 64 (ca a0)]
noncomputable def sp_left_prod_V (a0 : Parser) (a1 : Expr) : V := .agg (ca a1)
noncomputable def sp_left_prod_J (a0 : Parser) (a1 : List Str) (r : (Parser × Expr)) : Prop := Has prog 24 [.one (.ptr 0 0), .one (.fn 85 [.ptr 0 0] []), .one (.fn 44 [.ptr 0 0] []), .one (.c (.sl 1 (Row.rows (α := Str) a1)))] [.var 64 (ca a0)] (sp_left_prod_O r.1 r.2) (sp_left_prod_V r.1 r.2)
noncomputable def sp_sum_O (a0 : Parser) (a1 : Expr) : List O := [.var 64 (ca a0)]
noncomputable def sp_sum_V (a0 : Parser) (a1 : Expr) : V := .agg (ca a1)
noncomputable def sp_sum_J (a0 : Parser) (r : (Parser × Expr)) : Prop := Has prog 68 [.one (.ptr 0 0)] [.var 64 (ca a0)] (sp_sum_O r.1 r.2) (sp_sum_V r.1 r.2)
noncomputable def sp_query_O (a0 : Parser) (a1 : Query) : List O := [.var 64 (ca a0)]
noncomputable def sp_query_V (a0 : Parser) (a1 : Query) : V := .agg (ca a1)
noncomputable def sp_query_J (a0 : Parser) (r : (Parser × Query)) : Prop := Has prog 16 [.one (.ptr 0 0)] [.var 64 (ca a0)] (sp_query_O r.1 r.2) (sp_query_V r.1 r.2)
noncomputable def syntax_list_m_O (a0 : Parser) (a1 : List ItemT) : List O := [.var 64 (ca a0)]
noncomputable def syntax_list_m_V (a0 : Parser) (a1 : List ItemT) : V := .one (.c (.sl 7 (Row.rows (α := ItemT) a1)))
noncomputable def syntax_list_m_J (a0 : Parser) (r : (Parser × (List ItemT))) : Prop := Has prog 47 [.one (.ptr 0 0), .one (.fn 48 [.ptr 0 0] [])] [.var 64 (ca a0)] (syntax_list_m_O r.1 r.2) (syntax_list_m_V r.1 r.2)
noncomputable def sp_item_O (a0 : Parser) (a1 : ItemT) : List O := [.var 64 (ca a0)]
noncomputable def sp_item_V (a0 : Parser) (a1 : ItemT) : V := .agg (ca a1)
noncomputable def sp_item_J (a0 : Parser) (r : (Parser × ItemT)) : Prop := Has prog 48 [.one (.ptr 0 0)] [.var 64 (ca a0)] (sp_item_O r.1 r.2) (sp_item_V r.1 r.2)
noncomputable def sp_source_O (a0 : Parser) (a1 : From) : List O := [.var 64 (ca a0)]
noncomputable def sp_source_V (a0 : Parser) (a1 : From) : V := .agg (ca a1)
noncomputable def sp_source_J (a0 : Parser) (r : (Parser × From)) : Prop := Has prog 49 [.one (.ptr 0 0)] [.var 64 (ca a0)] (sp_source_O r.1 r.2) (sp_source_V r.1 r.2)
noncomputable def sp_single_O (a0 : Parser) (a1 : From) : List O := [.var 64 (ca a0)]
noncomputable def sp_single_V (a0 : Parser) (a1 : From) : V := .agg (ca a1)
noncomputable def sp_single_J (a0 : Parser) (r : (Parser × From)) : Prop := Has prog 70 [.one (.ptr 0 0)] [.var 64 (ca a0)] (sp_single_O r.1 r.2) (sp_single_V r.1 r.2)
noncomputable def syntax_list_y_O (a0 : Parser) (a1 : List Key) : List O := [.var 64 (ca a0)]
noncomputable def syntax_list_y_V (a0 : Parser) (a1 : List Key) : V := .one (.c (.sl 7 (Row.rows (α := Key) a1)))
noncomputable def syntax_list_y_J (a0 : Parser) (r : (Parser × (List Key))) : Prop := Has prog 51 [.one (.ptr 0 0), .one (.fn 52 [.ptr 0 0] [])] [.var 64 (ca a0)] (syntax_list_y_O r.1 r.2) (syntax_list_y_V r.1 r.2)
noncomputable def sp_key_O (a0 : Parser) (a1 : Key) : List O := [.var 64 (ca a0)]
noncomputable def sp_key_V (a0 : Parser) (a1 : Key) : V := .agg (ca a1)
noncomputable def sp_key_J (a0 : Parser) (r : (Parser × Key)) : Prop := Has prog 52 [.one (.ptr 0 0)] [.var 64 (ca a0)] (sp_key_O r.1 r.2) (sp_key_V r.1 r.2)
noncomputable def syntax_list_r_2_O (a0 : Parser) (a1 : List Expr) : List O := [.var 64 (ca a0)]
noncomputable def syntax_list_r_2_V (a0 : Parser) (a1 : List Expr) : V := .one (.c (.sl 6 (Row.rows (α := Expr) a1)))
noncomputable def syntax_list_r_2_J (a0 : Parser) (r : (Parser × (List Expr))) : Prop := Has prog 50 [.one (.ptr 0 0), .one (.fn 11 [.ptr 0 0] [])] [.var 64 (ca a0)] (syntax_list_r_2_O r.1 r.2) (syntax_list_r_2_V r.1 r.2)
noncomputable def sp_part_O (a0 : Parser) (a1 : Query) : List O := [.var 64 (ca a0)]
noncomputable def sp_part_V (a0 : Parser) (a1 : Query) : V := .agg (ca a1)
noncomputable def sp_part_J (a0 : Parser) (r : (Parser × Query)) : Prop := Has prog 30 [.one (.ptr 0 0)] [.var 64 (ca a0)] (sp_part_O r.1 r.2) (sp_part_V r.1 r.2)
noncomputable def sp_bracketed_O (a0 : Parser) (a1 : Query) : List O := [.var 64 (ca a0)]
noncomputable def sp_bracketed_V (a0 : Parser) (a1 : Query) : V := .agg (ca a1)
noncomputable def sp_bracketed_J (a0 : Parser) (r : (Parser × Query)) : Prop := Has prog 69 [.one (.ptr 0 0)] [.var 64 (ca a0)] (sp_bracketed_O r.1 r.2) (sp_bracketed_V r.1 r.2)
noncomputable def sp_not_O (a0 : Parser) (a1 : Expr) : List O := [.var 64 (ca a0)]
noncomputable def sp_not_V (a0 : Parser) (a1 : Expr) : V := .agg (ca a1)
noncomputable def sp_not_J (a0 : Parser) (r : (Parser × Expr)) : Prop := Has prog 26 [.one (.ptr 0 0)] [.var 64 (ca a0)] (sp_not_O r.1 r.2) (sp_not_V r.1 r.2)
noncomputable def sp_left_not_O (a0 : Parser) (a1 : Expr) : List O := [.var 64 (ca a0)]
noncomputable def sp_left_not_V (a0 : Parser) (a1 : Expr) : V := .agg (ca a1)
noncomputable def sp_left_not_J (a0 : Parser) (a1 : List Str) (r : (Parser × Expr)) : Prop := Has prog 24 [.one (.ptr 0 0), .one (.fn 26 [.ptr 0 0] []), .one (.fn 27 [.ptr 0 0] []), .one (.c (.sl 1 (Row.rows (α := Str) a1)))] [.var 64 (ca a0)] (sp_left_not_O r.1 r.2) (sp_left_not_V r.1 r.2)
noncomputable def sp_expr_1_O (a0 : Parser) (a1 : Expr) : List O := [.var 49 [.ptr 1 0], .var 64 (ca a0)]
noncomputable def sp_expr_1_V (a0 : Parser) (a1 : Expr) : V := .agg (ca a1)
noncomputable def sp_expr_1_J (a0 : Parser) (r : (Parser × Expr)) : Prop := Has prog 25 [.one (.ptr 0 0)] [.var 49 [.ptr 1 0], .var 64 (ca a0)] (sp_expr_1_O r.1 r.2) (sp_expr_1_V r.1 r.2)
noncomputable def sp_expr_O (a0 : Parser) (a1 : Expr) : List O := [.var 64 (ca a0)]
noncomputable def sp_expr_V (a0 : Parser) (a1 : Expr) : V := .agg (ca a1)
noncomputable def sp_expr_J (a0 : Parser) (r : (Parser × Expr)) : Prop := Has prog 11 [.one (.ptr 0 0)] [.var 64 (ca a0)] (sp_expr_O r.1 r.2) (sp_expr_V r.1 r.2)
noncomputable def sp_left_expr_1_l2_K : List Item := stackAt (bodyOf f24) [1, 0, 1, 1, 0, 1, 0, 0] []
noncomputable def sp_left_expr_1_l2_S (a0 : Parser) (a1 : Expr) (a2 a3 : List Str) (a4 a5 : Int) : St := ⟨[(1, .one (.fn 25 [] [.ptr 1 0])), (2, .one (.fn 27 [.ptr 0 0] [])), (3, .one (.c (.sl 1 (Row.rows (α := Str) a2)))), (8, .one (.ptr 2 0)), (9, .one (.ptr 3 0)), (14, .one (.c (.sl 1 (Row.rows (α := Str) a3)))), (15, .one (.int .i64 a4)), (16, .one (.int .i64 a5))], [(0, .var 64 (ca a0)), (1, .var 49 [.ptr 0 0]), (2, .var 26 [.int .i64 0, .int .i64 0, .str [], .str [], .nil 6, .nil 10]), (3, .var 26 (ca a1))], 4, 30, 2⟩
noncomputable def sp_left_expr_1_l2_J (a0 : Parser) (a1 : Expr) (a2 a3 : List Str) (a4 a5 : Int) (r : (Parser × Expr)) : Prop := ∀ cx : Cx, AK prog cx sp_left_expr_1_l2_K (sp_left_expr_1_l2_S a0 a1 a2 a3 a4 a5) (Fin lay f24.results.toList 2 fun o v => o = sp_left_expr_1_O r.1 r.2 ∧ v = sp_left_expr_1_V r.1 r.2)
noncomputable def sp_left_expr_1_l1_K : List Item := stackAt (bodyOf f24) [1, 0, 1, 1] []
noncomputable def sp_left_expr_1_l1_S (a0 : Parser) (a1 : Expr) (a2 : List Str) : St := ⟨[(1, .one (.fn 25 [] [.ptr 1 0])), (2, .one (.fn 27 [.ptr 0 0] [])), (3, .one (.c (.sl 1 (Row.rows (α := Str) a2)))), (8, .one (.ptr 2 0)), (9, .one (.ptr 3 0))], [(0, .var 64 (ca a0)), (1, .var 49 [.ptr 0 0]), (2, .var 26 [.int .i64 0, .int .i64 0, .str [], .str [], .nil 6, .nil 10]), (3, .var 26 (ca a1))], 4, 30, 2⟩
noncomputable def sp_left_expr_1_l1_J (a0 : Parser) (a1 : Expr) (a2 : List Str) (r : (Parser × Expr)) : Prop := ∀ cx : Cx, AK prog cx sp_left_expr_1_l1_K (sp_left_expr_1_l1_S a0 a1 a2) (Fin lay f24.results.toList 2 fun o v => o = sp_left_expr_1_O r.1 r.2 ∧ v = sp_left_expr_1_V r.1 r.2)
noncomputable def sp_column_j1_K : List Item := stackAt (bodyOf f100) [1, 1, 0, 1] []
noncomputable def sp_column_j1_S (a0 : Parser) (a1 : Str) (a2 : Bool) : St := ⟨[(0, .one (.ptr 0 0)), (2, .one (.ptr 1 0)), (3, .one (.str a1)), (12, .one (.bool a2))], [(0, .var 64 (ca a0)), (1, .var 26 [.int .i64 0, .int .i64 0, .str [], .str [], .nil 6, .nil 10])], 2, 37, 1⟩
noncomputable def sp_column_j1_J (a0 : Parser) (a1 : Str) (a2 : Bool) (r : (Parser × Expr)) : Prop := ∀ cx : Cx, AK prog cx sp_column_j1_K (sp_column_j1_S a0 a1 a2) (Fin lay f100.results.toList 1 fun o v => o = sp_column_O r.1 r.2 ∧ v = sp_column_V r.1 r.2)
noncomputable def sp_left_unary_l2_K : List Item := stackAt (bodyOf f24) [1, 0, 1, 1, 0, 1, 0, 0] []
noncomputable def sp_left_unary_l2_S (a0 : Parser) (a1 : Expr) (a2 a3 : List Str) (a4 a5 : Int) : St := ⟨[(1, .one (.fn 94 [.ptr 0 0] [])), (2, .one (.fn 44 [.ptr 0 0] [])), (3, .one (.c (.sl 1 (Row.rows (α := Str) a2)))), (8, .one (.ptr 1 0)), (9, .one (.ptr 2 0)), (14, .one (.c (.sl 1 (Row.rows (α := Str) a3)))), (15, .one (.int .i64 a4)), (16, .one (.int .i64 a5))], [(0, .var 64 (ca a0)), (1, .var 26 [.int .i64 0, .int .i64 0, .str [], .str [], .nil 6, .nil 10]), (2, .var 26 (ca a1))], 3, 30, 1⟩
noncomputable def sp_left_unary_l2_J (a0 : Parser) (a1 : Expr) (a2 a3 : List Str) (a4 a5 : Int) (r : (Parser × Expr)) : Prop := ∀ cx : Cx, AK prog cx sp_left_unary_l2_K (sp_left_unary_l2_S a0 a1 a2 a3 a4 a5) (Fin lay f24.results.toList 1 fun o v => o = sp_left_unary_O r.1 r.2 ∧ v = sp_left_unary_V r.1 r.2)
noncomputable def sp_left_unary_l1_K : List Item := stackAt (bodyOf f24) [1, 0, 1, 1] []
noncomputable def sp_left_unary_l1_S (a0 : Parser) (a1 : Expr) (a2 : List Str) : St := ⟨[(1, .one (.fn 94 [.ptr 0 0] [])), (2, .one (.fn 44 [.ptr 0 0] [])), (3, .one (.c (.sl 1 (Row.rows (α := Str) a2)))), (8, .one (.ptr 1 0)), (9, .one (.ptr 2 0))], [(0, .var 64 (ca a0)), (1, .var 26 [.int .i64 0, .int .i64 0, .str [], .str [], .nil 6, .nil 10]), (2, .var 26 (ca a1))], 3, 30, 1⟩
noncomputable def sp_left_unary_l1_J (a0 : Parser) (a1 : Expr) (a2 : List Str) (r : (Parser × Expr)) : Prop := ∀ cx : Cx, AK prog cx sp_left_unary_l1_K (sp_left_unary_l1_S a0 a1 a2) (Fin lay f24.results.toList 1 fun o v => o = sp_left_unary_O r.1 r.2 ∧ v = sp_left_unary_V r.1 r.2)
noncomputable def sp_left_prod_l2_K : List Item := stackAt (bodyOf f24) [1, 0, 1, 1, 0, 1, 0, 0] []
noncomputable def sp_left_prod_l2_S (a0 : Parser) (a1 : Expr) (a2 a3 : List Str) (a4 a5 : Int) : St := ⟨[(1, .one (.fn 85 [.ptr 0 0] [])), (2, .one (.fn 44 [.ptr 0 0] [])), (3, .one (.c (.sl 1 (Row.rows (α := Str) a2)))), (8, .one (.ptr 1 0)), (9, .one (.ptr 2 0)), (14, .one (.c (.sl 1 (Row.rows (α := Str) a3)))), (15, .one (.int .i64 a4)), (16, .one (.int .i64 a5))], [(0, .var 64 (ca a0)), (1, .var 26 [.int .i64 0, .int .i64 0, .str [], .str [], .nil 6, .nil 10]), (2, .var 26 (ca a1))], 3, 30, 1⟩
noncomputable def sp_left_prod_l2_J (a0 : Parser) (a1 : Expr) (a2 a3 : List Str) (a4 a5 : Int) (r : (Parser × Expr)) : Prop := ∀ cx : Cx, AK prog cx sp_left_prod_l2_K (sp_left_prod_l2_S a0 a1 a2 a3 a4 a5) (Fin lay f24.results.toList 1 fun o v => o = sp_left_prod_O r.1 r.2 ∧ v = sp_left_prod_V r.1 r.2)
noncomputable def sp_left_prod_l1_K : List Item := stackAt (bodyOf f24) [1, 0, 1, 1] []
noncomputable def sp_left_prod_l1_S (a0 : Parser) (a1 : Expr) (a2 : List Str) : St := ⟨[(1, .one (.fn 85 [.ptr 0 0] [])), (2, .one (.fn 44 [.ptr 0 0] [])), (3, .one (.c (.sl 1 (Row.rows (α := Str) a2)))), (8, .one (.ptr 1 0)), (9, .one (.ptr 2 0))], [(0, .var 64 (ca a0)), (1, .var 26 [.int .i64 0, .int .i64 0, .str [], .str [], .nil 6, .nil 10]), (2, .var 26 (ca a1))], 3, 30, 1⟩
noncomputable def sp_left_prod_l1_J (a0 : Parser) (a1 : Expr) (a2 : List Str) (r : (Parser × Expr)) : Prop := ∀ cx : Cx, AK prog cx sp_left_prod_l1_K (sp_left_prod_l1_S a0 a1 a2) (Fin lay f24.results.toList 1 fun o v => o = sp_left_prod_O r.1 r.2 ∧ v = sp_left_prod_V r.1 r.2)
noncomputable def sp_query_j2_K : List Item := stackAt (bodyOf f16) [1, 1, 1, 1, 0, 0, 0, 1, 0, 1, 1] []
noncomputable def sp_query_j2_S (a0 : Parser) (a1 : Query) (a2 : Int) : St := ⟨[(0, .one (.ptr 0 0)), (2, .one (.ptr 1 0)), (4, .one (.ptr 2 0)), (5, .one (.int .i64 a2))], [(0, .var 64 (ca a0)), (1, .var 36 [.int .i64 0, .bool false, .nil 7, .nil 7, .nil 6, .nil 6, .nil 6, .nil 7, .int .i64 0, .nil 10]), (2, .var 36 (ca a1))], 3, 40, 1⟩
noncomputable def sp_query_j2_J (a0 : Parser) (a1 : Query) (a2 : Int) (r : (Parser × Query)) : Prop := ∀ cx : Cx, AK prog cx sp_query_j2_K (sp_query_j2_S a0 a1 a2) (Fin lay f16.results.toList 1 fun o v => o = sp_query_O r.1 r.2 ∧ v = sp_query_V r.1 r.2)
noncomputable def sp_query_l1_K : List Item := stackAt (bodyOf f16) [1, 1, 1, 1, 0, 0, 0] []
noncomputable def sp_query_l1_S (a0 : Parser) (a1 : Query) : St := ⟨[(0, .one (.ptr 0 0)), (2, .one (.ptr 1 0)), (4, .one (.ptr 2 0))], [(0, .var 64 (ca a0)), (1, .var 36 [.int .i64 0, .bool false, .nil 7, .nil 7, .nil 6, .nil 6, .nil 6, .nil 7, .int .i64 0, .nil 10]), (2, .var 36 (ca a1))], 3, 40, 1⟩
noncomputable def sp_query_l1_J (a0 : Parser) (a1 : Query) (r : (Parser × Query)) : Prop := ∀ cx : Cx, AK prog cx sp_query_l1_K (sp_query_l1_S a0 a1) (Fin lay f16.results.toList 1 fun o v => o = sp_query_O r.1 r.2 ∧ v = sp_query_V r.1 r.2)
noncomputable def syntax_list_m_l1_K : List Item := stackAt (bodyOf f47) [1, 1, 0, 0, 0] []
noncomputable def syntax_list_m_l1_S (a0 : Parser) (a1 : List ItemT) : St := ⟨[(0, .one (.ptr 0 0)), (1, .one (.fn 48 [.ptr 0 0] [])), (5, .one (.own 7 (Row.rows (α := ItemT) a1) 1))], [(0, .var 64 (ca a0)), (1, .row 86 7)], 2, 17, 1⟩
noncomputable def syntax_list_m_l1_J (a0 : Parser) (a1 : List ItemT) (r : (Parser × (List ItemT))) : Prop := ∀ cx : Cx, AK prog cx syntax_list_m_l1_K (syntax_list_m_l1_S a0 a1) (Fin lay f47.results.toList 1 fun o v => o = syntax_list_m_O r.1 r.2 ∧ v = syntax_list_m_V r.1 r.2)
noncomputable def sp_source_j2_K : List Item := stackAt (bodyOf f49) [1, 1, 0, 0, 0, 1, 0, 1, 1] []
noncomputable def sp_source_j2_S (a0 : Parser) (a1 : From) (a2 : Int) : St := ⟨[(0, .one (.ptr 0 0)), (2, .one (.ptr 1 0)), (3, .one (.ptr 2 0)), (4, .one (.int .i64 a2))], [(0, .var 64 (ca a0)), (1, .var 47 [.int .i64 0, .str [], .bool false, .str [], .nil 10, .nil 7, .nil 6]), (2, .var 47 (ca a1))], 3, 36, 1⟩
noncomputable def sp_source_j2_J (a0 : Parser) (a1 : From) (a2 : Int) (r : (Parser × From)) : Prop := ∀ cx : Cx, AK prog cx sp_source_j2_K (sp_source_j2_S a0 a1 a2) (Fin lay f49.results.toList 1 fun o v => o = sp_source_O r.1 r.2 ∧ v = sp_source_V r.1 r.2)
noncomputable def sp_source_l1_K : List Item := stackAt (bodyOf f49) [1, 1, 0, 0, 0] []
noncomputable def sp_source_l1_S (a0 : Parser) (a1 : From) : St := ⟨[(0, .one (.ptr 0 0)), (2, .one (.ptr 1 0)), (3, .one (.ptr 2 0))], [(0, .var 64 (ca a0)), (1, .var 47 [.int .i64 0, .str [], .bool false, .str [], .nil 10, .nil 7, .nil 6]), (2, .var 47 (ca a1))], 3, 36, 1⟩
noncomputable def sp_source_l1_J (a0 : Parser) (a1 : From) (r : (Parser × From)) : Prop := ∀ cx : Cx, AK prog cx sp_source_l1_K (sp_source_l1_S a0 a1) (Fin lay f49.results.toList 1 fun o v => o = sp_source_O r.1 r.2 ∧ v = sp_source_V r.1 r.2)
noncomputable def syntax_list_y_l1_K : List Item := stackAt (bodyOf f51) [1, 1, 0, 0, 0] []
noncomputable def syntax_list_y_l1_S (a0 : Parser) (a1 : List Key) : St := ⟨[(0, .one (.ptr 0 0)), (1, .one (.fn 52 [.ptr 0 0] [])), (5, .one (.own 7 (Row.rows (α := Key) a1) 1))], [(0, .var 64 (ca a0)), (1, .row 88 7)], 2, 17, 1⟩
noncomputable def syntax_list_y_l1_J (a0 : Parser) (a1 : List Key) (r : (Parser × (List Key))) : Prop := ∀ cx : Cx, AK prog cx syntax_list_y_l1_K (syntax_list_y_l1_S a0 a1) (Fin lay f51.results.toList 1 fun o v => o = syntax_list_y_O r.1 r.2 ∧ v = syntax_list_y_V r.1 r.2)
noncomputable def syntax_list_r_2_l1_K : List Item := stackAt (bodyOf f50) [1, 1, 0, 0, 0] []
noncomputable def syntax_list_r_2_l1_S (a0 : Parser) (a1 : List Expr) : St := ⟨[(0, .one (.ptr 0 0)), (1, .one (.fn 11 [.ptr 0 0] [])), (5, .one (.own 6 (Row.rows (α := Expr) a1) 1))], [(0, .var 64 (ca a0)), (1, .row 26 6)], 2, 17, 1⟩
noncomputable def syntax_list_r_2_l1_J (a0 : Parser) (a1 : List Expr) (r : (Parser × (List Expr))) : Prop := ∀ cx : Cx, AK prog cx syntax_list_r_2_l1_K (syntax_list_r_2_l1_S a0 a1) (Fin lay f50.results.toList 1 fun o v => o = syntax_list_r_2_O r.1 r.2 ∧ v = syntax_list_r_2_V r.1 r.2)
noncomputable def sp_part_j2_K : List Item := stackAt (bodyOf f30) [1, 1, 1, 1, 1, 1, 1] []
noncomputable def sp_part_j2_S (a0 : Parser) (a1 : Bool) (a2 : List ItemT) (a3 : List From) (a4 : List Expr) : St := ⟨[(0, .one (.ptr 0 0)), (2, .one (.ptr 1 0)), (4, .one (.ptr 2 0))], [(0, .var 64 (ca a0)), (1, .var 36 [.int .i64 0, .bool false, .nil 7, .nil 7, .nil 6, .nil 6, .nil 6, .nil 7, .int .i64 0, .nil 10]), (2, .var 36 [.int .i64 1, .bool a1, .c (.sl 7 (Row.rows (α := ItemT) a2)), .own 7 (Row.rows (α := From) a3) 3, .own 6 (Row.rows (α := Expr) a4) 4, .nil 6, .nil 6, .nil 7, .int .i64 (-1), .nil 10]), (3, .row 47 7), (4, .row 26 6)], 5, 64, 1⟩
noncomputable def sp_part_j2_J (a0 : Parser) (a1 : Bool) (a2 : List ItemT) (a3 : List From) (a4 : List Expr) (r : (Parser × Query)) : Prop := ∀ cx : Cx, AK prog cx sp_part_j2_K (sp_part_j2_S a0 a1 a2 a3 a4) (Fin lay f30.results.toList 1 fun o v => o = sp_part_O r.1 r.2 ∧ v = sp_part_V r.1 r.2)
noncomputable def sp_part_j1_K : List Item := stackAt (bodyOf f30) [1, 1, 1, 1, 1, 1] []
noncomputable def sp_part_j1_S (a0 : Parser) (a1 : Bool) (a2 : List ItemT) (a3 : List From) : St := ⟨[(0, .one (.ptr 0 0)), (2, .one (.ptr 1 0)), (4, .one (.ptr 2 0))], [(0, .var 64 (ca a0)), (1, .var 36 [.int .i64 0, .bool false, .nil 7, .nil 7, .nil 6, .nil 6, .nil 6, .nil 7, .int .i64 0, .nil 10]), (2, .var 36 [.int .i64 1, .bool a1, .c (.sl 7 (Row.rows (α := ItemT) a2)), .own 7 (Row.rows (α := From) a3) 3, .nil 6, .nil 6, .nil 6, .nil 7, .int .i64 (-1), .nil 10]), (3, .row 47 7)], 4, 64, 1⟩
noncomputable def sp_part_j1_J (a0 : Parser) (a1 : Bool) (a2 : List ItemT) (a3 : List From) (r : (Parser × Query)) : Prop := ∀ cx : Cx, AK prog cx sp_part_j1_K (sp_part_j1_S a0 a1 a2 a3) (Fin lay f30.results.toList 1 fun o v => o = sp_part_O r.1 r.2 ∧ v = sp_part_V r.1 r.2)
noncomputable def sp_left_not_l2_K : List Item := stackAt (bodyOf f24) [1, 0, 1, 1, 0, 1, 0, 0] []
noncomputable def sp_left_not_l2_S (a0 : Parser) (a1 : Expr) (a2 a3 : List Str) (a4 a5 : Int) : St := ⟨[(1, .one (.fn 26 [.ptr 0 0] [])), (2, .one (.fn 27 [.ptr 0 0] [])), (3, .one (.c (.sl 1 (Row.rows (α := Str) a2)))), (8, .one (.ptr 1 0)), (9, .one (.ptr 2 0)), (14, .one (.c (.sl 1 (Row.rows (α := Str) a3)))), (15, .one (.int .i64 a4)), (16, .one (.int .i64 a5))], [(0, .var 64 (ca a0)), (1, .var 26 [.int .i64 0, .int .i64 0, .str [], .str [], .nil 6, .nil 10]), (2, .var 26 (ca a1))], 3, 30, 1⟩
noncomputable def sp_left_not_l2_J (a0 : Parser) (a1 : Expr) (a2 a3 : List Str) (a4 a5 : Int) (r : (Parser × Expr)) : Prop := ∀ cx : Cx, AK prog cx sp_left_not_l2_K (sp_left_not_l2_S a0 a1 a2 a3 a4 a5) (Fin lay f24.results.toList 1 fun o v => o = sp_left_not_O r.1 r.2 ∧ v = sp_left_not_V r.1 r.2)
noncomputable def sp_left_not_l1_K : List Item := stackAt (bodyOf f24) [1, 0, 1, 1] []
noncomputable def sp_left_not_l1_S (a0 : Parser) (a1 : Expr) (a2 : List Str) : St := ⟨[(1, .one (.fn 26 [.ptr 0 0] [])), (2, .one (.fn 27 [.ptr 0 0] [])), (3, .one (.c (.sl 1 (Row.rows (α := Str) a2)))), (8, .one (.ptr 1 0)), (9, .one (.ptr 2 0))], [(0, .var 64 (ca a0)), (1, .var 26 [.int .i64 0, .int .i64 0, .str [], .str [], .nil 6, .nil 10]), (2, .var 26 (ca a1))], 3, 30, 1⟩
noncomputable def sp_left_not_l1_J (a0 : Parser) (a1 : Expr) (a2 : List Str) (r : (Parser × Expr)) : Prop := ∀ cx : Cx, AK prog cx sp_left_not_l1_K (sp_left_not_l1_S a0 a1 a2) (Fin lay f24.results.toList 1 fun o v => o = sp_left_not_O r.1 r.2 ∧ v = sp_left_not_V r.1 r.2)
structure Tab_sp_bracketed where
 k : Nat
 sp_bracketed : Parser → Option (Parser × Query)
 sp_cases : Parser → Option (Parser × Expr)
 sp_column : Parser → Option (Parser × Expr)
 sp_compared : Parser → Option (Parser × Expr)
 sp_expr : Parser → Option (Parser × Expr)
 sp_expr_1 : Parser → Option (Parser × Expr)
 sp_inner_not : Parser → Int → Option (Parser × Expr)
 sp_inner_unary : Parser → Int → Option (Parser × Expr)
 sp_item : Parser → Option (Parser × ItemT)
 sp_key : Parser → Option (Parser × Key)
 sp_left_expr_1 : Parser → (List Str) → Option (Parser × Expr)
 sp_left_expr_1_l1 : Parser → Expr → (List Str) → Option (Parser × Expr)
 sp_left_expr_1_l2 : Parser → Expr → (List Str) → (List Str) → Int → Int → Option (Parser × Expr)
 sp_left_not : Parser → (List Str) → Option (Parser × Expr)
 sp_left_not_l1 : Parser → Expr → (List Str) → Option (Parser × Expr)
 sp_left_not_l2 : Parser → Expr → (List Str) → (List Str) → Int → Int → Option (Parser × Expr)
 sp_left_prod : Parser → (List Str) → Option (Parser × Expr)
 sp_left_prod_l1 : Parser → Expr → (List Str) → Option (Parser × Expr)
 sp_left_prod_l2 : Parser → Expr → (List Str) → (List Str) → Int → Int → Option (Parser × Expr)
 sp_left_unary : Parser → (List Str) → Option (Parser × Expr)
 sp_left_unary_l1 : Parser → Expr → (List Str) → Option (Parser × Expr)
 sp_left_unary_l2 : Parser → Expr → (List Str) → (List Str) → Int → Int → Option (Parser × Expr)
 sp_not : Parser → Option (Parser × Expr)
 sp_part : Parser → Option (Parser × Query)
 sp_prim : Parser → Option (Parser × Expr)
 sp_prod : Parser → Option (Parser × Expr)
 sp_query : Parser → Option (Parser × Query)
 sp_query_l1 : Parser → Query → Option (Parser × Query)
 sp_round : Parser → Option (Parser × Expr)
 sp_single : Parser → Option (Parser × From)
 sp_source : Parser → Option (Parser × From)
 sp_source_l1 : Parser → From → Option (Parser × From)
 sp_sum : Parser → Option (Parser × Expr)
 sp_unary : Parser → Option (Parser × Expr)
 syntax_list_m : Parser → Option (Parser × (List ItemT))
 syntax_list_m_l1 : Parser → (List ItemT) → Option (Parser × (List ItemT))
 syntax_list_r_2 : Parser → Option (Parser × (List Expr))
 syntax_list_r_2_l1 : Parser → (List Expr) → Option (Parser × (List Expr))
 syntax_list_y : Parser → Option (Parser × (List Key))
 syntax_list_y_l1 : Parser → (List Key) → Option (Parser × (List Key))
noncomputable def sp_bracketed_b (T : Tab_sp_bracketed) (a0 : Parser) : Option (Parser × Query) :=
 (sp_need a0 s_x28).bind fun r1 =>
 (T.sp_query r1).bind fun (r2, r3) =>
 (sp_need r2 s_x29).bind fun r4 =>
 some (r4, r3)
noncomputable def sp_cases_b (T : Tab_sp_bracketed) (a0 : Parser) : Option (Parser × Expr) :=
 (sp_must a0 s_when).bind fun r1 =>
 (T.sp_expr r1).bind fun (r2, r3) =>
 (sp_must r2 s_then).bind fun r4 =>
 (T.sp_expr r4).bind fun (r5, r6) =>
 (sp_must r5 s_else).bind fun r7 =>
 (T.sp_expr r7).bind fun (r8, r9) =>
 (sp_must r8 s_end).bind fun r10 =>
 some (r10, (Expr.mk 11 0 [] [] [r3, r6, r9] []))
noncomputable def sp_column_j1_b (T : Tab_sp_bracketed) (a0 : Parser) (a1 : Str) (a2 : Bool) : Option (Parser × Expr) :=
 if a2 = true then (
  if a1 = s_count then (
   (sp_mark a0 s_x2a).bind fun (r1, r2) =>
   if r2 = true then (
    sp_column_j2 r1 a1 []
   ) else (
    (T.sp_expr r1).bind fun (r3, r4) =>
    sp_column_j2 r3 a1 [r4]
   )
  ) else (
   (T.sp_expr a0).bind fun (r1, r2) =>
   sp_column_j2 r1 a1 [r2]
  )
 ) else (
  (sp_mark a0 s_x2e).bind fun (r1, r2) =>
  if r2 = true then (
   (sp_name r1).bind fun (r3, r4) =>
   some (r3, (Expr.mk 5 0 r4 a1 [] []))
  ) else (
   some (r1, (Expr.mk 5 0 a1 [] [] []))
  )
 )
noncomputable def sp_column_b (T : Tab_sp_bracketed) (a0 : Parser) : Option (Parser × Expr) :=
 (sp_name a0).bind fun (r1, r2) =>
 (syntax_gathers r2).bind fun r3 =>
 if r3 = true then (
  (sp_mark r1 s_x28).bind fun (r4, r5) =>
  sp_column_j1_b T r4 r2 r5
 ) else (
  sp_column_j1_b T r1 r2 false
 )
noncomputable def sp_compared_b (T : Tab_sp_bracketed) (a0 : Parser) : Option (Parser × Expr) :=
 (T.sp_sum a0).bind fun (r1, r2) =>
 (sp_mark r1 s_x3d).bind fun (r3, r4) =>
 if r4 = true then (
  (T.sp_sum r3).bind fun (r5, r6) =>
  (syntax_bin s_x3d r2 r6).bind fun r7 =>
  some (r5, r7)
 ) else (
  (sp_mark r3 s_x3cx3e).bind fun (r5, r6) =>
  if r6 = true then (
   (T.sp_sum r5).bind fun (r7, r8) =>
   (syntax_bin s_x3cx3e r2 r8).bind fun r9 =>
   some (r7, r9)
  ) else (
   (sp_mark r5 s_x3c).bind fun (r7, r8) =>
   if r8 = true then (
    (T.sp_sum r7).bind fun (r9, r10) =>
    (syntax_bin s_x3c r2 r10).bind fun r11 =>
    some (r9, r11)
   ) else (
    (sp_mark r7 s_x3cx3d).bind fun (r9, r10) =>
    if r10 = true then (
     (T.sp_sum r9).bind fun (r11, r12) =>
     (syntax_bin s_x3cx3d r2 r12).bind fun r13 =>
     some (r11, r13)
    ) else (
     (sp_mark r9 s_x3e).bind fun (r11, r12) =>
     if r12 = true then (
      (T.sp_sum r11).bind fun (r13, r14) =>
      (syntax_bin s_x3e r2 r14).bind fun r15 =>
      some (r13, r15)
     ) else (
      (sp_mark r11 s_x3ex3d).bind fun (r13, r14) =>
      if r14 = true then (
       (T.sp_sum r13).bind fun (r15, r16) =>
       (syntax_bin s_x3ex3d r2 r16).bind fun r17 =>
       some (r15, r17)
      ) else (
       (sp_word r13 s_is).bind fun (r15, r16) =>
       if r16 = true then (
        (sp_word r15 s_not).bind fun (r17, r18) =>
        if r18 = true then (
         sp_compared_j1 r17 1 [r2]
        ) else (
         sp_compared_j1 r17 0 [r2]
        )
       ) else (
        (sp_word r15 s_not).bind fun (r17, r18) =>
        if r18 = true then (
         (sp_must r17 s_in).bind fun r19 =>
         (T.sp_bracketed r19).bind fun (r20, r21) =>
         some (r20, (Expr.mk 13 1 [] [] [r2] [r21]))
        ) else (
         (sp_word r17 s_in).bind fun (r19, r20) =>
         if r20 = true then (
          (T.sp_bracketed r19).bind fun (r21, r22) =>
          some (r21, (Expr.mk 13 0 [] [] [r2] [r22]))
         ) else (
          some (r19, r2)
         )
        )
       )
      )
     )
    )
   )
  )
 )
noncomputable def sp_expr_b (T : Tab_sp_bracketed) (a0 : Parser) : Option (Parser × Expr) :=
 (sp_enter a0).bind fun (r1, r2) =>
 if r2 = true then (
  (T.sp_left_expr_1 r1 [s_or]).bind fun (r3, r4) =>
  (sp_leave r3).bind fun r5 =>
  some (r5, r4)
 ) else (
  some (r1, (Expr.mk 0 0 [] [] [] []))
 )
noncomputable def sp_expr_1_b (T : Tab_sp_bracketed) (a0 : Parser) : Option (Parser × Expr) :=
 (T.sp_left_not a0 [s_and]).bind fun (r1, r2) =>
 some (r1, r2)
noncomputable def sp_inner_not_b (T : Tab_sp_bracketed) (a0 : Parser) (a1 : Int) : Option (Parser × Expr) :=
 (sp_enter a0).bind fun (r1, r2) =>
 if r2 = true then (
  (T.sp_not r1).bind fun (r3, r4) =>
  (sp_leave r3).bind fun r5 =>
  some (r5, (Expr.mk a1 0 [] [] [r4] []))
 ) else (
  some (r1, (Expr.mk 0 0 [] [] [] []))
 )
noncomputable def sp_inner_unary_b (T : Tab_sp_bracketed) (a0 : Parser) (a1 : Int) : Option (Parser × Expr) :=
 (sp_enter a0).bind fun (r1, r2) =>
 if r2 = true then (
  (T.sp_unary r1).bind fun (r3, r4) =>
  (sp_leave r3).bind fun r5 =>
  some (r5, (Expr.mk a1 0 [] [] [r4] []))
 ) else (
  some (r1, (Expr.mk 0 0 [] [] [] []))
 )
noncomputable def sp_item_b (T : Tab_sp_bracketed) (a0 : Parser) : Option (Parser × ItemT) :=
 (T.sp_expr a0).bind fun (r1, r2) =>
 (sp_must r1 s_as).bind fun r3 =>
 (sp_name r3).bind fun (r4, r5) =>
 some (r4, (ItemT.mk r2 r5))
noncomputable def sp_key_b (T : Tab_sp_bracketed) (a0 : Parser) : Option (Parser × Key) :=
 (T.sp_expr a0).bind fun (r1, r2) =>
 (sp_word r1 s_desc).bind fun (r3, r4) =>
 some (r3, (Key.mk r2 r4))
noncomputable def sp_left_expr_1_b (T : Tab_sp_bracketed) (a0 : Parser) (a1 : List Str) : Option (Parser × Expr) :=
 (T.sp_expr_1 a0).bind fun (r1, r2) =>
 T.sp_left_expr_1_l1 r1 r2 a1
noncomputable def sp_left_expr_1_l1_b (T : Tab_sp_bracketed) (a0 : Parser) (a1 : Expr) (a2 : List Str) : Option (Parser × Expr) :=
 T.sp_left_expr_1_l2 a0 a1 a2 a2 (a2.length : Int) 0
noncomputable def sp_left_expr_1_l2_b (T : Tab_sp_bracketed) (a0 : Parser) (a1 : Expr) (a2 a3 : List Str) (a4 a5 : Int) : Option (Parser × Expr) :=
 if a5 < a4 then (
  (idx a3 a5).bind fun x1 =>
  (sp_word a0 x1).bind fun (r2, r3) =>
  if r3 = true then (
   (T.sp_expr_1 r2).bind fun (r4, r5) =>
   (syntax_bin x1 a1 r5).bind fun r6 =>
   T.sp_left_expr_1_l1 r4 r6 a2
  ) else (
   T.sp_left_expr_1_l2 r2 a1 a2 a3 a4 (IntKind.i64.wrap (a5 + 1))
  )
 ) else (
  some (a0, a1)
 )
noncomputable def sp_left_not_b (T : Tab_sp_bracketed) (a0 : Parser) (a1 : List Str) : Option (Parser × Expr) :=
 (T.sp_not a0).bind fun (r1, r2) =>
 T.sp_left_not_l1 r1 r2 a1
noncomputable def sp_left_not_l1_b (T : Tab_sp_bracketed) (a0 : Parser) (a1 : Expr) (a2 : List Str) : Option (Parser × Expr) :=
 T.sp_left_not_l2 a0 a1 a2 a2 (a2.length : Int) 0
noncomputable def sp_left_not_l2_b (T : Tab_sp_bracketed) (a0 : Parser) (a1 : Expr) (a2 a3 : List Str) (a4 a5 : Int) : Option (Parser × Expr) :=
 if a5 < a4 then (
  (idx a3 a5).bind fun x1 =>
  (sp_word a0 x1).bind fun (r2, r3) =>
  if r3 = true then (
   (T.sp_not r2).bind fun (r4, r5) =>
   (syntax_bin x1 a1 r5).bind fun r6 =>
   T.sp_left_not_l1 r4 r6 a2
  ) else (
   T.sp_left_not_l2 r2 a1 a2 a3 a4 (IntKind.i64.wrap (a5 + 1))
  )
 ) else (
  some (a0, a1)
 )
noncomputable def sp_left_prod_b (T : Tab_sp_bracketed) (a0 : Parser) (a1 : List Str) : Option (Parser × Expr) :=
 (T.sp_prod a0).bind fun (r1, r2) =>
 T.sp_left_prod_l1 r1 r2 a1
noncomputable def sp_left_prod_l1_b (T : Tab_sp_bracketed) (a0 : Parser) (a1 : Expr) (a2 : List Str) : Option (Parser × Expr) :=
 T.sp_left_prod_l2 a0 a1 a2 a2 (a2.length : Int) 0
noncomputable def sp_left_prod_l2_b (T : Tab_sp_bracketed) (a0 : Parser) (a1 : Expr) (a2 a3 : List Str) (a4 a5 : Int) : Option (Parser × Expr) :=
 if a5 < a4 then (
  (idx a3 a5).bind fun x1 =>
  (sp_mark a0 x1).bind fun (r2, r3) =>
  if r3 = true then (
   (T.sp_prod r2).bind fun (r4, r5) =>
   (syntax_bin x1 a1 r5).bind fun r6 =>
   T.sp_left_prod_l1 r4 r6 a2
  ) else (
   T.sp_left_prod_l2 r2 a1 a2 a3 a4 (IntKind.i64.wrap (a5 + 1))
  )
 ) else (
  some (a0, a1)
 )
noncomputable def sp_left_unary_b (T : Tab_sp_bracketed) (a0 : Parser) (a1 : List Str) : Option (Parser × Expr) :=
 (T.sp_unary a0).bind fun (r1, r2) =>
 T.sp_left_unary_l1 r1 r2 a1
noncomputable def sp_left_unary_l1_b (T : Tab_sp_bracketed) (a0 : Parser) (a1 : Expr) (a2 : List Str) : Option (Parser × Expr) :=
 T.sp_left_unary_l2 a0 a1 a2 a2 (a2.length : Int) 0
noncomputable def sp_left_unary_l2_b (T : Tab_sp_bracketed) (a0 : Parser) (a1 : Expr) (a2 a3 : List Str) (a4 a5 : Int) : Option (Parser × Expr) :=
 if a5 < a4 then (
  (idx a3 a5).bind fun x1 =>
  (sp_mark a0 x1).bind fun (r2, r3) =>
  if r3 = true then (
   (T.sp_unary r2).bind fun (r4, r5) =>
   (syntax_bin x1 a1 r5).bind fun r6 =>
   T.sp_left_unary_l1 r4 r6 a2
  ) else (
   T.sp_left_unary_l2 r2 a1 a2 a3 a4 (IntKind.i64.wrap (a5 + 1))
  )
 ) else (
  some (a0, a1)
 )
noncomputable def sp_not_b (T : Tab_sp_bracketed) (a0 : Parser) : Option (Parser × Expr) :=
 (sp_word a0 s_not).bind fun (r1, r2) =>
 if r2 = true then (
  (T.sp_inner_not r1 8).bind fun (r3, r4) =>
  some (r3, r4)
 ) else (
  (T.sp_compared r1).bind fun (r3, r4) =>
  some (r3, r4)
 )
noncomputable def sp_part_j2_b (T : Tab_sp_bracketed) (a0 : Parser) (a1 : Bool) (a2 : List ItemT) (a3 : List From) (a4 : List Expr) : Option (Parser × Query) :=
 (sp_word a0 s_group).bind fun (r1, r2) =>
 if r2 = true then (
  (sp_must r1 s_by).bind fun r3 =>
  (T.syntax_list_r_2 r3).bind fun (r4, r5) =>
  (sp_word r4 s_having).bind fun (r6, r7) =>
  if r7 = true then (
   (T.sp_expr r6).bind fun (r8, r9) =>
   (sp_word r8 s_order).bind fun (r10, r11) =>
   if r11 = true then (
    (sp_must r10 s_by).bind fun r12 =>
    (T.syntax_list_y r12).bind fun (r13, r14) =>
    (sp_word r13 s_limit).bind fun (r15, r16) =>
    if r16 = true then (
     (sp_number r15).bind fun (r17, r18) =>
     some (r17, (Query.mk 1 a1 a2 a3 a4 r5 [r9] r14 r18 []))
    ) else (
     some (r15, (Query.mk 1 a1 a2 a3 a4 r5 [r9] r14 (-1) []))
    )
   ) else (
    (sp_word r10 s_limit).bind fun (r12, r13) =>
    if r13 = true then (
     (sp_number r12).bind fun (r14, r15) =>
     some (r14, (Query.mk 1 a1 a2 a3 a4 r5 [r9] [] r15 []))
    ) else (
     some (r12, (Query.mk 1 a1 a2 a3 a4 r5 [r9] [] (-1) []))
    )
   )
  ) else (
   (sp_word r6 s_order).bind fun (r8, r9) =>
   if r9 = true then (
    (sp_must r8 s_by).bind fun r10 =>
    (T.syntax_list_y r10).bind fun (r11, r12) =>
    (sp_word r11 s_limit).bind fun (r13, r14) =>
    if r14 = true then (
     (sp_number r13).bind fun (r15, r16) =>
     some (r15, (Query.mk 1 a1 a2 a3 a4 r5 [] r12 r16 []))
    ) else (
     some (r13, (Query.mk 1 a1 a2 a3 a4 r5 [] r12 (-1) []))
    )
   ) else (
    (sp_word r8 s_limit).bind fun (r10, r11) =>
    if r11 = true then (
     (sp_number r10).bind fun (r12, r13) =>
     some (r12, (Query.mk 1 a1 a2 a3 a4 r5 [] [] r13 []))
    ) else (
     some (r10, (Query.mk 1 a1 a2 a3 a4 r5 [] [] (-1) []))
    )
   )
  )
 ) else (
  (sp_word r1 s_order).bind fun (r3, r4) =>
  if r4 = true then (
   (sp_must r3 s_by).bind fun r5 =>
   (T.syntax_list_y r5).bind fun (r6, r7) =>
   (sp_word r6 s_limit).bind fun (r8, r9) =>
   if r9 = true then (
    (sp_number r8).bind fun (r10, r11) =>
    some (r10, (Query.mk 1 a1 a2 a3 a4 [] [] r7 r11 []))
   ) else (
    some (r8, (Query.mk 1 a1 a2 a3 a4 [] [] r7 (-1) []))
   )
  ) else (
   (sp_word r3 s_limit).bind fun (r5, r6) =>
   if r6 = true then (
    (sp_number r5).bind fun (r7, r8) =>
    some (r7, (Query.mk 1 a1 a2 a3 a4 [] [] [] r8 []))
   ) else (
    some (r5, (Query.mk 1 a1 a2 a3 a4 [] [] [] (-1) []))
   )
  )
 )
noncomputable def sp_part_j1_b (T : Tab_sp_bracketed) (a0 : Parser) (a1 : Bool) (a2 : List ItemT) (a3 : List From) : Option (Parser × Query) :=
 (sp_word a0 s_where).bind fun (r1, r2) =>
 if r2 = true then (
  (T.sp_expr r1).bind fun (r3, r4) =>
  sp_part_j2_b T r3 a1 a2 a3 [r4]
 ) else (
  sp_part_j2_b T r1 a1 a2 a3 []
 )
noncomputable def sp_part_b (T : Tab_sp_bracketed) (a0 : Parser) : Option (Parser × Query) :=
 (sp_mark a0 s_x28).bind fun (r1, r2) =>
 if r2 = true then (
  (T.sp_query r1).bind fun (r3, r4) =>
  (sp_need r3 s_x29).bind fun r5 =>
  some (r5, r4)
 ) else (
  (sp_must r1 s_select).bind fun r3 =>
  (sp_word r3 s_distinct).bind fun (r4, r5) =>
  (T.syntax_list_m r4).bind fun (r6, r7) =>
  (sp_word r6 s_from).bind fun (r8, r9) =>
  if r9 = true then (
   (T.sp_source r8).bind fun (r10, r11) =>
   sp_part_j1_b T r10 r5 r7 [r11]
  ) else (
   sp_part_j1_b T r8 r5 r7 []
  )
 )
noncomputable def sp_prim_b (T : Tab_sp_bracketed) (a0 : Parser) : Option (Parser × Expr) :=
 if a0.e = 0 then (
  (sp_now a0).bind fun r1 =>
  if r1.Kind = 2 then (
   (sp_next a0).bind fun r2 =>
   some (r2, (Expr.mk 3 r1.N [] [] [] []))
  ) else (
   if r1.Kind = 3 then (
    (sp_next a0).bind fun r2 =>
    some (r2, (Expr.mk 4 0 r1.Text [] [] []))
   ) else (
    (sp_word a0 s_null).bind fun (r2, r3) =>
    if r3 = true then (
     some (r2, (Expr.mk 1 0 [] [] [] []))
    ) else (
     (sp_word r2 s_true).bind fun (r4, r5) =>
     if r5 = true then (
      some (r4, (Expr.mk 2 1 [] [] [] []))
     ) else (
      (sp_word r4 s_false).bind fun (r6, r7) =>
      if r7 = true then (
       some (r6, (Expr.mk 2 0 [] [] [] []))
      ) else (
       (sp_mark r6 s_x3a).bind fun (r8, r9) =>
       if r9 = true then (
        (sp_name r8).bind fun (r10, r11) =>
        some (r10, (Expr.mk 6 0 r11 [] [] []))
       ) else (
        (sp_word r8 s_case).bind fun (r10, r11) =>
        if r11 = true then (
         (T.sp_cases r10).bind fun (r12, r13) =>
         some (r12, r13)
        ) else (
         (sp_word r10 s_exists).bind fun (r12, r13) =>
         if r13 = true then (
          (T.sp_bracketed r12).bind fun (r14, r15) =>
          some (r14, (Expr.mk 12 0 [] [] [] [r15]))
         ) else (
          (sp_mark r12 s_x28).bind fun (r14, r15) =>
          if r15 = true then (
           (T.sp_round r14).bind fun (r16, r17) =>
           some (r16, r17)
          ) else (
           (T.sp_column r14).bind fun (r16, r17) =>
           some (r16, r17)
          )
         )
        )
       )
      )
     )
    )
   )
  )
 ) else (
  some (a0, (Expr.mk 0 0 [] [] [] []))
 )
noncomputable def sp_prod_b (T : Tab_sp_bracketed) (a0 : Parser) : Option (Parser × Expr) :=
 (T.sp_left_unary a0 [s_x2a, s_x2f, s_x25]).bind fun (r1, r2) =>
 some (r1, r2)
noncomputable def sp_query_b (T : Tab_sp_bracketed) (a0 : Parser) : Option (Parser × Query) :=
 (sp_enter a0).bind fun (r1, r2) =>
 if r2 = true then (
  (T.sp_part r1).bind fun (r3, r4) =>
  T.sp_query_l1 r3 r4
 ) else (
  some (r1, (Query.mk 0 false [] [] [] [] [] [] 0 []))
 )
noncomputable def sp_query_j2_b (T : Tab_sp_bracketed) (a0 : Parser) (a1 : Query) (a2 : Int) : Option (Parser × Query) :=
 if a2 = 0 then (
  (sp_leave a0).bind fun r1 =>
  some (r1, a1)
 ) else (
  (T.sp_part a0).bind fun (r1, r2) =>
  T.sp_query_l1 r1 (Query.mk a2 false [] [] [] [] [] [] (-1) [a1, r2])
 )
noncomputable def sp_query_l1_b (T : Tab_sp_bracketed) (a0 : Parser) (a1 : Query) : Option (Parser × Query) :=
 if a0.e = 0 then (
  (sp_word a0 s_union).bind fun (r1, r2) =>
  if r2 = true then (
   (sp_word r1 s_all).bind fun (r3, r4) =>
   if r4 = true then (
    sp_query_j2_b T r3 a1 3
   ) else (
    sp_query_j2_b T r3 a1 2
   )
  ) else (
   (sp_word r1 s_except).bind fun (r3, r4) =>
   if r4 = true then (
    sp_query_j2_b T r3 a1 4
   ) else (
    (sp_word r3 s_intersect).bind fun (r5, r6) =>
    if r6 = true then (
     sp_query_j2_b T r5 a1 5
    ) else (
     sp_query_j2_b T r5 a1 0
    )
   )
  )
 ) else (
  (sp_leave a0).bind fun r1 =>
  some (r1, a1)
 )
noncomputable def sp_round_b (T : Tab_sp_bracketed) (a0 : Parser) : Option (Parser × Expr) :=
 (sp_sees a0 1 s_select).bind fun r1 =>
 if r1 = true then (
  (T.sp_query a0).bind fun (r2, r3) =>
  (sp_need r2 s_x29).bind fun r4 =>
  some (r4, (Expr.mk 14 0 [] [] [] [r3]))
 ) else (
  (T.sp_expr a0).bind fun (r2, r3) =>
  (sp_need r2 s_x29).bind fun r4 =>
  some (r4, r3)
 )
noncomputable def sp_single_b (T : Tab_sp_bracketed) (a0 : Parser) : Option (Parser × From) :=
 (sp_mark a0 s_x28).bind fun (r1, r2) =>
 if r2 = true then (
  (T.sp_query r1).bind fun (r3, r4) =>
  (sp_need r3 s_x29).bind fun r5 =>
  (sp_must r5 s_as).bind fun r6 =>
  (sp_name r6).bind fun (r7, r8) =>
  some (r7, (From.mk 2 [] false r8 [r4] [] []))
 ) else (
  (sp_name r1).bind fun (r3, r4) =>
  (sp_word r3 s_visible).bind fun (r5, r6) =>
  (sp_word r5 s_as).bind fun (r7, r8) =>
  if r8 = true then (
   (sp_name r7).bind fun (r9, r10) =>
   some (r9, (From.mk 1 r4 r6 r10 [] [] []))
  ) else (
   some (r7, (From.mk 1 r4 r6 r4 [] [] []))
  )
 )
noncomputable def sp_source_b (T : Tab_sp_bracketed) (a0 : Parser) : Option (Parser × From) :=
 (T.sp_single a0).bind fun (r1, r2) =>
 T.sp_source_l1 r1 r2
noncomputable def sp_source_j2_b (T : Tab_sp_bracketed) (a0 : Parser) (a1 : From) (a2 : Int) : Option (Parser × From) :=
 if a2 = 0 then (
  some (a0, a1)
 ) else (
  (T.sp_single a0).bind fun (r1, r2) =>
  (sp_must r1 s_on).bind fun r3 =>
  (T.sp_expr r3).bind fun (r4, r5) =>
  T.sp_source_l1 r4 (From.mk a2 [] false [] [] [a1, r2] [r5])
 )
noncomputable def sp_source_l1_b (T : Tab_sp_bracketed) (a0 : Parser) (a1 : From) : Option (Parser × From) :=
 if a0.e = 0 then (
  (sp_word a0 s_left).bind fun (r1, r2) =>
  if r2 = true then (
   (sp_must r1 s_join).bind fun r3 =>
   sp_source_j2_b T r3 a1 4
  ) else (
   (sp_word r1 s_join).bind fun (r3, r4) =>
   if r4 = true then (
    sp_source_j2_b T r3 a1 3
   ) else (
    sp_source_j2_b T r3 a1 0
   )
  )
 ) else (
  some (a0, a1)
 )
noncomputable def sp_sum_b (T : Tab_sp_bracketed) (a0 : Parser) : Option (Parser × Expr) :=
 (T.sp_left_prod a0 [s_x2b, s_x2d, s_x7cx7c]).bind fun (r1, r2) =>
 some (r1, r2)
noncomputable def sp_unary_b (T : Tab_sp_bracketed) (a0 : Parser) : Option (Parser × Expr) :=
 (sp_mark a0 s_x2d).bind fun (r1, r2) =>
 if r2 = true then (
  (T.sp_inner_unary r1 7).bind fun (r3, r4) =>
  some (r3, r4)
 ) else (
  (T.sp_prim r1).bind fun (r3, r4) =>
  some (r3, r4)
 )
noncomputable def syntax_list_m_b (T : Tab_sp_bracketed) (a0 : Parser) : Option (Parser × (List ItemT)) :=
 (T.sp_item a0).bind fun (r1, r2) =>
 T.syntax_list_m_l1 r1 [r2]
noncomputable def syntax_list_m_l1_b (T : Tab_sp_bracketed) (a0 : Parser) (a1 : List ItemT) : Option (Parser × (List ItemT)) :=
 (sp_mark a0 s_x2c).bind fun (r1, r2) =>
 if r2 = true then (
  (T.sp_item r1).bind fun (r3, r4) =>
  chk (CapOk 112 a1 [r4]) <|
  T.syntax_list_m_l1 r3 (a1 ++ [r4])
 ) else (
  some (r1, a1)
 )
noncomputable def syntax_list_r_2_b (T : Tab_sp_bracketed) (a0 : Parser) : Option (Parser × (List Expr)) :=
 (T.sp_expr a0).bind fun (r1, r2) =>
 T.syntax_list_r_2_l1 r1 [r2]
noncomputable def syntax_list_r_2_l1_b (T : Tab_sp_bracketed) (a0 : Parser) (a1 : List Expr) : Option (Parser × (List Expr)) :=
 (sp_mark a0 s_x2c).bind fun (r1, r2) =>
 if r2 = true then (
  (T.sp_expr r1).bind fun (r3, r4) =>
  chk (CapOk 96 a1 [r4]) <|
  T.syntax_list_r_2_l1 r3 (a1 ++ [r4])
 ) else (
  some (r1, a1)
 )
noncomputable def syntax_list_y_b (T : Tab_sp_bracketed) (a0 : Parser) : Option (Parser × (List Key)) :=
 (T.sp_key a0).bind fun (r1, r2) =>
 T.syntax_list_y_l1 r1 [r2]
noncomputable def syntax_list_y_l1_b (T : Tab_sp_bracketed) (a0 : Parser) (a1 : List Key) : Option (Parser × (List Key)) :=
 (sp_mark a0 s_x2c).bind fun (r1, r2) =>
 if r2 = true then (
  (T.sp_key r1).bind fun (r3, r4) =>
  chk (CapOk 104 a1 [r4]) <|
  T.syntax_list_y_l1 r3 (a1 ++ [r4])
 ) else (
  some (r1, a1)
 )
noncomputable def tab_sp_bracketed : Nat → Tab_sp_bracketed
 | 0 => ⟨0, fun _ => none, fun _ => none, fun _ => none, fun _ => none, fun _ => none, fun _ => none, fun _ _ => none, fun _ _ => none, fun _ => none, fun _ => none, fun _ _ => none, fun _ _ _ => none, fun _ _ _ _ _ _ => none, fun _ _ => none, fun _ _ _ => none, fun _ _ _ _ _ _ => none, fun _ _ => none, fun _ _ _ => none, fun _ _ _ _ _ _ => none, fun _ _ => none, fun _ _ _ => none, fun _ _ _ _ _ _ => none, fun _ => none, fun _ => none, fun _ => none, fun _ => none, fun _ => none, fun _ _ => none, fun _ => none, fun _ => none, fun _ => none, fun _ _ => none, fun _ => none, fun _ => none, fun _ => none, fun _ _ => none, fun _ => none, fun _ _ => none, fun _ => none, fun _ _ => none⟩
 | k + 1 => ⟨k + 1, sp_bracketed_b (tab_sp_bracketed k), sp_cases_b (tab_sp_bracketed k), sp_column_b (tab_sp_bracketed k), sp_compared_b (tab_sp_bracketed k), sp_expr_b (tab_sp_bracketed k), sp_expr_1_b (tab_sp_bracketed k), sp_inner_not_b (tab_sp_bracketed k), sp_inner_unary_b (tab_sp_bracketed k), sp_item_b (tab_sp_bracketed k), sp_key_b (tab_sp_bracketed k), sp_left_expr_1_b (tab_sp_bracketed k), sp_left_expr_1_l1_b (tab_sp_bracketed k), sp_left_expr_1_l2_b (tab_sp_bracketed k), sp_left_not_b (tab_sp_bracketed k), sp_left_not_l1_b (tab_sp_bracketed k), sp_left_not_l2_b (tab_sp_bracketed k), sp_left_prod_b (tab_sp_bracketed k), sp_left_prod_l1_b (tab_sp_bracketed k), sp_left_prod_l2_b (tab_sp_bracketed k), sp_left_unary_b (tab_sp_bracketed k), sp_left_unary_l1_b (tab_sp_bracketed k), sp_left_unary_l2_b (tab_sp_bracketed k), sp_not_b (tab_sp_bracketed k), sp_part_b (tab_sp_bracketed k), sp_prim_b (tab_sp_bracketed k), sp_prod_b (tab_sp_bracketed k), sp_query_b (tab_sp_bracketed k), sp_query_l1_b (tab_sp_bracketed k), sp_round_b (tab_sp_bracketed k), sp_single_b (tab_sp_bracketed k), sp_source_b (tab_sp_bracketed k), sp_source_l1_b (tab_sp_bracketed k), sp_sum_b (tab_sp_bracketed k), sp_unary_b (tab_sp_bracketed k), syntax_list_m_b (tab_sp_bracketed k), syntax_list_m_l1_b (tab_sp_bracketed k), syntax_list_r_2_b (tab_sp_bracketed k), syntax_list_r_2_l1_b (tab_sp_bracketed k), syntax_list_y_b (tab_sp_bracketed k), syntax_list_y_l1_b (tab_sp_bracketed k)⟩
noncomputable def sp_bracketed (k : Nat) := (tab_sp_bracketed k).sp_bracketed
noncomputable def sp_cases (k : Nat) := (tab_sp_bracketed k).sp_cases
noncomputable def sp_column (k : Nat) := (tab_sp_bracketed k).sp_column
noncomputable def sp_compared (k : Nat) := (tab_sp_bracketed k).sp_compared
noncomputable def sp_expr (k : Nat) := (tab_sp_bracketed k).sp_expr
noncomputable def sp_expr_1 (k : Nat) := (tab_sp_bracketed k).sp_expr_1
noncomputable def sp_inner_not (k : Nat) := (tab_sp_bracketed k).sp_inner_not
noncomputable def sp_inner_unary (k : Nat) := (tab_sp_bracketed k).sp_inner_unary
noncomputable def sp_item (k : Nat) := (tab_sp_bracketed k).sp_item
noncomputable def sp_key (k : Nat) := (tab_sp_bracketed k).sp_key
noncomputable def sp_left_expr_1 (k : Nat) := (tab_sp_bracketed k).sp_left_expr_1
noncomputable def sp_left_expr_1_l1 (k : Nat) := (tab_sp_bracketed k).sp_left_expr_1_l1
noncomputable def sp_left_expr_1_l2 (k : Nat) := (tab_sp_bracketed k).sp_left_expr_1_l2
noncomputable def sp_left_not (k : Nat) := (tab_sp_bracketed k).sp_left_not
noncomputable def sp_left_not_l1 (k : Nat) := (tab_sp_bracketed k).sp_left_not_l1
noncomputable def sp_left_not_l2 (k : Nat) := (tab_sp_bracketed k).sp_left_not_l2
noncomputable def sp_left_prod (k : Nat) := (tab_sp_bracketed k).sp_left_prod
noncomputable def sp_left_prod_l1 (k : Nat) := (tab_sp_bracketed k).sp_left_prod_l1
noncomputable def sp_left_prod_l2 (k : Nat) := (tab_sp_bracketed k).sp_left_prod_l2
noncomputable def sp_left_unary (k : Nat) := (tab_sp_bracketed k).sp_left_unary
noncomputable def sp_left_unary_l1 (k : Nat) := (tab_sp_bracketed k).sp_left_unary_l1
noncomputable def sp_left_unary_l2 (k : Nat) := (tab_sp_bracketed k).sp_left_unary_l2
noncomputable def sp_not (k : Nat) := (tab_sp_bracketed k).sp_not
noncomputable def sp_part (k : Nat) := (tab_sp_bracketed k).sp_part
noncomputable def sp_prim (k : Nat) := (tab_sp_bracketed k).sp_prim
noncomputable def sp_prod (k : Nat) := (tab_sp_bracketed k).sp_prod
noncomputable def sp_query (k : Nat) := (tab_sp_bracketed k).sp_query
noncomputable def sp_query_l1 (k : Nat) := (tab_sp_bracketed k).sp_query_l1
noncomputable def sp_round (k : Nat) := (tab_sp_bracketed k).sp_round
noncomputable def sp_single (k : Nat) := (tab_sp_bracketed k).sp_single
noncomputable def sp_source (k : Nat) := (tab_sp_bracketed k).sp_source
noncomputable def sp_source_l1 (k : Nat) := (tab_sp_bracketed k).sp_source_l1
noncomputable def sp_sum (k : Nat) := (tab_sp_bracketed k).sp_sum
noncomputable def sp_unary (k : Nat) := (tab_sp_bracketed k).sp_unary
noncomputable def syntax_list_m (k : Nat) := (tab_sp_bracketed k).syntax_list_m
noncomputable def syntax_list_m_l1 (k : Nat) := (tab_sp_bracketed k).syntax_list_m_l1
noncomputable def syntax_list_r_2 (k : Nat) := (tab_sp_bracketed k).syntax_list_r_2
noncomputable def syntax_list_r_2_l1 (k : Nat) := (tab_sp_bracketed k).syntax_list_r_2_l1
noncomputable def syntax_list_y (k : Nat) := (tab_sp_bracketed k).syntax_list_y
noncomputable def syntax_list_y_l1 (k : Nat) := (tab_sp_bracketed k).syntax_list_y_l1
structure Ok_sp_bracketed (m : Nat) : Prop where
 sp_bracketed : Sd1 (tab_sp_bracketed m).sp_bracketed sp_bracketed_J
 sp_cases : Sd1 (tab_sp_bracketed m).sp_cases sp_cases_J
 sp_column : Sd1 (tab_sp_bracketed m).sp_column sp_column_J
 sp_compared : Sd1 (tab_sp_bracketed m).sp_compared sp_compared_J
 sp_expr : Sd1 (tab_sp_bracketed m).sp_expr sp_expr_J
 sp_expr_1 : Sd1 (tab_sp_bracketed m).sp_expr_1 sp_expr_1_J
 sp_inner_not : Sd2 (tab_sp_bracketed m).sp_inner_not sp_inner_not_J
 sp_inner_unary : Sd2 (tab_sp_bracketed m).sp_inner_unary sp_inner_unary_J
 sp_item : Sd1 (tab_sp_bracketed m).sp_item sp_item_J
 sp_key : Sd1 (tab_sp_bracketed m).sp_key sp_key_J
 sp_left_expr_1 : Sd2 (tab_sp_bracketed m).sp_left_expr_1 sp_left_expr_1_J
 sp_left_expr_1_l1 : Sd3 (tab_sp_bracketed m).sp_left_expr_1_l1 sp_left_expr_1_l1_J
 sp_left_expr_1_l2 : Sd6 (tab_sp_bracketed m).sp_left_expr_1_l2 sp_left_expr_1_l2_J
 sp_left_not : Sd2 (tab_sp_bracketed m).sp_left_not sp_left_not_J
 sp_left_not_l1 : Sd3 (tab_sp_bracketed m).sp_left_not_l1 sp_left_not_l1_J
 sp_left_not_l2 : Sd6 (tab_sp_bracketed m).sp_left_not_l2 sp_left_not_l2_J
 sp_left_prod : Sd2 (tab_sp_bracketed m).sp_left_prod sp_left_prod_J
 sp_left_prod_l1 : Sd3 (tab_sp_bracketed m).sp_left_prod_l1 sp_left_prod_l1_J
 sp_left_prod_l2 : Sd6 (tab_sp_bracketed m).sp_left_prod_l2 sp_left_prod_l2_J
 sp_left_unary : Sd2 (tab_sp_bracketed m).sp_left_unary sp_left_unary_J
 sp_left_unary_l1 : Sd3 (tab_sp_bracketed m).sp_left_unary_l1 sp_left_unary_l1_J
 sp_left_unary_l2 : Sd6 (tab_sp_bracketed m).sp_left_unary_l2 sp_left_unary_l2_J
 sp_not : Sd1 (tab_sp_bracketed m).sp_not sp_not_J
 sp_part : Sd1 (tab_sp_bracketed m).sp_part sp_part_J
 sp_prim : Sd1 (tab_sp_bracketed m).sp_prim sp_prim_J
 sp_prod : Sd1 (tab_sp_bracketed m).sp_prod sp_prod_J
 sp_query : Sd1 (tab_sp_bracketed m).sp_query sp_query_J
 sp_query_l1 : Sd2 (tab_sp_bracketed m).sp_query_l1 sp_query_l1_J
 sp_round : Sd1 (tab_sp_bracketed m).sp_round sp_round_J
 sp_single : Sd1 (tab_sp_bracketed m).sp_single sp_single_J
 sp_source : Sd1 (tab_sp_bracketed m).sp_source sp_source_J
 sp_source_l1 : Sd2 (tab_sp_bracketed m).sp_source_l1 sp_source_l1_J
 sp_sum : Sd1 (tab_sp_bracketed m).sp_sum sp_sum_J
 sp_unary : Sd1 (tab_sp_bracketed m).sp_unary sp_unary_J
 syntax_list_m : Sd1 (tab_sp_bracketed m).syntax_list_m syntax_list_m_J
 syntax_list_m_l1 : Sd2 (tab_sp_bracketed m).syntax_list_m_l1 syntax_list_m_l1_J
 syntax_list_r_2 : Sd1 (tab_sp_bracketed m).syntax_list_r_2 syntax_list_r_2_J
 syntax_list_r_2_l1 : Sd2 (tab_sp_bracketed m).syntax_list_r_2_l1 syntax_list_r_2_l1_J
 syntax_list_y : Sd1 (tab_sp_bracketed m).syntax_list_y syntax_list_y_J
 syntax_list_y_l1 : Sd2 (tab_sp_bracketed m).syntax_list_y_l1 syntax_list_y_l1_J
theorem sp_bracketed_okb {m : Nat} (ih : Ok_sp_bracketed m) : Sd1 (sp_bracketed_b (tab_sp_bracketed m)) sp_bracketed_J := by
 intro a0 r h
 unfold sp_bracketed_b at h
 refine ent (c := bodyOf f69) func69 rfl rfl rfl fun cx => ?_
 obtain ⟨r1, h1, h⟩ := bs h fun _ => sp_need_ok
 obtain ⟨⟨r2, r3⟩, h2, h⟩ := bs h fun _ => ih.sp_query
 obtain ⟨r4, h3, h⟩ := bs h fun _ => sp_need_ok
 obtain rfl := Option.some.inj h
 exact rr 12 [(1, .reg [(1, cl [0] h1)] []), (2, .reg [(1, cl [0] h2)] []), (3, .reg [(1, cl [0] h3)] [])] [] [(0, 0)] 1 [pf h1, pf h2, pf h3]
theorem sp_cases_okb {m : Nat} (ih : Ok_sp_bracketed m) : Sd1 (sp_cases_b (tab_sp_bracketed m)) sp_cases_J := by
 intro a0 r h
 unfold sp_cases_b at h
 refine ent (c := bodyOf f98) func98 rfl rfl rfl fun cx => ?_
 obtain ⟨r1, h1, h⟩ := bs h fun _ => sp_must_ok
 obtain ⟨⟨r2, r3⟩, h2, h⟩ := bs h fun _ => ih.sp_expr
 obtain ⟨r4, h3, h⟩ := bs h fun _ => sp_must_ok
 obtain ⟨⟨r5, r6⟩, h4, h⟩ := bs h fun _ => ih.sp_expr
 obtain ⟨r7, h5, h⟩ := bs h fun _ => sp_must_ok
 obtain ⟨⟨r8, r9⟩, h6, h⟩ := bs h fun _ => ih.sp_expr
 obtain ⟨r10, h7, h⟩ := bs h fun _ => sp_must_ok
 obtain rfl := Option.some.inj h
 exact rr 20 [(1, .reg [(1, cl [0] h1)] []), (2, .reg [(1, cl [0] h2)] []), (3, .reg [(1, cl [0] h3)] []), (4, .reg [(1, cl [0] h4)] []), (5, .reg [(1, cl [0] h5)] []), (6, .reg [(1, cl [0] h6)] []), (7, .reg [(1, cl [0] h7)] []), (8, .reg [] [(3, .one (.own 6 (Row.rows (α := Expr) [r3, r6, r9]) 385))])] [] [(0, 0)] 1 [pf h1, pf h2, pf h3, pf h4, pf h5, pf h6, pf h7, @pf (BldP (α := Expr) [r3, r6, r9] 385) (bldP _ _)]
theorem sp_column_j1_okb {m : Nat} (ih : Ok_sp_bracketed m) : Sd3 (sp_column_j1_b (tab_sp_bracketed m)) sp_column_j1_J := by
 intro a0 a1 a2 r h cx
 unfold sp_column_j1_b at h
 obtain ⟨h1, h⟩ | ⟨h1, h⟩ := ite_some h
 · obtain ⟨h2, h⟩ | ⟨h2, h⟩ := ite_some h
   · obtain ⟨⟨r1, r2⟩, h3, h⟩ := bs h fun _ => sp_mark_ok
     obtain ⟨h4, h⟩ | ⟨h4, h⟩ := ite_some h
     · exact tt 8 [(0, .br true), (2, .reg [(4, cl [0] h3)] [(2, .bool false)]), (3, .br false)] [.cellOwn 34 4 178 26] [0, 2, 4] [(0, 0), (1, 1), (34, 2), (178, 3)] 4 [pf (bt h1), pf (ndf h2), pf h3, pf (nbf h4)] (sp_column_j2_ok h cx)
     · obtain ⟨⟨r3, r4⟩, h5, h⟩ := bs h fun _ => ih.sp_expr
       exact tt 8 [(0, .br true), (2, .reg [(4, cl [0] h3)] [(2, .bool false)]), (3, .br true), (4, .reg [(1, cl [0] h5)] [(2, .one (.own 6 (Row.rows (α := Expr) [r4]) 210))])] [] [0, 2, 4] [(0, 0), (1, 1), (34, 2), (210, 3)] 4 [pf (bt h1), pf (ndf h2), pf h3, pf (nbt h4), pf h5, @pf (BldP (α := Expr) [r4] 210) (bldP _ _)] (sp_column_j2_ok h cx)
   · obtain ⟨⟨r1, r2⟩, h3, h⟩ := bs h fun _ => ih.sp_expr
     exact tt 8 [(0, .br true), (2, .reg [] [(2, .bool true)]), (4, .reg [(1, cl [0] h3)] [(2, .one (.own 6 (Row.rows (α := Expr) [r2]) 210))])] [] [0, 2, 4] [(0, 0), (1, 1), (34, 2), (210, 3)] 4 [pf (bt h1), pf (ndt h2), pf h3, @pf (BldP (α := Expr) [r2] 210) (bldP _ _)] (sp_column_j2_ok h cx)
 · obtain ⟨⟨r1, r2⟩, h2, h⟩ := bs h fun _ => sp_mark_ok
   obtain ⟨h3, h⟩ | ⟨h3, h⟩ := ite_some h
   · obtain ⟨⟨r3, r4⟩, h4, h⟩ := bs h fun _ => sp_name_ok
     obtain rfl := Option.some.inj h
     exact rr 10 [(0, .br false), (1, .reg [(1, cl [0] h2)] []), (2, .br true), (3, .reg [(2, cl [0] h4)] [])] [] [(0, 0)] 1 [pf (bf h1), pf h2, pf (bt h3), pf h4]
   · obtain rfl := Option.some.inj h
     exact rr 11 [(0, .br false), (1, .reg [(1, cl [0] h2)] []), (2, .br false)] [] [(0, 0)] 1 [pf (bf h1), pf h2, pf (bf h3)]
theorem sp_column_okb {m : Nat} (ih : Ok_sp_bracketed m) : Sd1 (sp_column_b (tab_sp_bracketed m)) sp_column_J := by
 intro a0 r h
 unfold sp_column_b at h
 refine ent (c := bodyOf f100) func100 rfl rfl rfl fun cx => ?_
 obtain ⟨⟨r1, r2⟩, h1, h⟩ := bs h fun _ => sp_name_ok
 obtain ⟨r3, h2, h⟩ := bs h fun _ => syntax_gathers_ok
 obtain ⟨h3, h⟩ | ⟨h3, h⟩ := ite_some h
 · obtain ⟨⟨r4, r5⟩, h4, h⟩ := bs h fun _ => sp_mark_ok
   exact tt 7 [(1, .reg [(1, cl [0] h1)] []), (2, .reg [(1, cl [] h2), (4, cl [0] h4)] [(2, .bool true)])] [] [0, 2, 3, 12] [(0, 0), (1, 1)] 2 [pf h1, pf h2, pf (bt h3), pf h4] (sp_column_j1_okb ih h cx)
 · exact tt 7 [(1, .reg [(1, cl [0] h1)] []), (2, .reg [(1, cl [] h2)] [(2, .bool false)])] [] [0, 2, 3, 12] [(0, 0), (1, 1)] 2 [pf h1, pf h2, pf (bf h3)] (sp_column_j1_okb ih h cx)
theorem sp_compared_okb {m : Nat} (ih : Ok_sp_bracketed m) : Sd1 (sp_compared_b (tab_sp_bracketed m)) sp_compared_J := by
 intro a0 r h
 unfold sp_compared_b at h
 refine ent (c := bodyOf f40) func40 rfl rfl rfl fun cx => ?_
 obtain ⟨⟨r1, r2⟩, h1, h⟩ := bs h fun _ => ih.sp_sum
 obtain ⟨⟨r3, r4⟩, h2, h⟩ := bs h fun _ => sp_mark_ok
 obtain ⟨h3, h⟩ | ⟨h3, h⟩ := ite_some h
 · obtain ⟨⟨r5, r6⟩, h4, h⟩ := bs h fun _ => ih.sp_sum
   obtain ⟨r7, h5, h⟩ := bs h fun _ => syntax_bin_ok
   obtain rfl := Option.some.inj h
   exact rr 25 [(1, .reg [(1, cl [0] h1)] []), (6, .reg [(2, cl [0] h2)] []), (7, .br true), (8, .reg [(3, cl [0] h4), (4, cl [] h5)] [])] [] [(0, 0)] 1 [pf h1, @pf (0 ≤ (0 : Int) ∧ (0 : Int) < (6 : Nat)) (by decide), pf h2, pf (bt h3), pf h4, pf h5]
 · obtain ⟨⟨r5, r6⟩, h4, h⟩ := bs h fun _ => sp_mark_ok
   obtain ⟨h5, h⟩ | ⟨h5, h⟩ := ite_some h
   · obtain ⟨⟨r7, r8⟩, h6, h⟩ := bs h fun _ => ih.sp_sum
     obtain ⟨r9, h7, h⟩ := bs h fun _ => syntax_bin_ok
     obtain rfl := Option.some.inj h
     exact rr 41 [(1, .reg [(1, cl [0] h1)] []), (6, .reg [(2, cl [0] h2)] []), (7, .br false), (12, .reg [(2, cl [0] h4)] []), (13, .br true), (14, .reg [(3, cl [0] h6), (4, cl [] h7)] [])] [] [(0, 0)] 1 [pf h1, @pf (0 ≤ (0 : Int) ∧ (0 : Int) < (6 : Nat)) (by decide), pf h2, pf (bf h3), @pf (0 ≤ (1 : Int) ∧ (1 : Int) < (6 : Nat)) (by decide), pf h4, pf (bt h5), pf h6, pf h7]
   · obtain ⟨⟨r7, r8⟩, h6, h⟩ := bs h fun _ => sp_mark_ok
     obtain ⟨h7, h⟩ | ⟨h7, h⟩ := ite_some h
     · obtain ⟨⟨r9, r10⟩, h8, h⟩ := bs h fun _ => ih.sp_sum
       obtain ⟨r11, h9, h⟩ := bs h fun _ => syntax_bin_ok
       obtain rfl := Option.some.inj h
       exact rr 57 [(1, .reg [(1, cl [0] h1)] []), (6, .reg [(2, cl [0] h2)] []), (7, .br false), (12, .reg [(2, cl [0] h4)] []), (13, .br false), (18, .reg [(2, cl [0] h6)] []), (19, .br true), (20, .reg [(3, cl [0] h8), (4, cl [] h9)] [])] [] [(0, 0)] 1 [pf h1, @pf (0 ≤ (0 : Int) ∧ (0 : Int) < (6 : Nat)) (by decide), pf h2, pf (bf h3), @pf (0 ≤ (1 : Int) ∧ (1 : Int) < (6 : Nat)) (by decide), pf h4, pf (bf h5), @pf (0 ≤ (2 : Int) ∧ (2 : Int) < (6 : Nat)) (by decide), pf h6, pf (bt h7), pf h8, pf h9]
     · obtain ⟨⟨r9, r10⟩, h8, h⟩ := bs h fun _ => sp_mark_ok
       obtain ⟨h9, h⟩ | ⟨h9, h⟩ := ite_some h
       · obtain ⟨⟨r11, r12⟩, h10, h⟩ := bs h fun _ => ih.sp_sum
         obtain ⟨r13, h11, h⟩ := bs h fun _ => syntax_bin_ok
         obtain rfl := Option.some.inj h
         exact rr 73 [(1, .reg [(1, cl [0] h1)] []), (6, .reg [(2, cl [0] h2)] []), (7, .br false), (12, .reg [(2, cl [0] h4)] []), (13, .br false), (18, .reg [(2, cl [0] h6)] []), (19, .br false), (24, .reg [(2, cl [0] h8)] []), (25, .br true), (26, .reg [(3, cl [0] h10), (4, cl [] h11)] [])] [] [(0, 0)] 1 [pf h1, @pf (0 ≤ (0 : Int) ∧ (0 : Int) < (6 : Nat)) (by decide), pf h2, pf (bf h3), @pf (0 ≤ (1 : Int) ∧ (1 : Int) < (6 : Nat)) (by decide), pf h4, pf (bf h5), @pf (0 ≤ (2 : Int) ∧ (2 : Int) < (6 : Nat)) (by decide), pf h6, pf (bf h7), @pf (0 ≤ (3 : Int) ∧ (3 : Int) < (6 : Nat)) (by decide), pf h8, pf (bt h9), pf h10, pf h11]
       · obtain ⟨⟨r11, r12⟩, h10, h⟩ := bs h fun _ => sp_mark_ok
         obtain ⟨h11, h⟩ | ⟨h11, h⟩ := ite_some h
         · obtain ⟨⟨r13, r14⟩, h12, h⟩ := bs h fun _ => ih.sp_sum
           obtain ⟨r15, h13, h⟩ := bs h fun _ => syntax_bin_ok
           obtain rfl := Option.some.inj h
           exact rr 89 [(1, .reg [(1, cl [0] h1)] []), (6, .reg [(2, cl [0] h2)] []), (7, .br false), (12, .reg [(2, cl [0] h4)] []), (13, .br false), (18, .reg [(2, cl [0] h6)] []), (19, .br false), (24, .reg [(2, cl [0] h8)] []), (25, .br false), (30, .reg [(2, cl [0] h10)] []), (31, .br true), (32, .reg [(3, cl [0] h12), (4, cl [] h13)] [])] [] [(0, 0)] 1 [pf h1, @pf (0 ≤ (0 : Int) ∧ (0 : Int) < (6 : Nat)) (by decide), pf h2, pf (bf h3), @pf (0 ≤ (1 : Int) ∧ (1 : Int) < (6 : Nat)) (by decide), pf h4, pf (bf h5), @pf (0 ≤ (2 : Int) ∧ (2 : Int) < (6 : Nat)) (by decide), pf h6, pf (bf h7), @pf (0 ≤ (3 : Int) ∧ (3 : Int) < (6 : Nat)) (by decide), pf h8, pf (bf h9), @pf (0 ≤ (4 : Int) ∧ (4 : Int) < (6 : Nat)) (by decide), pf h10, pf (bt h11), pf h12, pf h13]
         · obtain ⟨⟨r13, r14⟩, h12, h⟩ := bs h fun _ => sp_mark_ok
           obtain ⟨h13, h⟩ | ⟨h13, h⟩ := ite_some h
           · obtain ⟨⟨r15, r16⟩, h14, h⟩ := bs h fun _ => ih.sp_sum
             obtain ⟨r17, h15, h⟩ := bs h fun _ => syntax_bin_ok
             obtain rfl := Option.some.inj h
             exact rr 105 [(1, .reg [(1, cl [0] h1)] []), (6, .reg [(2, cl [0] h2)] []), (7, .br false), (12, .reg [(2, cl [0] h4)] []), (13, .br false), (18, .reg [(2, cl [0] h6)] []), (19, .br false), (24, .reg [(2, cl [0] h8)] []), (25, .br false), (30, .reg [(2, cl [0] h10)] []), (31, .br false), (36, .reg [(2, cl [0] h12)] []), (37, .br true), (38, .reg [(3, cl [0] h14), (4, cl [] h15)] [])] [] [(0, 0)] 1 [pf h1, @pf (0 ≤ (0 : Int) ∧ (0 : Int) < (6 : Nat)) (by decide), pf h2, pf (bf h3), @pf (0 ≤ (1 : Int) ∧ (1 : Int) < (6 : Nat)) (by decide), pf h4, pf (bf h5), @pf (0 ≤ (2 : Int) ∧ (2 : Int) < (6 : Nat)) (by decide), pf h6, pf (bf h7), @pf (0 ≤ (3 : Int) ∧ (3 : Int) < (6 : Nat)) (by decide), pf h8, pf (bf h9), @pf (0 ≤ (4 : Int) ∧ (4 : Int) < (6 : Nat)) (by decide), pf h10, pf (bf h11), @pf (0 ≤ (5 : Int) ∧ (5 : Int) < (6 : Nat)) (by decide), pf h12, pf (bt h13), pf h14, pf h15]
           · obtain ⟨⟨r15, r16⟩, h14, h⟩ := bs h fun _ => sp_word_ok
             obtain ⟨h15, h⟩ | ⟨h15, h⟩ := ite_some h
             · obtain ⟨⟨r17, r18⟩, h16, h⟩ := bs h fun _ => sp_word_ok
               obtain ⟨h17, h⟩ | ⟨h17, h⟩ := ite_some h
               · exact tt 121 [(1, .reg [(1, cl [0] h1)] []), (6, .reg [(2, cl [0] h2)] []), (7, .br false), (12, .reg [(2, cl [0] h4)] []), (13, .br false), (18, .reg [(2, cl [0] h6)] []), (19, .br false), (24, .reg [(2, cl [0] h8)] []), (25, .br false), (30, .reg [(2, cl [0] h10)] []), (31, .br false), (36, .reg [(2, cl [0] h12)] []), (37, .br false), (41, .reg [(1, cl [0] h14)] []), (42, .br true), (43, .reg [] [(1, .one (.own 6 (Row.rows (α := Expr) [r2]) 945))]), (44, .reg [(1, cl [0] h16)] []), (45, .br true)] [] [0, 2, 6] [(0, 0), (1, 1), (977, 2), (945, 3)] 4 [pf h1, @pf (0 ≤ (0 : Int) ∧ (0 : Int) < (6 : Nat)) (by decide), pf h2, pf (bf h3), @pf (0 ≤ (1 : Int) ∧ (1 : Int) < (6 : Nat)) (by decide), pf h4, pf (bf h5), @pf (0 ≤ (2 : Int) ∧ (2 : Int) < (6 : Nat)) (by decide), pf h6, pf (bf h7), @pf (0 ≤ (3 : Int) ∧ (3 : Int) < (6 : Nat)) (by decide), pf h8, pf (bf h9), @pf (0 ≤ (4 : Int) ∧ (4 : Int) < (6 : Nat)) (by decide), pf h10, pf (bf h11), @pf (0 ≤ (5 : Int) ∧ (5 : Int) < (6 : Nat)) (by decide), pf h12, pf (bf h13), pf h14, pf (bt h15), @pf (BldP (α := Expr) [r2] 945) (bldP _ _), pf h16, pf (bt h17)] (sp_compared_j1_ok h cx)
               · exact tt 121 [(1, .reg [(1, cl [0] h1)] []), (6, .reg [(2, cl [0] h2)] []), (7, .br false), (12, .reg [(2, cl [0] h4)] []), (13, .br false), (18, .reg [(2, cl [0] h6)] []), (19, .br false), (24, .reg [(2, cl [0] h8)] []), (25, .br false), (30, .reg [(2, cl [0] h10)] []), (31, .br false), (36, .reg [(2, cl [0] h12)] []), (37, .br false), (41, .reg [(1, cl [0] h14)] []), (42, .br true), (43, .reg [] [(1, .one (.own 6 (Row.rows (α := Expr) [r2]) 945))]), (44, .reg [(1, cl [0] h16)] []), (45, .br false)] [] [0, 2, 6] [(0, 0), (1, 1), (977, 2), (945, 3)] 4 [pf h1, @pf (0 ≤ (0 : Int) ∧ (0 : Int) < (6 : Nat)) (by decide), pf h2, pf (bf h3), @pf (0 ≤ (1 : Int) ∧ (1 : Int) < (6 : Nat)) (by decide), pf h4, pf (bf h5), @pf (0 ≤ (2 : Int) ∧ (2 : Int) < (6 : Nat)) (by decide), pf h6, pf (bf h7), @pf (0 ≤ (3 : Int) ∧ (3 : Int) < (6 : Nat)) (by decide), pf h8, pf (bf h9), @pf (0 ≤ (4 : Int) ∧ (4 : Int) < (6 : Nat)) (by decide), pf h10, pf (bf h11), @pf (0 ≤ (5 : Int) ∧ (5 : Int) < (6 : Nat)) (by decide), pf h12, pf (bf h13), pf h14, pf (bt h15), @pf (BldP (α := Expr) [r2] 945) (bldP _ _), pf h16, pf (bf h17)] (sp_compared_j1_ok h cx)
             · obtain ⟨⟨r17, r18⟩, h16, h⟩ := bs h fun _ => sp_word_ok
               obtain ⟨h17, h⟩ | ⟨h17, h⟩ := ite_some h
               · obtain ⟨r19, h18, h⟩ := bs h fun _ => sp_must_ok
                 obtain ⟨⟨r20, r21⟩, h19, h⟩ := bs h fun _ => ih.sp_bracketed
                 obtain rfl := Option.some.inj h
                 exact rr 140 [(1, .reg [(1, cl [0] h1)] []), (6, .reg [(2, cl [0] h2)] []), (7, .br false), (12, .reg [(2, cl [0] h4)] []), (13, .br false), (18, .reg [(2, cl [0] h6)] []), (19, .br false), (24, .reg [(2, cl [0] h8)] []), (25, .br false), (30, .reg [(2, cl [0] h10)] []), (31, .br false), (36, .reg [(2, cl [0] h12)] []), (37, .br false), (41, .reg [(1, cl [0] h14)] []), (42, .br false), (43, .reg [] [(1, .one (.own 6 (Row.rows (α := Expr) [r2]) 945))]), (44, .reg [(1, cl [0] h16)] []), (45, .br true), (47, .reg [(1, cl [0] h18)] []), (48, .reg [(1, cl [0] h19)] [(2, .one (.own 10 (Row.rows (α := Query) [r21]) 1153))])] [] [(0, 0)] 1 [pf h1, @pf (0 ≤ (0 : Int) ∧ (0 : Int) < (6 : Nat)) (by decide), pf h2, pf (bf h3), @pf (0 ≤ (1 : Int) ∧ (1 : Int) < (6 : Nat)) (by decide), pf h4, pf (bf h5), @pf (0 ≤ (2 : Int) ∧ (2 : Int) < (6 : Nat)) (by decide), pf h6, pf (bf h7), @pf (0 ≤ (3 : Int) ∧ (3 : Int) < (6 : Nat)) (by decide), pf h8, pf (bf h9), @pf (0 ≤ (4 : Int) ∧ (4 : Int) < (6 : Nat)) (by decide), pf h10, pf (bf h11), @pf (0 ≤ (5 : Int) ∧ (5 : Int) < (6 : Nat)) (by decide), pf h12, pf (bf h13), pf h14, pf (bf h15), @pf (BldP (α := Expr) [r2] 945) (bldP _ _), pf h16, pf (bt h17), pf h18, pf h19, @pf (BldP (α := Query) [r21] 1153) (bldP _ _)]
               · obtain ⟨⟨r19, r20⟩, h18, h⟩ := bs h fun _ => sp_word_ok
                 obtain ⟨h19, h⟩ | ⟨h19, h⟩ := ite_some h
                 · obtain ⟨⟨r21, r22⟩, h20, h⟩ := bs h fun _ => ih.sp_bracketed
                   obtain rfl := Option.some.inj h
                   exact rr 140 [(1, .reg [(1, cl [0] h1)] []), (6, .reg [(2, cl [0] h2)] []), (7, .br false), (12, .reg [(2, cl [0] h4)] []), (13, .br false), (18, .reg [(2, cl [0] h6)] []), (19, .br false), (24, .reg [(2, cl [0] h8)] []), (25, .br false), (30, .reg [(2, cl [0] h10)] []), (31, .br false), (36, .reg [(2, cl [0] h12)] []), (37, .br false), (41, .reg [(1, cl [0] h14)] []), (42, .br false), (43, .reg [] [(1, .one (.own 6 (Row.rows (α := Expr) [r2]) 945))]), (44, .reg [(1, cl [0] h16)] []), (45, .br false), (46, .reg [(1, cl [0] h18)] []), (47, .br true), (48, .reg [(1, cl [0] h20)] [(2, .one (.own 10 (Row.rows (α := Query) [r22]) 1137))])] [] [(0, 0)] 1 [pf h1, @pf (0 ≤ (0 : Int) ∧ (0 : Int) < (6 : Nat)) (by decide), pf h2, pf (bf h3), @pf (0 ≤ (1 : Int) ∧ (1 : Int) < (6 : Nat)) (by decide), pf h4, pf (bf h5), @pf (0 ≤ (2 : Int) ∧ (2 : Int) < (6 : Nat)) (by decide), pf h6, pf (bf h7), @pf (0 ≤ (3 : Int) ∧ (3 : Int) < (6 : Nat)) (by decide), pf h8, pf (bf h9), @pf (0 ≤ (4 : Int) ∧ (4 : Int) < (6 : Nat)) (by decide), pf h10, pf (bf h11), @pf (0 ≤ (5 : Int) ∧ (5 : Int) < (6 : Nat)) (by decide), pf h12, pf (bf h13), pf h14, pf (bf h15), @pf (BldP (α := Expr) [r2] 945) (bldP _ _), pf h16, pf (bf h17), pf h18, pf (bt h19), pf h20, @pf (BldP (α := Query) [r22] 1137) (bldP _ _)]
                 · obtain rfl := Option.some.inj h
                   exact rr 138 [(1, .reg [(1, cl [0] h1)] []), (6, .reg [(2, cl [0] h2)] []), (7, .br false), (12, .reg [(2, cl [0] h4)] []), (13, .br false), (18, .reg [(2, cl [0] h6)] []), (19, .br false), (24, .reg [(2, cl [0] h8)] []), (25, .br false), (30, .reg [(2, cl [0] h10)] []), (31, .br false), (36, .reg [(2, cl [0] h12)] []), (37, .br false), (41, .reg [(1, cl [0] h14)] []), (42, .br false), (43, .reg [] [(1, .one (.own 6 (Row.rows (α := Expr) [r2]) 945))]), (44, .reg [(1, cl [0] h16)] []), (45, .br false), (46, .reg [(1, cl [0] h18)] []), (47, .br false)] [] [(0, 0)] 1 [pf h1, @pf (0 ≤ (0 : Int) ∧ (0 : Int) < (6 : Nat)) (by decide), pf h2, pf (bf h3), @pf (0 ≤ (1 : Int) ∧ (1 : Int) < (6 : Nat)) (by decide), pf h4, pf (bf h5), @pf (0 ≤ (2 : Int) ∧ (2 : Int) < (6 : Nat)) (by decide), pf h6, pf (bf h7), @pf (0 ≤ (3 : Int) ∧ (3 : Int) < (6 : Nat)) (by decide), pf h8, pf (bf h9), @pf (0 ≤ (4 : Int) ∧ (4 : Int) < (6 : Nat)) (by decide), pf h10, pf (bf h11), @pf (0 ≤ (5 : Int) ∧ (5 : Int) < (6 : Nat)) (by decide), pf h12, pf (bf h13), pf h14, pf (bf h15), @pf (BldP (α := Expr) [r2] 945) (bldP _ _), pf h16, pf (bf h17), pf h18, pf (bf h19)]
theorem sp_expr_okb {m : Nat} (ih : Ok_sp_bracketed m) : Sd1 (sp_expr_b (tab_sp_bracketed m)) sp_expr_J := by
 intro a0 r h
 unfold sp_expr_b at h
 refine ent (c := bodyOf f11) func11 rfl rfl rfl fun cx => ?_
 obtain ⟨⟨r1, r2⟩, h1, h⟩ := bs h fun _ => sp_enter_ok
 obtain ⟨h2, h⟩ | ⟨h2, h⟩ := ite_some h
 · obtain ⟨⟨r3, r4⟩, h3, h⟩ := bs h fun _ => ih.sp_left_expr_1
   obtain ⟨r5, h4, h⟩ := bs h fun _ => sp_leave_ok
   obtain rfl := Option.some.inj h
   exact rr 15 [(1, .reg [(1, cl [0] h1)] []), (2, .br false), (3, .reg [(5, cl [0, 1] h3 [1])] [(4, .one (.own 1 (Row.rows (α := Str) [s_or]) 145))]), (4, .reg [(1, cl [0] h4)] [])] [] [(0, 0)] 1 [pf h1, pf (nbf h2), @pf (BldP (α := Str) [s_or] 145) (bldP _ _), pf h3, @pf (SameO (.var 49 [.ptr 0 0])) rfl, pf h4]
 · obtain rfl := Option.some.inj h
   exact rr 10 [(1, .reg [(1, cl [0] h1)] []), (2, .br true)] [] [(0, 0)] 1 [pf h1, pf (nbt h2)]
theorem sp_expr_1_okb {m : Nat} (ih : Ok_sp_bracketed m) : Sd1 (sp_expr_1_b (tab_sp_bracketed m)) sp_expr_1_J := by
 intro a0 r h
 unfold sp_expr_1_b at h
 refine ent (c := bodyOf f25) func25 rfl rfl rfl fun cx => ?_
 obtain ⟨⟨r1, r2⟩, h1, h⟩ := bs h fun _ => ih.sp_left_not
 obtain rfl := Option.some.inj h
 exact rr 6 [(1, .reg [(6, cl [1] h1)] [(5, .one (.own 1 (Row.rows (α := Str) [s_and]) 98))])] [] [(0, 0), (1, 1)] 2 [@pf (BldP (α := Str) [s_and] 98) (bldP _ _), pf h1]
theorem sp_inner_not_okb {m : Nat} (ih : Ok_sp_bracketed m) : Sd2 (sp_inner_not_b (tab_sp_bracketed m)) sp_inner_not_J := by
 intro a0 a1 r h
 unfold sp_inner_not_b at h
 refine ent (c := bodyOf f39) func39 rfl rfl rfl fun cx => ?_
 obtain ⟨⟨r1, r2⟩, h1, h⟩ := bs h fun _ => sp_enter_ok
 obtain ⟨h2, h⟩ | ⟨h2, h⟩ := ite_some h
 · obtain ⟨⟨r3, r4⟩, h3, h⟩ := bs h fun _ => ih.sp_not
   obtain ⟨r5, h4, h⟩ := bs h fun _ => sp_leave_ok
   obtain rfl := Option.some.inj h
   exact rr 15 [(1, .reg [(1, cl [0] h1)] []), (2, .br false), (3, .reg [(2, cl [0] h3)] [(3, .one (.own 6 (Row.rows (α := Expr) [r4]) 113))]), (4, .reg [(1, cl [0] h4)] [])] [] [(0, 0)] 1 [pf h1, pf (nbf h2), pf h3, @pf (BldP (α := Expr) [r4] 113) (bldP _ _), pf h4]
 · obtain rfl := Option.some.inj h
   exact rr 10 [(1, .reg [(1, cl [0] h1)] []), (2, .br true)] [] [(0, 0)] 1 [pf h1, pf (nbt h2)]
theorem sp_inner_unary_okb {m : Nat} (ih : Ok_sp_bracketed m) : Sd2 (sp_inner_unary_b (tab_sp_bracketed m)) sp_inner_unary_J := by
 intro a0 a1 r h
 unfold sp_inner_unary_b at h
 refine ent (c := bodyOf f39) func39 rfl rfl rfl fun cx => ?_
 obtain ⟨⟨r1, r2⟩, h1, h⟩ := bs h fun _ => sp_enter_ok
 obtain ⟨h2, h⟩ | ⟨h2, h⟩ := ite_some h
 · obtain ⟨⟨r3, r4⟩, h3, h⟩ := bs h fun _ => ih.sp_unary
   obtain ⟨r5, h4, h⟩ := bs h fun _ => sp_leave_ok
   obtain rfl := Option.some.inj h
   exact rr 15 [(1, .reg [(1, cl [0] h1)] []), (2, .br false), (3, .reg [(2, cl [0] h3)] [(3, .one (.own 6 (Row.rows (α := Expr) [r4]) 113))]), (4, .reg [(1, cl [0] h4)] [])] [] [(0, 0)] 1 [pf h1, pf (nbf h2), pf h3, @pf (BldP (α := Expr) [r4] 113) (bldP _ _), pf h4]
 · obtain rfl := Option.some.inj h
   exact rr 10 [(1, .reg [(1, cl [0] h1)] []), (2, .br true)] [] [(0, 0)] 1 [pf h1, pf (nbt h2)]
theorem sp_item_okb {m : Nat} (ih : Ok_sp_bracketed m) : Sd1 (sp_item_b (tab_sp_bracketed m)) sp_item_J := by
 intro a0 r h
 unfold sp_item_b at h
 refine ent (c := bodyOf f48) func48 rfl rfl rfl fun cx => ?_
 obtain ⟨⟨r1, r2⟩, h1, h⟩ := bs h fun _ => ih.sp_expr
 obtain ⟨r3, h2, h⟩ := bs h fun _ => sp_must_ok
 obtain ⟨⟨r4, r5⟩, h3, h⟩ := bs h fun _ => sp_name_ok
 obtain rfl := Option.some.inj h
 exact rr 10 [(1, .reg [(1, cl [0] h1)] []), (2, .reg [(1, cl [0] h2)] []), (3, .reg [(2, cl [0] h3)] [])] [] [(0, 0)] 1 [pf h1, pf h2, pf h3]
theorem sp_key_okb {m : Nat} (ih : Ok_sp_bracketed m) : Sd1 (sp_key_b (tab_sp_bracketed m)) sp_key_J := by
 intro a0 r h
 unfold sp_key_b at h
 refine ent (c := bodyOf f52) func52 rfl rfl rfl fun cx => ?_
 obtain ⟨⟨r1, r2⟩, h1, h⟩ := bs h fun _ => ih.sp_expr
 obtain ⟨⟨r3, r4⟩, h2, h⟩ := bs h fun _ => sp_word_ok
 obtain rfl := Option.some.inj h
 exact rr 8 [(1, .reg [(1, cl [0] h1)] []), (2, .reg [(2, cl [0] h2)] [])] [] [(0, 0)] 1 [pf h1, pf h2]
theorem sp_left_expr_1_okb {m : Nat} (ih : Ok_sp_bracketed m) : Sd2 (sp_left_expr_1_b (tab_sp_bracketed m)) sp_left_expr_1_J := by
 intro a0 a1 r h
 unfold sp_left_expr_1_b at h
 refine ent (c := bodyOf f24) func24 rfl rfl rfl fun cx => ?_
 obtain ⟨⟨r1, r2⟩, h1, h⟩ := bs h fun _ => ih.sp_expr_1
 exact tt 7 [(1, .reg [(1, cl [1, 0] h1 [0])] [])] [] [1, 2, 3, 8, 9] [(0, 0), (1, 1), (2, 2), (50, 3)] 4 [pf h1, @pf (SameO (.var 49 [.ptr 0 0])) rfl] (ih.sp_left_expr_1_l1 h cx)
theorem sp_left_expr_1_l1_okb {m : Nat} (ih : Ok_sp_bracketed m) : Sd3 (sp_left_expr_1_l1_b (tab_sp_bracketed m)) sp_left_expr_1_l1_J := by
 intro a0 a1 a2 r h cx
 unfold sp_left_expr_1_l1_b at h
 exact tt 5 [(0, .reg [] [(1, .one (.int .i64 (a2.length : Int)))])] [] [1, 2, 3, 8, 9, 14, 15, 16] [(0, 0), (1, 1), (2, 2), (3, 3)] 4 [@pf (LenP (α := Str) a2) (lenP _)] (ih.sp_left_expr_1_l2 h cx)
theorem sp_left_expr_1_l2_okb {m : Nat} (ih : Ok_sp_bracketed m) : Sd6 (sp_left_expr_1_l2_b (tab_sp_bracketed m)) sp_left_expr_1_l2_J := by
 intro a0 a1 a2 a3 a4 a5 r h cx
 unfold sp_left_expr_1_l2_b at h
 obtain ⟨h1, h⟩ | ⟨h1, h⟩ := ite_some h
 · obtain ⟨x1, h2, h⟩ := bind_some h
   obtain ⟨⟨r2, r3⟩, h3, h⟩ := bs h fun _ => sp_word_ok
   obtain ⟨h4, h⟩ | ⟨h4, h⟩ := ite_some h
   · obtain ⟨⟨r4, r5⟩, h5, h⟩ := bs h fun _ => ih.sp_expr_1
     obtain ⟨r6, h6, h⟩ := bs h fun _ => syntax_bin_ok
     exact tt 17 [(1, .br true), (2, .reg [(1, .row (Row.cells x1))] []), (3, .reg [(2, cl [0] h3)] []), (4, .br true), (5, .reg [(3, cl [1, 0] h5 [0]), (4, cl [] h6)] [])] [] [1, 2, 3, 8, 9] [(0, 0), (1, 1), (2, 2), (3, 3)] 4 [pf (dt h1), pf (inP h2), pf (atP h2), pf h3, pf (bt h4), pf h5, @pf (SameO (.var 49 [.ptr 0 0])) rfl, pf h6] (ih.sp_left_expr_1_l1 h cx)
   · exact tt 16 [(1, .br true), (2, .reg [(1, .row (Row.cells x1))] []), (3, .reg [(2, cl [0] h3)] []), (4, .br false)] [] [1, 2, 3, 8, 9, 14, 15, 16] [(0, 0), (1, 1), (2, 2), (3, 3)] 4 [pf (dt h1), pf (inP h2), pf (atP h2), pf h3, pf (bf h4)] (ih.sp_left_expr_1_l2 h cx)
 · obtain rfl := Option.some.inj h
   exact rr 9 [(1, .br false)] [] [(0, 0), (1, 1)] 2 [pf (df h1)]
theorem sp_left_not_okb {m : Nat} (ih : Ok_sp_bracketed m) : Sd2 (sp_left_not_b (tab_sp_bracketed m)) sp_left_not_J := by
 intro a0 a1 r h
 unfold sp_left_not_b at h
 refine ent (c := bodyOf f24) func24 rfl rfl rfl fun cx => ?_
 obtain ⟨⟨r1, r2⟩, h1, h⟩ := bs h fun _ => ih.sp_not
 exact tt 7 [(1, .reg [(1, cl [0] h1)] [])] [] [1, 2, 3, 8, 9] [(0, 0), (1, 1), (49, 2)] 3 [pf h1] (ih.sp_left_not_l1 h cx)
theorem sp_left_not_l1_okb {m : Nat} (ih : Ok_sp_bracketed m) : Sd3 (sp_left_not_l1_b (tab_sp_bracketed m)) sp_left_not_l1_J := by
 intro a0 a1 a2 r h cx
 unfold sp_left_not_l1_b at h
 exact tt 5 [(0, .reg [] [(1, .one (.int .i64 (a2.length : Int)))])] [] [1, 2, 3, 8, 9, 14, 15, 16] [(0, 0), (1, 1), (2, 2)] 3 [@pf (LenP (α := Str) a2) (lenP _)] (ih.sp_left_not_l2 h cx)
theorem sp_left_not_l2_okb {m : Nat} (ih : Ok_sp_bracketed m) : Sd6 (sp_left_not_l2_b (tab_sp_bracketed m)) sp_left_not_l2_J := by
 intro a0 a1 a2 a3 a4 a5 r h cx
 unfold sp_left_not_l2_b at h
 obtain ⟨h1, h⟩ | ⟨h1, h⟩ := ite_some h
 · obtain ⟨x1, h2, h⟩ := bind_some h
   obtain ⟨⟨r2, r3⟩, h3, h⟩ := bs h fun _ => sp_word_ok
   obtain ⟨h4, h⟩ | ⟨h4, h⟩ := ite_some h
   · obtain ⟨⟨r4, r5⟩, h5, h⟩ := bs h fun _ => ih.sp_not
     obtain ⟨r6, h6, h⟩ := bs h fun _ => syntax_bin_ok
     exact tt 17 [(1, .br true), (2, .reg [(1, .row (Row.cells x1))] []), (3, .reg [(2, cl [0] h3)] []), (4, .br true), (5, .reg [(3, cl [0] h5), (4, cl [] h6)] [])] [] [1, 2, 3, 8, 9] [(0, 0), (1, 1), (2, 2)] 3 [pf (dt h1), pf (inP h2), pf (atP h2), pf h3, pf (bt h4), pf h5, pf h6] (ih.sp_left_not_l1 h cx)
   · exact tt 16 [(1, .br true), (2, .reg [(1, .row (Row.cells x1))] []), (3, .reg [(2, cl [0] h3)] []), (4, .br false)] [] [1, 2, 3, 8, 9, 14, 15, 16] [(0, 0), (1, 1), (2, 2)] 3 [pf (dt h1), pf (inP h2), pf (atP h2), pf h3, pf (bf h4)] (ih.sp_left_not_l2 h cx)
 · obtain rfl := Option.some.inj h
   exact rr 9 [(1, .br false)] [] [(0, 0)] 1 [pf (df h1)]
theorem sp_left_prod_okb {m : Nat} (ih : Ok_sp_bracketed m) : Sd2 (sp_left_prod_b (tab_sp_bracketed m)) sp_left_prod_J := by
 intro a0 a1 r h
 unfold sp_left_prod_b at h
 refine ent (c := bodyOf f24) func24 rfl rfl rfl fun cx => ?_
 obtain ⟨⟨r1, r2⟩, h1, h⟩ := bs h fun _ => ih.sp_prod
 exact tt 7 [(1, .reg [(1, cl [0] h1)] [])] [] [1, 2, 3, 8, 9] [(0, 0), (1, 1), (49, 2)] 3 [pf h1] (ih.sp_left_prod_l1 h cx)
theorem sp_left_prod_l1_okb {m : Nat} (ih : Ok_sp_bracketed m) : Sd3 (sp_left_prod_l1_b (tab_sp_bracketed m)) sp_left_prod_l1_J := by
 intro a0 a1 a2 r h cx
 unfold sp_left_prod_l1_b at h
 exact tt 5 [(0, .reg [] [(1, .one (.int .i64 (a2.length : Int)))])] [] [1, 2, 3, 8, 9, 14, 15, 16] [(0, 0), (1, 1), (2, 2)] 3 [@pf (LenP (α := Str) a2) (lenP _)] (ih.sp_left_prod_l2 h cx)
theorem sp_left_prod_l2_okb {m : Nat} (ih : Ok_sp_bracketed m) : Sd6 (sp_left_prod_l2_b (tab_sp_bracketed m)) sp_left_prod_l2_J := by
 intro a0 a1 a2 a3 a4 a5 r h cx
 unfold sp_left_prod_l2_b at h
 obtain ⟨h1, h⟩ | ⟨h1, h⟩ := ite_some h
 · obtain ⟨x1, h2, h⟩ := bind_some h
   obtain ⟨⟨r2, r3⟩, h3, h⟩ := bs h fun _ => sp_mark_ok
   obtain ⟨h4, h⟩ | ⟨h4, h⟩ := ite_some h
   · obtain ⟨⟨r4, r5⟩, h5, h⟩ := bs h fun _ => ih.sp_prod
     obtain ⟨r6, h6, h⟩ := bs h fun _ => syntax_bin_ok
     exact tt 17 [(1, .br true), (2, .reg [(1, .row (Row.cells x1))] []), (3, .reg [(2, cl [0] h3)] []), (4, .br true), (5, .reg [(3, cl [0] h5), (4, cl [] h6)] [])] [] [1, 2, 3, 8, 9] [(0, 0), (1, 1), (2, 2)] 3 [pf (dt h1), pf (inP h2), pf (atP h2), pf h3, pf (bt h4), pf h5, pf h6] (ih.sp_left_prod_l1 h cx)
   · exact tt 16 [(1, .br true), (2, .reg [(1, .row (Row.cells x1))] []), (3, .reg [(2, cl [0] h3)] []), (4, .br false)] [] [1, 2, 3, 8, 9, 14, 15, 16] [(0, 0), (1, 1), (2, 2)] 3 [pf (dt h1), pf (inP h2), pf (atP h2), pf h3, pf (bf h4)] (ih.sp_left_prod_l2 h cx)
 · obtain rfl := Option.some.inj h
   exact rr 9 [(1, .br false)] [] [(0, 0)] 1 [pf (df h1)]
theorem sp_left_unary_okb {m : Nat} (ih : Ok_sp_bracketed m) : Sd2 (sp_left_unary_b (tab_sp_bracketed m)) sp_left_unary_J := by
 intro a0 a1 r h
 unfold sp_left_unary_b at h
 refine ent (c := bodyOf f24) func24 rfl rfl rfl fun cx => ?_
 obtain ⟨⟨r1, r2⟩, h1, h⟩ := bs h fun _ => ih.sp_unary
 exact tt 7 [(1, .reg [(1, cl [0] h1)] [])] [] [1, 2, 3, 8, 9] [(0, 0), (1, 1), (49, 2)] 3 [pf h1] (ih.sp_left_unary_l1 h cx)
theorem sp_left_unary_l1_okb {m : Nat} (ih : Ok_sp_bracketed m) : Sd3 (sp_left_unary_l1_b (tab_sp_bracketed m)) sp_left_unary_l1_J := by
 intro a0 a1 a2 r h cx
 unfold sp_left_unary_l1_b at h
 exact tt 5 [(0, .reg [] [(1, .one (.int .i64 (a2.length : Int)))])] [] [1, 2, 3, 8, 9, 14, 15, 16] [(0, 0), (1, 1), (2, 2)] 3 [@pf (LenP (α := Str) a2) (lenP _)] (ih.sp_left_unary_l2 h cx)
theorem sp_left_unary_l2_okb {m : Nat} (ih : Ok_sp_bracketed m) : Sd6 (sp_left_unary_l2_b (tab_sp_bracketed m)) sp_left_unary_l2_J := by
 intro a0 a1 a2 a3 a4 a5 r h cx
 unfold sp_left_unary_l2_b at h
 obtain ⟨h1, h⟩ | ⟨h1, h⟩ := ite_some h
 · obtain ⟨x1, h2, h⟩ := bind_some h
   obtain ⟨⟨r2, r3⟩, h3, h⟩ := bs h fun _ => sp_mark_ok
   obtain ⟨h4, h⟩ | ⟨h4, h⟩ := ite_some h
   · obtain ⟨⟨r4, r5⟩, h5, h⟩ := bs h fun _ => ih.sp_unary
     obtain ⟨r6, h6, h⟩ := bs h fun _ => syntax_bin_ok
     exact tt 17 [(1, .br true), (2, .reg [(1, .row (Row.cells x1))] []), (3, .reg [(2, cl [0] h3)] []), (4, .br true), (5, .reg [(3, cl [0] h5), (4, cl [] h6)] [])] [] [1, 2, 3, 8, 9] [(0, 0), (1, 1), (2, 2)] 3 [pf (dt h1), pf (inP h2), pf (atP h2), pf h3, pf (bt h4), pf h5, pf h6] (ih.sp_left_unary_l1 h cx)
   · exact tt 16 [(1, .br true), (2, .reg [(1, .row (Row.cells x1))] []), (3, .reg [(2, cl [0] h3)] []), (4, .br false)] [] [1, 2, 3, 8, 9, 14, 15, 16] [(0, 0), (1, 1), (2, 2)] 3 [pf (dt h1), pf (inP h2), pf (atP h2), pf h3, pf (bf h4)] (ih.sp_left_unary_l2 h cx)
 · obtain rfl := Option.some.inj h
   exact rr 9 [(1, .br false)] [] [(0, 0)] 1 [pf (df h1)]
theorem sp_not_okb {m : Nat} (ih : Ok_sp_bracketed m) : Sd1 (sp_not_b (tab_sp_bracketed m)) sp_not_J := by
 intro a0 r h
 unfold sp_not_b at h
 refine ent (c := bodyOf f26) func26 rfl rfl rfl fun cx => ?_
 obtain ⟨⟨r1, r2⟩, h1, h⟩ := bs h fun _ => sp_word_ok
 obtain ⟨h2, h⟩ | ⟨h2, h⟩ := ite_some h
 · obtain ⟨⟨r3, r4⟩, h3, h⟩ := bs h fun _ => ih.sp_inner_not
   obtain rfl := Option.some.inj h
   exact rr 10 [(1, .reg [(1, cl [0] h1)] []), (2, .br true), (3, .reg [(3, cl [0] h3)] [])] [] [(0, 0)] 1 [pf h1, pf (bt h2), pf h3]
 · obtain ⟨⟨r3, r4⟩, h3, h⟩ := bs h fun _ => ih.sp_compared
   obtain rfl := Option.some.inj h
   exact rr 11 [(1, .reg [(1, cl [0] h1)] []), (2, .br false), (3, .reg [(1, cl [0] h3)] [])] [] [(0, 0)] 1 [pf h1, pf (bf h2), pf h3]
theorem sp_part_j2_okb {m : Nat} (ih : Ok_sp_bracketed m) : Sd5 (sp_part_j2_b (tab_sp_bracketed m)) sp_part_j2_J := by
 intro a0 a1 a2 a3 a4 r h cx
 unfold sp_part_j2_b at h
 obtain ⟨⟨r1, r2⟩, h1, h⟩ := bs h fun _ => sp_word_ok
 obtain ⟨h2, h⟩ | ⟨h2, h⟩ := ite_some h
 · obtain ⟨r3, h3, h⟩ := bs h fun _ => sp_must_ok
   obtain ⟨⟨r4, r5⟩, h4, h⟩ := bs h fun _ => ih.syntax_list_r_2
   obtain ⟨⟨r6, r7⟩, h5, h⟩ := bs h fun _ => sp_word_ok
   obtain ⟨h6, h⟩ | ⟨h6, h⟩ := ite_some h
   · obtain ⟨⟨r8, r9⟩, h7, h⟩ := bs h fun _ => ih.sp_expr
     obtain ⟨⟨r10, r11⟩, h8, h⟩ := bs h fun _ => sp_word_ok
     obtain ⟨h9, h⟩ | ⟨h9, h⟩ := ite_some h
     · obtain ⟨r12, h10, h⟩ := bs h fun _ => sp_must_ok
       obtain ⟨⟨r13, r14⟩, h11, h⟩ := bs h fun _ => ih.syntax_list_y
       obtain ⟨⟨r15, r16⟩, h12, h⟩ := bs h fun _ => sp_word_ok
       obtain ⟨h13, h⟩ | ⟨h13, h⟩ := ite_some h
       · obtain ⟨⟨r17, r18⟩, h14, h⟩ := bs h fun _ => sp_number_ok
         obtain rfl := Option.some.inj h
         exact rr 28 [(0, .reg [(1, cl [0] h1)] []), (1, .br true), (2, .reg [(1, cl [0] h3)] []), (3, .reg [(3, cl [0] h4)] []), (4, .reg [(1, cl [0] h5)] []), (5, .br true), (6, .reg [(1, cl [0] h7)] [(2, .one (.own 6 (Row.rows (α := Expr) [r9]) 229))]), (7, .reg [(1, cl [0] h8)] []), (8, .br true), (9, .reg [(1, cl [0] h10)] []), (10, .reg [(3, cl [0] h11)] []), (11, .reg [(1, cl [0] h12)] []), (12, .br true), (13, .reg [(1, cl [0] h14)] [])] [] [(0, 0)] 1 [pf h1, pf (bt h2), pf h3, pf h4, pf h5, pf (bt h6), pf h7, @pf (BldP (α := Expr) [r9] 229) (bldP _ _), pf h8, pf (bt h9), pf h10, pf h11, pf h12, pf (bt h13), pf h14]
       · obtain rfl := Option.some.inj h
         exact rr 28 [(0, .reg [(1, cl [0] h1)] []), (1, .br true), (2, .reg [(1, cl [0] h3)] []), (3, .reg [(3, cl [0] h4)] []), (4, .reg [(1, cl [0] h5)] []), (5, .br true), (6, .reg [(1, cl [0] h7)] [(2, .one (.own 6 (Row.rows (α := Expr) [r9]) 229))]), (7, .reg [(1, cl [0] h8)] []), (8, .br true), (9, .reg [(1, cl [0] h10)] []), (10, .reg [(3, cl [0] h11)] []), (11, .reg [(1, cl [0] h12)] []), (12, .br false)] [] [(0, 0)] 1 [pf h1, pf (bt h2), pf h3, pf h4, pf h5, pf (bt h6), pf h7, @pf (BldP (α := Expr) [r9] 229) (bldP _ _), pf h8, pf (bt h9), pf h10, pf h11, pf h12, pf (bf h13)]
     · obtain ⟨⟨r12, r13⟩, h10, h⟩ := bs h fun _ => sp_word_ok
       obtain ⟨h11, h⟩ | ⟨h11, h⟩ := ite_some h
       · obtain ⟨⟨r14, r15⟩, h12, h⟩ := bs h fun _ => sp_number_ok
         obtain rfl := Option.some.inj h
         exact rr 26 [(0, .reg [(1, cl [0] h1)] []), (1, .br true), (2, .reg [(1, cl [0] h3)] []), (3, .reg [(3, cl [0] h4)] []), (4, .reg [(1, cl [0] h5)] []), (5, .br true), (6, .reg [(1, cl [0] h7)] [(2, .one (.own 6 (Row.rows (α := Expr) [r9]) 229))]), (7, .reg [(1, cl [0] h8)] []), (8, .br false), (9, .reg [(1, cl [0] h10)] []), (10, .br true), (11, .reg [(1, cl [0] h12)] [])] [] [(0, 0)] 1 [pf h1, pf (bt h2), pf h3, pf h4, pf h5, pf (bt h6), pf h7, @pf (BldP (α := Expr) [r9] 229) (bldP _ _), pf h8, pf (bf h9), pf h10, pf (bt h11), pf h12]
       · obtain rfl := Option.some.inj h
         exact rr 26 [(0, .reg [(1, cl [0] h1)] []), (1, .br true), (2, .reg [(1, cl [0] h3)] []), (3, .reg [(3, cl [0] h4)] []), (4, .reg [(1, cl [0] h5)] []), (5, .br true), (6, .reg [(1, cl [0] h7)] [(2, .one (.own 6 (Row.rows (α := Expr) [r9]) 229))]), (7, .reg [(1, cl [0] h8)] []), (8, .br false), (9, .reg [(1, cl [0] h10)] []), (10, .br false)] [] [(0, 0)] 1 [pf h1, pf (bt h2), pf h3, pf h4, pf h5, pf (bt h6), pf h7, @pf (BldP (α := Expr) [r9] 229) (bldP _ _), pf h8, pf (bf h9), pf h10, pf (bf h11)]
   · obtain ⟨⟨r8, r9⟩, h7, h⟩ := bs h fun _ => sp_word_ok
     obtain ⟨h8, h⟩ | ⟨h8, h⟩ := ite_some h
     · obtain ⟨r10, h9, h⟩ := bs h fun _ => sp_must_ok
       obtain ⟨⟨r11, r12⟩, h10, h⟩ := bs h fun _ => ih.syntax_list_y
       obtain ⟨⟨r13, r14⟩, h11, h⟩ := bs h fun _ => sp_word_ok
       obtain ⟨h12, h⟩ | ⟨h12, h⟩ := ite_some h
       · obtain ⟨⟨r15, r16⟩, h13, h⟩ := bs h fun _ => sp_number_ok
         obtain rfl := Option.some.inj h
         exact rr 28 [(0, .reg [(1, cl [0] h1)] []), (1, .br true), (2, .reg [(1, cl [0] h3)] []), (3, .reg [(3, cl [0] h4)] []), (4, .reg [(1, cl [0] h5)] []), (5, .br false), (6, .reg [(1, cl [0] h7)] []), (7, .br true), (8, .reg [(1, cl [0] h9)] []), (9, .reg [(3, cl [0] h10)] []), (10, .reg [(1, cl [0] h11)] []), (11, .br true), (12, .reg [(1, cl [0] h13)] [])] [] [(0, 0)] 1 [pf h1, pf (bt h2), pf h3, pf h4, pf h5, pf (bf h6), pf h7, pf (bt h8), pf h9, pf h10, pf h11, pf (bt h12), pf h13]
       · obtain rfl := Option.some.inj h
         exact rr 28 [(0, .reg [(1, cl [0] h1)] []), (1, .br true), (2, .reg [(1, cl [0] h3)] []), (3, .reg [(3, cl [0] h4)] []), (4, .reg [(1, cl [0] h5)] []), (5, .br false), (6, .reg [(1, cl [0] h7)] []), (7, .br true), (8, .reg [(1, cl [0] h9)] []), (9, .reg [(3, cl [0] h10)] []), (10, .reg [(1, cl [0] h11)] []), (11, .br false)] [] [(0, 0)] 1 [pf h1, pf (bt h2), pf h3, pf h4, pf h5, pf (bf h6), pf h7, pf (bt h8), pf h9, pf h10, pf h11, pf (bf h12)]
     · obtain ⟨⟨r10, r11⟩, h9, h⟩ := bs h fun _ => sp_word_ok
       obtain ⟨h10, h⟩ | ⟨h10, h⟩ := ite_some h
       · obtain ⟨⟨r12, r13⟩, h11, h⟩ := bs h fun _ => sp_number_ok
         obtain rfl := Option.some.inj h
         exact rr 26 [(0, .reg [(1, cl [0] h1)] []), (1, .br true), (2, .reg [(1, cl [0] h3)] []), (3, .reg [(3, cl [0] h4)] []), (4, .reg [(1, cl [0] h5)] []), (5, .br false), (6, .reg [(1, cl [0] h7)] []), (7, .br false), (8, .reg [(1, cl [0] h9)] []), (9, .br true), (10, .reg [(1, cl [0] h11)] [])] [] [(0, 0)] 1 [pf h1, pf (bt h2), pf h3, pf h4, pf h5, pf (bf h6), pf h7, pf (bf h8), pf h9, pf (bt h10), pf h11]
       · obtain rfl := Option.some.inj h
         exact rr 26 [(0, .reg [(1, cl [0] h1)] []), (1, .br true), (2, .reg [(1, cl [0] h3)] []), (3, .reg [(3, cl [0] h4)] []), (4, .reg [(1, cl [0] h5)] []), (5, .br false), (6, .reg [(1, cl [0] h7)] []), (7, .br false), (8, .reg [(1, cl [0] h9)] []), (9, .br false)] [] [(0, 0)] 1 [pf h1, pf (bt h2), pf h3, pf h4, pf h5, pf (bf h6), pf h7, pf (bf h8), pf h9, pf (bf h10)]
 · obtain ⟨⟨r3, r4⟩, h3, h⟩ := bs h fun _ => sp_word_ok
   obtain ⟨h4, h⟩ | ⟨h4, h⟩ := ite_some h
   · obtain ⟨r5, h5, h⟩ := bs h fun _ => sp_must_ok
     obtain ⟨⟨r6, r7⟩, h6, h⟩ := bs h fun _ => ih.syntax_list_y
     obtain ⟨⟨r8, r9⟩, h7, h⟩ := bs h fun _ => sp_word_ok
     obtain ⟨h8, h⟩ | ⟨h8, h⟩ := ite_some h
     · obtain ⟨⟨r10, r11⟩, h9, h⟩ := bs h fun _ => sp_number_ok
       obtain rfl := Option.some.inj h
       exact rr 21 [(0, .reg [(1, cl [0] h1)] []), (1, .br false), (2, .reg [(1, cl [0] h3)] []), (3, .br true), (4, .reg [(1, cl [0] h5)] []), (5, .reg [(3, cl [0] h6)] []), (6, .reg [(1, cl [0] h7)] []), (7, .br true), (8, .reg [(1, cl [0] h9)] [])] [] [(0, 0)] 1 [pf h1, pf (bf h2), pf h3, pf (bt h4), pf h5, pf h6, pf h7, pf (bt h8), pf h9]
     · obtain rfl := Option.some.inj h
       exact rr 21 [(0, .reg [(1, cl [0] h1)] []), (1, .br false), (2, .reg [(1, cl [0] h3)] []), (3, .br true), (4, .reg [(1, cl [0] h5)] []), (5, .reg [(3, cl [0] h6)] []), (6, .reg [(1, cl [0] h7)] []), (7, .br false)] [] [(0, 0)] 1 [pf h1, pf (bf h2), pf h3, pf (bt h4), pf h5, pf h6, pf h7, pf (bf h8)]
   · obtain ⟨⟨r5, r6⟩, h5, h⟩ := bs h fun _ => sp_word_ok
     obtain ⟨h6, h⟩ | ⟨h6, h⟩ := ite_some h
     · obtain ⟨⟨r7, r8⟩, h7, h⟩ := bs h fun _ => sp_number_ok
       obtain rfl := Option.some.inj h
       exact rr 19 [(0, .reg [(1, cl [0] h1)] []), (1, .br false), (2, .reg [(1, cl [0] h3)] []), (3, .br false), (4, .reg [(1, cl [0] h5)] []), (5, .br true), (6, .reg [(1, cl [0] h7)] [])] [] [(0, 0)] 1 [pf h1, pf (bf h2), pf h3, pf (bf h4), pf h5, pf (bt h6), pf h7]
     · obtain rfl := Option.some.inj h
       exact rr 19 [(0, .reg [(1, cl [0] h1)] []), (1, .br false), (2, .reg [(1, cl [0] h3)] []), (3, .br false), (4, .reg [(1, cl [0] h5)] []), (5, .br false)] [] [(0, 0)] 1 [pf h1, pf (bf h2), pf h3, pf (bf h4), pf h5, pf (bf h6)]
theorem sp_part_j1_okb {m : Nat} (ih : Ok_sp_bracketed m) : Sd4 (sp_part_j1_b (tab_sp_bracketed m)) sp_part_j1_J := by
 intro a0 a1 a2 a3 r h cx
 unfold sp_part_j1_b at h
 obtain ⟨⟨r1, r2⟩, h1, h⟩ := bs h fun _ => sp_word_ok
 obtain ⟨h2, h⟩ | ⟨h2, h⟩ := ite_some h
 · obtain ⟨⟨r3, r4⟩, h3, h⟩ := bs h fun _ => ih.sp_expr
   exact tt 5 [(0, .reg [(1, cl [0] h1)] []), (1, .br true), (2, .reg [(1, cl [0] h3)] [(2, .one (.own 6 (Row.rows (α := Expr) [r4]) 68))])] [] [0, 2, 4] [(0, 0), (1, 1), (2, 2), (3, 3), (68, 4)] 5 [pf h1, pf (bt h2), pf h3, @pf (BldP (α := Expr) [r4] 68) (bldP _ _)] (sp_part_j2_okb ih h cx)
 · exact tt 5 [(0, .reg [(1, cl [0] h1)] []), (1, .br false)] [.cellOwn 2 4 36 26] [0, 2, 4] [(0, 0), (1, 1), (2, 2), (3, 3), (36, 4)] 5 [pf h1, pf (bf h2)] (sp_part_j2_okb ih h cx)
theorem sp_part_okb {m : Nat} (ih : Ok_sp_bracketed m) : Sd1 (sp_part_b (tab_sp_bracketed m)) sp_part_J := by
 intro a0 r h
 unfold sp_part_b at h
 refine ent (c := bodyOf f30) func30 rfl rfl rfl fun cx => ?_
 obtain ⟨⟨r1, r2⟩, h1, h⟩ := bs h fun _ => sp_mark_ok
 obtain ⟨h2, h⟩ | ⟨h2, h⟩ := ite_some h
 · obtain ⟨⟨r3, r4⟩, h3, h⟩ := bs h fun _ => ih.sp_query
   obtain ⟨r5, h4, h⟩ := bs h fun _ => sp_need_ok
   obtain rfl := Option.some.inj h
   exact rr 14 [(1, .reg [(1, cl [0] h1)] []), (2, .br true), (3, .reg [(1, cl [0] h3)] []), (4, .reg [(1, cl [0] h4)] [])] [] [(0, 0)] 1 [pf h1, pf (bt h2), pf h3, pf h4]
 · obtain ⟨r3, h3, h⟩ := bs h fun _ => sp_must_ok
   obtain ⟨⟨r4, r5⟩, h4, h⟩ := bs h fun _ => sp_word_ok
   obtain ⟨⟨r6, r7⟩, h5, h⟩ := bs h fun _ => ih.syntax_list_m
   obtain ⟨⟨r8, r9⟩, h6, h⟩ := bs h fun _ => sp_word_ok
   obtain ⟨h7, h⟩ | ⟨h7, h⟩ := ite_some h
   · obtain ⟨⟨r10, r11⟩, h8, h⟩ := bs h fun _ => ih.sp_source
     exact tt 18 [(1, .reg [(1, cl [0] h1)] []), (2, .br false), (3, .reg [(1, cl [0] h3)] []), (4, .reg [(1, cl [0] h4)] []), (5, .reg [(3, cl [0] h5)] []), (6, .reg [(1, cl [0] h6)] []), (7, .br true), (8, .reg [(1, cl [0] h8)] [(2, .one (.own 7 (Row.rows (α := From) [r11]) 321))])] [] [0, 2, 4] [(0, 0), (1, 1), (129, 2), (321, 3)] 4 [pf h1, pf (bf h2), pf h3, pf h4, pf h5, pf h6, pf (bt h7), pf h8, @pf (BldP (α := From) [r11] 321) (bldP _ _)] (sp_part_j1_okb ih h cx)
   · exact tt 18 [(1, .reg [(1, cl [0] h1)] []), (2, .br false), (3, .reg [(1, cl [0] h3)] []), (4, .reg [(1, cl [0] h4)] []), (5, .reg [(3, cl [0] h5)] []), (6, .reg [(1, cl [0] h6)] []), (7, .br false)] [.cellOwn 129 3 289 47] [0, 2, 4] [(0, 0), (1, 1), (129, 2), (289, 3)] 4 [pf h1, pf (bf h2), pf h3, pf h4, pf h5, pf h6, pf (bf h7)] (sp_part_j1_okb ih h cx)
theorem sp_prim_okb {m : Nat} (ih : Ok_sp_bracketed m) : Sd1 (sp_prim_b (tab_sp_bracketed m)) sp_prim_J := by
 intro a0 r h
 unfold sp_prim_b at h
 refine ent (c := bodyOf f97) func97 rfl rfl rfl fun cx => ?_
 obtain ⟨h1, h⟩ | ⟨h1, h⟩ := ite_some h
 · obtain ⟨r1, h2, h⟩ := bs h fun _ => sp_now_ok
   obtain ⟨h3, h⟩ | ⟨h3, h⟩ := ite_some h
   · obtain ⟨r2, h4, h⟩ := bs h fun _ => sp_next_ok
     obtain rfl := Option.some.inj h
     exact rr 22 [(2, .br false), (3, .reg [(1, cl [0] h2 [0])] []), (6, .br true), (7, .reg [(1, cl [0] h4)] [])] [] [(0, 0)] 1 [pf (ndf h1), pf h2, @pf (SameO (.var 64 (ca a0))) rfl, pf (dt h3), pf h4]
   · obtain ⟨h4, h⟩ | ⟨h4, h⟩ := ite_some h
     · obtain ⟨r2, h5, h⟩ := bs h fun _ => sp_next_ok
       obtain rfl := Option.some.inj h
       exact rr 25 [(2, .br false), (3, .reg [(1, cl [0] h2 [0])] []), (6, .br false), (8, .br true), (9, .reg [(1, cl [0] h5)] [])] [] [(0, 0)] 1 [pf (ndf h1), pf h2, @pf (SameO (.var 64 (ca a0))) rfl, pf (df h3), pf (dt h4), pf h5]
     · obtain ⟨⟨r2, r3⟩, h5, h⟩ := bs h fun _ => sp_word_ok
       obtain ⟨h6, h⟩ | ⟨h6, h⟩ := ite_some h
       · obtain rfl := Option.some.inj h
         exact rr 30 [(2, .br false), (3, .reg [(1, cl [0] h2 [0])] []), (6, .br false), (8, .br false), (9, .reg [(1, cl [0] h5)] []), (10, .br true)] [] [(0, 0)] 1 [pf (ndf h1), pf h2, @pf (SameO (.var 64 (ca a0))) rfl, pf (df h3), pf (df h4), pf h5, pf (bt h6)]
       · obtain ⟨⟨r4, r5⟩, h7, h⟩ := bs h fun _ => sp_word_ok
         obtain ⟨h8, h⟩ | ⟨h8, h⟩ := ite_some h
         · obtain rfl := Option.some.inj h
           exact rr 33 [(2, .br false), (3, .reg [(1, cl [0] h2 [0])] []), (6, .br false), (8, .br false), (9, .reg [(1, cl [0] h5)] []), (10, .br false), (11, .reg [(1, cl [0] h7)] []), (12, .br true)] [] [(0, 0)] 1 [pf (ndf h1), pf h2, @pf (SameO (.var 64 (ca a0))) rfl, pf (df h3), pf (df h4), pf h5, pf (bf h6), pf h7, pf (bt h8)]
         · obtain ⟨⟨r6, r7⟩, h9, h⟩ := bs h fun _ => sp_word_ok
           obtain ⟨h10, h⟩ | ⟨h10, h⟩ := ite_some h
           · obtain rfl := Option.some.inj h
             exact rr 36 [(2, .br false), (3, .reg [(1, cl [0] h2 [0])] []), (6, .br false), (8, .br false), (9, .reg [(1, cl [0] h5)] []), (10, .br false), (11, .reg [(1, cl [0] h7)] []), (12, .br false), (13, .reg [(1, cl [0] h9)] []), (14, .br true)] [] [(0, 0)] 1 [pf (ndf h1), pf h2, @pf (SameO (.var 64 (ca a0))) rfl, pf (df h3), pf (df h4), pf h5, pf (bf h6), pf h7, pf (bf h8), pf h9, pf (bt h10)]
           · obtain ⟨⟨r8, r9⟩, h11, h⟩ := bs h fun _ => sp_mark_ok
             obtain ⟨h12, h⟩ | ⟨h12, h⟩ := ite_some h
             · obtain ⟨⟨r10, r11⟩, h13, h⟩ := bs h fun _ => sp_name_ok
               obtain rfl := Option.some.inj h
               exact rr 39 [(2, .br false), (3, .reg [(1, cl [0] h2 [0])] []), (6, .br false), (8, .br false), (9, .reg [(1, cl [0] h5)] []), (10, .br false), (11, .reg [(1, cl [0] h7)] []), (12, .br false), (13, .reg [(1, cl [0] h9)] []), (14, .br false), (15, .reg [(1, cl [0] h11)] []), (16, .br true), (17, .reg [(1, cl [0] h13)] [])] [] [(0, 0)] 1 [pf (ndf h1), pf h2, @pf (SameO (.var 64 (ca a0))) rfl, pf (df h3), pf (df h4), pf h5, pf (bf h6), pf h7, pf (bf h8), pf h9, pf (bf h10), pf h11, pf (bt h12), pf h13]
             · obtain ⟨⟨r10, r11⟩, h13, h⟩ := bs h fun _ => sp_word_ok
               obtain ⟨h14, h⟩ | ⟨h14, h⟩ := ite_some h
               · obtain ⟨⟨r12, r13⟩, h15, h⟩ := bs h fun _ => ih.sp_cases
                 obtain rfl := Option.some.inj h
                 exact rr 42 [(2, .br false), (3, .reg [(1, cl [0] h2 [0])] []), (6, .br false), (8, .br false), (9, .reg [(1, cl [0] h5)] []), (10, .br false), (11, .reg [(1, cl [0] h7)] []), (12, .br false), (13, .reg [(1, cl [0] h9)] []), (14, .br false), (15, .reg [(1, cl [0] h11)] []), (16, .br false), (17, .reg [(1, cl [0] h13)] []), (18, .br true), (19, .reg [(1, cl [0] h15)] [])] [] [(0, 0)] 1 [pf (ndf h1), pf h2, @pf (SameO (.var 64 (ca a0))) rfl, pf (df h3), pf (df h4), pf h5, pf (bf h6), pf h7, pf (bf h8), pf h9, pf (bf h10), pf h11, pf (bf h12), pf h13, pf (bt h14), pf h15]
               · obtain ⟨⟨r12, r13⟩, h15, h⟩ := bs h fun _ => sp_word_ok
                 obtain ⟨h16, h⟩ | ⟨h16, h⟩ := ite_some h
                 · obtain ⟨⟨r14, r15⟩, h17, h⟩ := bs h fun _ => ih.sp_bracketed
                   obtain rfl := Option.some.inj h
                   exact rr 45 [(2, .br false), (3, .reg [(1, cl [0] h2 [0])] []), (6, .br false), (8, .br false), (9, .reg [(1, cl [0] h5)] []), (10, .br false), (11, .reg [(1, cl [0] h7)] []), (12, .br false), (13, .reg [(1, cl [0] h9)] []), (14, .br false), (15, .reg [(1, cl [0] h11)] []), (16, .br false), (17, .reg [(1, cl [0] h13)] []), (18, .br false), (19, .reg [(1, cl [0] h15)] []), (20, .br true), (21, .reg [(1, cl [0] h17)] [(2, .one (.own 10 (Row.rows (α := Query) [r15]) 577))])] [] [(0, 0)] 1 [pf (ndf h1), pf h2, @pf (SameO (.var 64 (ca a0))) rfl, pf (df h3), pf (df h4), pf h5, pf (bf h6), pf h7, pf (bf h8), pf h9, pf (bf h10), pf h11, pf (bf h12), pf h13, pf (bf h14), pf h15, pf (bt h16), pf h17, @pf (BldP (α := Query) [r15] 577) (bldP _ _)]
                 · obtain ⟨⟨r14, r15⟩, h17, h⟩ := bs h fun _ => sp_mark_ok
                   obtain ⟨h18, h⟩ | ⟨h18, h⟩ := ite_some h
                   · obtain ⟨⟨r16, r17⟩, h19, h⟩ := bs h fun _ => ih.sp_round
                     obtain rfl := Option.some.inj h
                     exact rr 48 [(2, .br false), (3, .reg [(1, cl [0] h2 [0])] []), (6, .br false), (8, .br false), (9, .reg [(1, cl [0] h5)] []), (10, .br false), (11, .reg [(1, cl [0] h7)] []), (12, .br false), (13, .reg [(1, cl [0] h9)] []), (14, .br false), (15, .reg [(1, cl [0] h11)] []), (16, .br false), (17, .reg [(1, cl [0] h13)] []), (18, .br false), (19, .reg [(1, cl [0] h15)] []), (20, .br false), (21, .reg [(1, cl [0] h17)] []), (22, .br true), (23, .reg [(1, cl [0] h19)] [])] [] [(0, 0)] 1 [pf (ndf h1), pf h2, @pf (SameO (.var 64 (ca a0))) rfl, pf (df h3), pf (df h4), pf h5, pf (bf h6), pf h7, pf (bf h8), pf h9, pf (bf h10), pf h11, pf (bf h12), pf h13, pf (bf h14), pf h15, pf (bf h16), pf h17, pf (bt h18), pf h19]
                   · obtain ⟨⟨r16, r17⟩, h19, h⟩ := bs h fun _ => ih.sp_column
                     obtain rfl := Option.some.inj h
                     exact rr 50 [(2, .br false), (3, .reg [(1, cl [0] h2 [0])] []), (6, .br false), (8, .br false), (9, .reg [(1, cl [0] h5)] []), (10, .br false), (11, .reg [(1, cl [0] h7)] []), (12, .br false), (13, .reg [(1, cl [0] h9)] []), (14, .br false), (15, .reg [(1, cl [0] h11)] []), (16, .br false), (17, .reg [(1, cl [0] h13)] []), (18, .br false), (19, .reg [(1, cl [0] h15)] []), (20, .br false), (21, .reg [(1, cl [0] h17)] []), (22, .br false), (23, .reg [(1, cl [0] h19)] [])] [] [(0, 0)] 1 [pf (ndf h1), pf h2, @pf (SameO (.var 64 (ca a0))) rfl, pf (df h3), pf (df h4), pf h5, pf (bf h6), pf h7, pf (bf h8), pf h9, pf (bf h10), pf h11, pf (bf h12), pf h13, pf (bf h14), pf h15, pf (bf h16), pf h17, pf (bf h18), pf h19]
 · obtain rfl := Option.some.inj h
   exact rr 10 [(2, .br true)] [] [(0, 0)] 1 [pf (ndt h1)]
theorem sp_prod_okb {m : Nat} (ih : Ok_sp_bracketed m) : Sd1 (sp_prod_b (tab_sp_bracketed m)) sp_prod_J := by
 intro a0 r h
 unfold sp_prod_b at h
 refine ent (c := bodyOf f85) func85 rfl rfl rfl fun cx => ?_
 obtain ⟨⟨r1, r2⟩, h1, h⟩ := bs h fun _ => ih.sp_left_unary
 obtain rfl := Option.some.inj h
 exact rr 6 [(1, .reg [(6, cl [0] h1)] [(5, .one (.own 1 (Row.rows (α := Str) [s_x2a, s_x2f, s_x25]) 97))])] [] [(0, 0)] 1 [@pf (BldP (α := Str) [s_x2a, s_x2f, s_x25] 97) (bldP _ _), pf h1]
theorem sp_query_okb {m : Nat} (ih : Ok_sp_bracketed m) : Sd1 (sp_query_b (tab_sp_bracketed m)) sp_query_J := by
 intro a0 r h
 unfold sp_query_b at h
 refine ent (c := bodyOf f16) func16 rfl rfl rfl fun cx => ?_
 obtain ⟨⟨r1, r2⟩, h1, h⟩ := bs h fun _ => sp_enter_ok
 obtain ⟨h2, h⟩ | ⟨h2, h⟩ := ite_some h
 · obtain ⟨⟨r3, r4⟩, h3, h⟩ := bs h fun _ => ih.sp_part
   exact tt 14 [(2, .reg [(1, cl [0] h1)] []), (3, .br false), (4, .reg [(1, cl [0] h3)] [])] [] [0, 2, 4] [(0, 0), (1, 1), (145, 2)] 3 [pf h1, pf (nbf h2), pf h3] (ih.sp_query_l1 h cx)
 · obtain rfl := Option.some.inj h
   exact rr 12 [(2, .reg [(1, cl [0] h1)] []), (3, .br true)] [] [(0, 0)] 1 [pf h1, pf (nbt h2)]
theorem sp_query_j2_okb {m : Nat} (ih : Ok_sp_bracketed m) : Sd3 (sp_query_j2_b (tab_sp_bracketed m)) sp_query_j2_J := by
 intro a0 a1 a2 r h cx
 unfold sp_query_j2_b at h
 obtain ⟨h1, h⟩ | ⟨h1, h⟩ := ite_some h
 · obtain ⟨r1, h2, h⟩ := bs h fun _ => sp_leave_ok
   obtain rfl := Option.some.inj h
   exact rr 11 [(1, .br true), (2, .reg [(1, cl [0] h2)] [])] [] [(0, 0)] 1 [pf (dt h1), pf h2]
 · obtain ⟨⟨r1, r2⟩, h2, h⟩ := bs h fun _ => ih.sp_part
   exact tt 8 [(1, .br false), (2, .reg [(3, cl [0] h2)] [(4, .one (.own 10 (Row.rows (α := Query) [a1, r2]) 99))])] [.cell 2 2, .cell 2 3, .cell 2 4, .cell 2 5, .cell 2 6, .cell 2 7, .cell 2 9] [0, 2, 4] [(0, 0), (1, 1), (2, 2)] 3 [pf (df h1), pf h2, @pf (BldP (α := Query) [a1, r2] 99) (bldP _ _)] (ih.sp_query_l1 h cx)
theorem sp_query_l1_okb {m : Nat} (ih : Ok_sp_bracketed m) : Sd2 (sp_query_l1_b (tab_sp_bracketed m)) sp_query_l1_J := by
 intro a0 a1 r h cx
 unfold sp_query_l1_b at h
 obtain ⟨h1, h⟩ | ⟨h1, h⟩ := ite_some h
 · obtain ⟨⟨r1, r2⟩, h2, h⟩ := bs h fun _ => sp_word_ok
   obtain ⟨h3, h⟩ | ⟨h3, h⟩ := ite_some h
   · obtain ⟨⟨r3, r4⟩, h4, h⟩ := bs h fun _ => sp_word_ok
     obtain ⟨h5, h⟩ | ⟨h5, h⟩ := ite_some h
     · exact tt 20 [(1, .br true), (3, .reg [(1, cl [0] h2)] []), (4, .br true), (6, .reg [(1, cl [0] h4)] []), (7, .br true)] [] [0, 2, 4, 5] [(0, 0), (1, 1), (2, 2)] 3 [pf (dt h1), pf h2, pf (bt h3), pf h4, pf (bt h5)] (sp_query_j2_okb ih h cx)
     · exact tt 20 [(1, .br true), (3, .reg [(1, cl [0] h2)] []), (4, .br true), (6, .reg [(1, cl [0] h4)] []), (7, .br false)] [] [0, 2, 4, 5] [(0, 0), (1, 1), (2, 2)] 3 [pf (dt h1), pf h2, pf (bt h3), pf h4, pf (bf h5)] (sp_query_j2_okb ih h cx)
   · obtain ⟨⟨r3, r4⟩, h4, h⟩ := bs h fun _ => sp_word_ok
     obtain ⟨h5, h⟩ | ⟨h5, h⟩ := ite_some h
     · exact tt 18 [(1, .br true), (3, .reg [(1, cl [0] h2)] []), (4, .br false), (5, .reg [(1, cl [0] h4)] []), (6, .br true)] [] [0, 2, 4, 5] [(0, 0), (1, 1), (2, 2)] 3 [pf (dt h1), pf h2, pf (bf h3), pf h4, pf (bt h5)] (sp_query_j2_okb ih h cx)
     · obtain ⟨⟨r5, r6⟩, h6, h⟩ := bs h fun _ => sp_word_ok
       obtain ⟨h7, h⟩ | ⟨h7, h⟩ := ite_some h
       · exact tt 21 [(1, .br true), (3, .reg [(1, cl [0] h2)] []), (4, .br false), (5, .reg [(1, cl [0] h4)] []), (6, .br false), (7, .reg [(1, cl [0] h6)] []), (8, .br true)] [] [0, 2, 4, 5] [(0, 0), (1, 1), (2, 2)] 3 [pf (dt h1), pf h2, pf (bf h3), pf h4, pf (bf h5), pf h6, pf (bt h7)] (sp_query_j2_okb ih h cx)
       · exact tt 21 [(1, .br true), (3, .reg [(1, cl [0] h2)] []), (4, .br false), (5, .reg [(1, cl [0] h4)] []), (6, .br false), (7, .reg [(1, cl [0] h6)] []), (8, .br false)] [] [0, 2, 4, 5] [(0, 0), (1, 1), (2, 2)] 3 [pf (dt h1), pf h2, pf (bf h3), pf h4, pf (bf h5), pf h6, pf (bf h7)] (sp_query_j2_okb ih h cx)
 · obtain ⟨r1, h2, h⟩ := bs h fun _ => sp_leave_ok
   obtain rfl := Option.some.inj h
   exact rr 11 [(1, .br false), (2, .reg [(1, cl [0] h2)] [])] [] [(0, 0)] 1 [pf (df h1), pf h2]
theorem sp_round_okb {m : Nat} (ih : Ok_sp_bracketed m) : Sd1 (sp_round_b (tab_sp_bracketed m)) sp_round_J := by
 intro a0 r h
 unfold sp_round_b at h
 refine ent (c := bodyOf f99) func99 rfl rfl rfl fun cx => ?_
 obtain ⟨r1, h1, h⟩ := bs h fun _ => sp_sees_ok
 obtain ⟨h2, h⟩ | ⟨h2, h⟩ := ite_some h
 · obtain ⟨⟨r2, r3⟩, h3, h⟩ := bs h fun _ => ih.sp_query
   obtain ⟨r4, h4, h⟩ := bs h fun _ => sp_need_ok
   obtain rfl := Option.some.inj h
   exact rr 14 [(1, .reg [(1, cl [0] h1 [0])] []), (2, .br true), (3, .reg [(1, cl [0] h3)] [(2, .one (.own 10 (Row.rows (α := Query) [r3]) 81))]), (4, .reg [(1, cl [0] h4)] [])] [] [(0, 0)] 1 [pf h1, @pf (SameO (.var 64 (ca a0))) rfl, pf (bt h2), pf h3, @pf (BldP (α := Query) [r3] 81) (bldP _ _), pf h4]
 · obtain ⟨⟨r2, r3⟩, h3, h⟩ := bs h fun _ => ih.sp_expr
   obtain ⟨r4, h4, h⟩ := bs h fun _ => sp_need_ok
   obtain rfl := Option.some.inj h
   exact rr 15 [(1, .reg [(1, cl [0] h1 [0])] []), (2, .br false), (3, .reg [(1, cl [0] h3)] []), (4, .reg [(1, cl [0] h4)] [])] [] [(0, 0)] 1 [pf h1, @pf (SameO (.var 64 (ca a0))) rfl, pf (bf h2), pf h3, pf h4]
theorem sp_single_okb {m : Nat} (ih : Ok_sp_bracketed m) : Sd1 (sp_single_b (tab_sp_bracketed m)) sp_single_J := by
 intro a0 r h
 unfold sp_single_b at h
 refine ent (c := bodyOf f70) func70 rfl rfl rfl fun cx => ?_
 obtain ⟨⟨r1, r2⟩, h1, h⟩ := bs h fun _ => sp_mark_ok
 obtain ⟨h2, h⟩ | ⟨h2, h⟩ := ite_some h
 · obtain ⟨⟨r3, r4⟩, h3, h⟩ := bs h fun _ => ih.sp_query
   obtain ⟨r5, h4, h⟩ := bs h fun _ => sp_need_ok
   obtain ⟨r6, h5, h⟩ := bs h fun _ => sp_must_ok
   obtain ⟨⟨r7, r8⟩, h6, h⟩ := bs h fun _ => sp_name_ok
   obtain rfl := Option.some.inj h
   exact rr 16 [(1, .reg [(1, cl [0] h1)] []), (2, .br true), (3, .reg [(1, cl [0] h3)] []), (4, .reg [(1, cl [0] h4)] []), (5, .reg [(1, cl [0] h5)] []), (6, .reg [(1, cl [0] h6)] [(3, .one (.own 10 (Row.rows (α := Query) [r4]) 225))])] [] [(0, 0)] 1 [pf h1, pf (bt h2), pf h3, pf h4, pf h5, pf h6, @pf (BldP (α := Query) [r4] 225) (bldP _ _)]
 · obtain ⟨⟨r3, r4⟩, h3, h⟩ := bs h fun _ => sp_name_ok
   obtain ⟨⟨r5, r6⟩, h4, h⟩ := bs h fun _ => sp_word_ok
   obtain ⟨⟨r7, r8⟩, h5, h⟩ := bs h fun _ => sp_word_ok
   obtain ⟨h6, h⟩ | ⟨h6, h⟩ := ite_some h
   · obtain ⟨⟨r9, r10⟩, h7, h⟩ := bs h fun _ => sp_name_ok
     obtain rfl := Option.some.inj h
     exact rr 20 [(1, .reg [(1, cl [0] h1)] []), (2, .br false), (3, .reg [(1, cl [0] h3)] []), (4, .reg [(3, cl [0] h4)] []), (5, .reg [(1, cl [0] h5)] []), (6, .br true), (7, .reg [(1, cl [0] h7)] [])] [] [(0, 0)] 1 [pf h1, pf (bf h2), pf h3, pf h4, pf h5, pf (bt h6), pf h7]
   · obtain rfl := Option.some.inj h
     exact rr 20 [(1, .reg [(1, cl [0] h1)] []), (2, .br false), (3, .reg [(1, cl [0] h3)] []), (4, .reg [(3, cl [0] h4)] []), (5, .reg [(1, cl [0] h5)] []), (6, .br false)] [] [(0, 0)] 1 [pf h1, pf (bf h2), pf h3, pf h4, pf h5, pf (bf h6)]
theorem sp_source_okb {m : Nat} (ih : Ok_sp_bracketed m) : Sd1 (sp_source_b (tab_sp_bracketed m)) sp_source_J := by
 intro a0 r h
 unfold sp_source_b at h
 refine ent (c := bodyOf f49) func49 rfl rfl rfl fun cx => ?_
 obtain ⟨⟨r1, r2⟩, h1, h⟩ := bs h fun _ => ih.sp_single
 exact tt 7 [(1, .reg [(1, cl [0] h1)] [])] [] [0, 2, 3] [(0, 0), (1, 1), (49, 2)] 3 [pf h1] (ih.sp_source_l1 h cx)
theorem sp_source_j2_okb {m : Nat} (ih : Ok_sp_bracketed m) : Sd3 (sp_source_j2_b (tab_sp_bracketed m)) sp_source_j2_J := by
 intro a0 a1 a2 r h cx
 unfold sp_source_j2_b at h
 obtain ⟨h1, h⟩ | ⟨h1, h⟩ := ite_some h
 · obtain rfl := Option.some.inj h
   exact rr 9 [(1, .br true)] [] [(0, 0)] 1 [pf (dt h1)]
 · obtain ⟨⟨r1, r2⟩, h2, h⟩ := bs h fun _ => ih.sp_single
   obtain ⟨r3, h3, h⟩ := bs h fun _ => sp_must_ok
   obtain ⟨⟨r4, r5⟩, h4, h⟩ := bs h fun _ => ih.sp_expr
   exact tt 12 [(1, .br false), (2, .reg [(1, cl [0] h2)] []), (3, .reg [(1, cl [0] h3)] []), (4, .reg [(5, cl [0] h4)] [(3, .one (.own 7 (Row.rows (α := From) [a1, r2]) 179)), (6, .one (.own 6 (Row.rows (α := Expr) [r5]) 227))])] [.cell 2 4, .cell 2 5, .cell 2 6] [0, 2, 3] [(0, 0), (1, 1), (2, 2)] 3 [pf (df h1), pf h2, pf h3, @pf (BldP (α := From) [a1, r2] 179) (bldP _ _), pf h4, @pf (BldP (α := Expr) [r5] 227) (bldP _ _)] (ih.sp_source_l1 h cx)
theorem sp_source_l1_okb {m : Nat} (ih : Ok_sp_bracketed m) : Sd2 (sp_source_l1_b (tab_sp_bracketed m)) sp_source_l1_J := by
 intro a0 a1 r h cx
 unfold sp_source_l1_b at h
 obtain ⟨h1, h⟩ | ⟨h1, h⟩ := ite_some h
 · obtain ⟨⟨r1, r2⟩, h2, h⟩ := bs h fun _ => sp_word_ok
   obtain ⟨h3, h⟩ | ⟨h3, h⟩ := ite_some h
   · obtain ⟨r3, h4, h⟩ := bs h fun _ => sp_must_ok
     exact tt 17 [(1, .br true), (3, .reg [(1, cl [0] h2)] []), (4, .br true), (6, .reg [(1, cl [0] h4)] [])] [] [0, 2, 3, 4] [(0, 0), (1, 1), (2, 2)] 3 [pf (dt h1), pf h2, pf (bt h3), pf h4] (sp_source_j2_okb ih h cx)
   · obtain ⟨⟨r3, r4⟩, h4, h⟩ := bs h fun _ => sp_word_ok
     obtain ⟨h5, h⟩ | ⟨h5, h⟩ := ite_some h
     · exact tt 18 [(1, .br true), (3, .reg [(1, cl [0] h2)] []), (4, .br false), (5, .reg [(1, cl [0] h4)] []), (6, .br true)] [] [0, 2, 3, 4] [(0, 0), (1, 1), (2, 2)] 3 [pf (dt h1), pf h2, pf (bf h3), pf h4, pf (bt h5)] (sp_source_j2_okb ih h cx)
     · exact tt 18 [(1, .br true), (3, .reg [(1, cl [0] h2)] []), (4, .br false), (5, .reg [(1, cl [0] h4)] []), (6, .br false)] [] [0, 2, 3, 4] [(0, 0), (1, 1), (2, 2)] 3 [pf (dt h1), pf h2, pf (bf h3), pf h4, pf (bf h5)] (sp_source_j2_okb ih h cx)
 · obtain rfl := Option.some.inj h
   exact rr 9 [(1, .br false)] [] [(0, 0)] 1 [pf (df h1)]
theorem sp_sum_okb {m : Nat} (ih : Ok_sp_bracketed m) : Sd1 (sp_sum_b (tab_sp_bracketed m)) sp_sum_J := by
 intro a0 r h
 unfold sp_sum_b at h
 refine ent (c := bodyOf f68) func68 rfl rfl rfl fun cx => ?_
 obtain ⟨⟨r1, r2⟩, h1, h⟩ := bs h fun _ => ih.sp_left_prod
 obtain rfl := Option.some.inj h
 exact rr 6 [(1, .reg [(6, cl [0] h1)] [(5, .one (.own 1 (Row.rows (α := Str) [s_x2b, s_x2d, s_x7cx7c]) 97))])] [] [(0, 0)] 1 [@pf (BldP (α := Str) [s_x2b, s_x2d, s_x7cx7c] 97) (bldP _ _), pf h1]
theorem sp_unary_okb {m : Nat} (ih : Ok_sp_bracketed m) : Sd1 (sp_unary_b (tab_sp_bracketed m)) sp_unary_J := by
 intro a0 r h
 unfold sp_unary_b at h
 refine ent (c := bodyOf f94) func94 rfl rfl rfl fun cx => ?_
 obtain ⟨⟨r1, r2⟩, h1, h⟩ := bs h fun _ => sp_mark_ok
 obtain ⟨h2, h⟩ | ⟨h2, h⟩ := ite_some h
 · obtain ⟨⟨r3, r4⟩, h3, h⟩ := bs h fun _ => ih.sp_inner_unary
   obtain rfl := Option.some.inj h
   exact rr 10 [(1, .reg [(1, cl [0] h1)] []), (2, .br true), (3, .reg [(3, cl [0] h3)] [])] [] [(0, 0)] 1 [pf h1, pf (bt h2), pf h3]
 · obtain ⟨⟨r3, r4⟩, h3, h⟩ := bs h fun _ => ih.sp_prim
   obtain rfl := Option.some.inj h
   exact rr 11 [(1, .reg [(1, cl [0] h1)] []), (2, .br false), (3, .reg [(1, cl [0] h3)] [])] [] [(0, 0)] 1 [pf h1, pf (bf h2), pf h3]
theorem syntax_list_m_okb {m : Nat} (ih : Ok_sp_bracketed m) : Sd1 (syntax_list_m_b (tab_sp_bracketed m)) syntax_list_m_J := by
 intro a0 r h
 unfold syntax_list_m_b at h
 refine ent (c := bodyOf f47) func47 rfl rfl rfl fun cx => ?_
 obtain ⟨⟨r1, r2⟩, h1, h⟩ := bs h fun _ => ih.sp_item
 exact tt 7 [(1, .reg [(1, cl [0] h1)] [(2, .one (.own 7 (Row.rows (α := ItemT) [r2]) 49))])] [] [0, 1, 5] [(0, 0), (49, 1)] 2 [pf h1, @pf (BldP (α := ItemT) [r2] 49) (bldP _ _)] (ih.syntax_list_m_l1 h cx)
theorem syntax_list_m_l1_okb {m : Nat} (ih : Ok_sp_bracketed m) : Sd2 (syntax_list_m_l1_b (tab_sp_bracketed m)) syntax_list_m_l1_J := by
 intro a0 a1 r h cx
 unfold syntax_list_m_l1_b at h
 obtain ⟨⟨r1, r2⟩, h1, h⟩ := bs h fun _ => sp_mark_ok
 obtain ⟨h2, h⟩ | ⟨h2, h⟩ := ite_some h
 · obtain ⟨⟨r3, r4⟩, h3, h⟩ := bs h fun _ => ih.sp_item
   obtain ⟨h4, h⟩ := chk_some h
   exact tt 9 [(0, .reg [(1, cl [0] h1)] []), (1, .br true), (2, .reg [(2, cl [0] h3)] [(3, .one (.own 7 (Row.rows (α := ItemT) [r4]) 82)), (4, .one (.own 7 (Row.rows (α := ItemT) (a1 ++ [r4])) 98))])] [] [0, 1, 5] [(0, 0), (98, 1)] 2 [pf h1, pf (bt h2), pf h3, @pf (BldP (α := ItemT) [r4] 82) (bldP _ _), @pf (AppP (α := ItemT) a1 [r4] 98) (appP _ _ _), pf (cap1 h4), pf (cap2 h4)] (ih.syntax_list_m_l1 h cx)
 · obtain rfl := Option.some.inj h
   exact rr 9 [(0, .reg [(1, cl [0] h1)] []), (1, .br false)] [] [(0, 0)] 1 [pf h1, pf (bf h2)]
theorem syntax_list_r_2_okb {m : Nat} (ih : Ok_sp_bracketed m) : Sd1 (syntax_list_r_2_b (tab_sp_bracketed m)) syntax_list_r_2_J := by
 intro a0 r h
 unfold syntax_list_r_2_b at h
 refine ent (c := bodyOf f50) func50 rfl rfl rfl fun cx => ?_
 obtain ⟨⟨r1, r2⟩, h1, h⟩ := bs h fun _ => ih.sp_expr
 exact tt 7 [(1, .reg [(1, cl [0] h1)] [(2, .one (.own 6 (Row.rows (α := Expr) [r2]) 49))])] [] [0, 1, 5] [(0, 0), (49, 1)] 2 [pf h1, @pf (BldP (α := Expr) [r2] 49) (bldP _ _)] (ih.syntax_list_r_2_l1 h cx)
theorem syntax_list_r_2_l1_okb {m : Nat} (ih : Ok_sp_bracketed m) : Sd2 (syntax_list_r_2_l1_b (tab_sp_bracketed m)) syntax_list_r_2_l1_J := by
 intro a0 a1 r h cx
 unfold syntax_list_r_2_l1_b at h
 obtain ⟨⟨r1, r2⟩, h1, h⟩ := bs h fun _ => sp_mark_ok
 obtain ⟨h2, h⟩ | ⟨h2, h⟩ := ite_some h
 · obtain ⟨⟨r3, r4⟩, h3, h⟩ := bs h fun _ => ih.sp_expr
   obtain ⟨h4, h⟩ := chk_some h
   exact tt 9 [(0, .reg [(1, cl [0] h1)] []), (1, .br true), (2, .reg [(2, cl [0] h3)] [(3, .one (.own 6 (Row.rows (α := Expr) [r4]) 82)), (4, .one (.own 6 (Row.rows (α := Expr) (a1 ++ [r4])) 98))])] [] [0, 1, 5] [(0, 0), (98, 1)] 2 [pf h1, pf (bt h2), pf h3, @pf (BldP (α := Expr) [r4] 82) (bldP _ _), @pf (AppP (α := Expr) a1 [r4] 98) (appP _ _ _), pf (cap1 h4), pf (cap2 h4)] (ih.syntax_list_r_2_l1 h cx)
 · obtain rfl := Option.some.inj h
   exact rr 9 [(0, .reg [(1, cl [0] h1)] []), (1, .br false)] [] [(0, 0)] 1 [pf h1, pf (bf h2)]
theorem syntax_list_y_okb {m : Nat} (ih : Ok_sp_bracketed m) : Sd1 (syntax_list_y_b (tab_sp_bracketed m)) syntax_list_y_J := by
 intro a0 r h
 unfold syntax_list_y_b at h
 refine ent (c := bodyOf f51) func51 rfl rfl rfl fun cx => ?_
 obtain ⟨⟨r1, r2⟩, h1, h⟩ := bs h fun _ => ih.sp_key
 exact tt 7 [(1, .reg [(1, cl [0] h1)] [(2, .one (.own 7 (Row.rows (α := Key) [r2]) 49))])] [] [0, 1, 5] [(0, 0), (49, 1)] 2 [pf h1, @pf (BldP (α := Key) [r2] 49) (bldP _ _)] (ih.syntax_list_y_l1 h cx)
theorem syntax_list_y_l1_okb {m : Nat} (ih : Ok_sp_bracketed m) : Sd2 (syntax_list_y_l1_b (tab_sp_bracketed m)) syntax_list_y_l1_J := by
 intro a0 a1 r h cx
 unfold syntax_list_y_l1_b at h
 obtain ⟨⟨r1, r2⟩, h1, h⟩ := bs h fun _ => sp_mark_ok
 obtain ⟨h2, h⟩ | ⟨h2, h⟩ := ite_some h
 · obtain ⟨⟨r3, r4⟩, h3, h⟩ := bs h fun _ => ih.sp_key
   obtain ⟨h4, h⟩ := chk_some h
   exact tt 9 [(0, .reg [(1, cl [0] h1)] []), (1, .br true), (2, .reg [(2, cl [0] h3)] [(3, .one (.own 7 (Row.rows (α := Key) [r4]) 82)), (4, .one (.own 7 (Row.rows (α := Key) (a1 ++ [r4])) 98))])] [] [0, 1, 5] [(0, 0), (98, 1)] 2 [pf h1, pf (bt h2), pf h3, @pf (BldP (α := Key) [r4] 82) (bldP _ _), @pf (AppP (α := Key) a1 [r4] 98) (appP _ _ _), pf (cap1 h4), pf (cap2 h4)] (ih.syntax_list_y_l1 h cx)
 · obtain rfl := Option.some.inj h
   exact rr 9 [(0, .reg [(1, cl [0] h1)] []), (1, .br false)] [] [(0, 0)] 1 [pf h1, pf (bf h2)]
theorem ok_sp_bracketed : ∀ m, Ok_sp_bracketed m
 | 0 => ⟨(fun h => nomatch (show none = some _ from h)), (fun h => nomatch (show none = some _ from h)), (fun h => nomatch (show none = some _ from h)), (fun h => nomatch (show none = some _ from h)), (fun h => nomatch (show none = some _ from h)), (fun h => nomatch (show none = some _ from h)), (fun h => nomatch (show none = some _ from h)), (fun h => nomatch (show none = some _ from h)), (fun h => nomatch (show none = some _ from h)), (fun h => nomatch (show none = some _ from h)), (fun h => nomatch (show none = some _ from h)), (fun h => nomatch (show none = some _ from h)), (fun h => nomatch (show none = some _ from h)), (fun h => nomatch (show none = some _ from h)), (fun h => nomatch (show none = some _ from h)), (fun h => nomatch (show none = some _ from h)), (fun h => nomatch (show none = some _ from h)), (fun h => nomatch (show none = some _ from h)), (fun h => nomatch (show none = some _ from h)), (fun h => nomatch (show none = some _ from h)), (fun h => nomatch (show none = some _ from h)), (fun h => nomatch (show none = some _ from h)), (fun h => nomatch (show none = some _ from h)), (fun h => nomatch (show none = some _ from h)), (fun h => nomatch (show none = some _ from h)), (fun h => nomatch (show none = some _ from h)), (fun h => nomatch (show none = some _ from h)), (fun h => nomatch (show none = some _ from h)), (fun h => nomatch (show none = some _ from h)), (fun h => nomatch (show none = some _ from h)), (fun h => nomatch (show none = some _ from h)), (fun h => nomatch (show none = some _ from h)), (fun h => nomatch (show none = some _ from h)), (fun h => nomatch (show none = some _ from h)), (fun h => nomatch (show none = some _ from h)), (fun h => nomatch (show none = some _ from h)), (fun h => nomatch (show none = some _ from h)), (fun h => nomatch (show none = some _ from h)), (fun h => nomatch (show none = some _ from h)), (fun h => nomatch (show none = some _ from h))⟩
 | m + 1 => ⟨sp_bracketed_okb (ok_sp_bracketed m), sp_cases_okb (ok_sp_bracketed m), sp_column_okb (ok_sp_bracketed m), sp_compared_okb (ok_sp_bracketed m), sp_expr_okb (ok_sp_bracketed m), sp_expr_1_okb (ok_sp_bracketed m), sp_inner_not_okb (ok_sp_bracketed m), sp_inner_unary_okb (ok_sp_bracketed m), sp_item_okb (ok_sp_bracketed m), sp_key_okb (ok_sp_bracketed m), sp_left_expr_1_okb (ok_sp_bracketed m), sp_left_expr_1_l1_okb (ok_sp_bracketed m), sp_left_expr_1_l2_okb (ok_sp_bracketed m), sp_left_not_okb (ok_sp_bracketed m), sp_left_not_l1_okb (ok_sp_bracketed m), sp_left_not_l2_okb (ok_sp_bracketed m), sp_left_prod_okb (ok_sp_bracketed m), sp_left_prod_l1_okb (ok_sp_bracketed m), sp_left_prod_l2_okb (ok_sp_bracketed m), sp_left_unary_okb (ok_sp_bracketed m), sp_left_unary_l1_okb (ok_sp_bracketed m), sp_left_unary_l2_okb (ok_sp_bracketed m), sp_not_okb (ok_sp_bracketed m), sp_part_okb (ok_sp_bracketed m), sp_prim_okb (ok_sp_bracketed m), sp_prod_okb (ok_sp_bracketed m), sp_query_okb (ok_sp_bracketed m), sp_query_l1_okb (ok_sp_bracketed m), sp_round_okb (ok_sp_bracketed m), sp_single_okb (ok_sp_bracketed m), sp_source_okb (ok_sp_bracketed m), sp_source_l1_okb (ok_sp_bracketed m), sp_sum_okb (ok_sp_bracketed m), sp_unary_okb (ok_sp_bracketed m), syntax_list_m_okb (ok_sp_bracketed m), syntax_list_m_l1_okb (ok_sp_bracketed m), syntax_list_r_2_okb (ok_sp_bracketed m), syntax_list_r_2_l1_okb (ok_sp_bracketed m), syntax_list_y_okb (ok_sp_bracketed m), syntax_list_y_l1_okb (ok_sp_bracketed m)⟩
theorem sp_bracketed_ok {k : Nat} : Sd1 (sp_bracketed k) sp_bracketed_J := (ok_sp_bracketed k).sp_bracketed
theorem sp_cases_ok {k : Nat} : Sd1 (sp_cases k) sp_cases_J := (ok_sp_bracketed k).sp_cases
theorem sp_column_ok {k : Nat} : Sd1 (sp_column k) sp_column_J := (ok_sp_bracketed k).sp_column
theorem sp_compared_ok {k : Nat} : Sd1 (sp_compared k) sp_compared_J := (ok_sp_bracketed k).sp_compared
theorem sp_expr_ok {k : Nat} : Sd1 (sp_expr k) sp_expr_J := (ok_sp_bracketed k).sp_expr
theorem sp_expr_1_ok {k : Nat} : Sd1 (sp_expr_1 k) sp_expr_1_J := (ok_sp_bracketed k).sp_expr_1
theorem sp_inner_not_ok {k : Nat} : Sd2 (sp_inner_not k) sp_inner_not_J := (ok_sp_bracketed k).sp_inner_not
theorem sp_inner_unary_ok {k : Nat} : Sd2 (sp_inner_unary k) sp_inner_unary_J := (ok_sp_bracketed k).sp_inner_unary
theorem sp_item_ok {k : Nat} : Sd1 (sp_item k) sp_item_J := (ok_sp_bracketed k).sp_item
theorem sp_key_ok {k : Nat} : Sd1 (sp_key k) sp_key_J := (ok_sp_bracketed k).sp_key
theorem sp_left_expr_1_ok {k : Nat} : Sd2 (sp_left_expr_1 k) sp_left_expr_1_J := (ok_sp_bracketed k).sp_left_expr_1
theorem sp_left_expr_1_l1_ok {k : Nat} : Sd3 (sp_left_expr_1_l1 k) sp_left_expr_1_l1_J := (ok_sp_bracketed k).sp_left_expr_1_l1
theorem sp_left_expr_1_l2_ok {k : Nat} : Sd6 (sp_left_expr_1_l2 k) sp_left_expr_1_l2_J := (ok_sp_bracketed k).sp_left_expr_1_l2
theorem sp_left_not_ok {k : Nat} : Sd2 (sp_left_not k) sp_left_not_J := (ok_sp_bracketed k).sp_left_not
theorem sp_left_not_l1_ok {k : Nat} : Sd3 (sp_left_not_l1 k) sp_left_not_l1_J := (ok_sp_bracketed k).sp_left_not_l1
theorem sp_left_not_l2_ok {k : Nat} : Sd6 (sp_left_not_l2 k) sp_left_not_l2_J := (ok_sp_bracketed k).sp_left_not_l2
theorem sp_left_prod_ok {k : Nat} : Sd2 (sp_left_prod k) sp_left_prod_J := (ok_sp_bracketed k).sp_left_prod
theorem sp_left_prod_l1_ok {k : Nat} : Sd3 (sp_left_prod_l1 k) sp_left_prod_l1_J := (ok_sp_bracketed k).sp_left_prod_l1
theorem sp_left_prod_l2_ok {k : Nat} : Sd6 (sp_left_prod_l2 k) sp_left_prod_l2_J := (ok_sp_bracketed k).sp_left_prod_l2
theorem sp_left_unary_ok {k : Nat} : Sd2 (sp_left_unary k) sp_left_unary_J := (ok_sp_bracketed k).sp_left_unary
theorem sp_left_unary_l1_ok {k : Nat} : Sd3 (sp_left_unary_l1 k) sp_left_unary_l1_J := (ok_sp_bracketed k).sp_left_unary_l1
theorem sp_left_unary_l2_ok {k : Nat} : Sd6 (sp_left_unary_l2 k) sp_left_unary_l2_J := (ok_sp_bracketed k).sp_left_unary_l2
theorem sp_not_ok {k : Nat} : Sd1 (sp_not k) sp_not_J := (ok_sp_bracketed k).sp_not
theorem sp_part_ok {k : Nat} : Sd1 (sp_part k) sp_part_J := (ok_sp_bracketed k).sp_part
theorem sp_prim_ok {k : Nat} : Sd1 (sp_prim k) sp_prim_J := (ok_sp_bracketed k).sp_prim
theorem sp_prod_ok {k : Nat} : Sd1 (sp_prod k) sp_prod_J := (ok_sp_bracketed k).sp_prod
theorem sp_query_ok {k : Nat} : Sd1 (sp_query k) sp_query_J := (ok_sp_bracketed k).sp_query
theorem sp_query_l1_ok {k : Nat} : Sd2 (sp_query_l1 k) sp_query_l1_J := (ok_sp_bracketed k).sp_query_l1
theorem sp_round_ok {k : Nat} : Sd1 (sp_round k) sp_round_J := (ok_sp_bracketed k).sp_round
theorem sp_single_ok {k : Nat} : Sd1 (sp_single k) sp_single_J := (ok_sp_bracketed k).sp_single
theorem sp_source_ok {k : Nat} : Sd1 (sp_source k) sp_source_J := (ok_sp_bracketed k).sp_source
theorem sp_source_l1_ok {k : Nat} : Sd2 (sp_source_l1 k) sp_source_l1_J := (ok_sp_bracketed k).sp_source_l1
theorem sp_sum_ok {k : Nat} : Sd1 (sp_sum k) sp_sum_J := (ok_sp_bracketed k).sp_sum
theorem sp_unary_ok {k : Nat} : Sd1 (sp_unary k) sp_unary_J := (ok_sp_bracketed k).sp_unary
theorem syntax_list_m_ok {k : Nat} : Sd1 (syntax_list_m k) syntax_list_m_J := (ok_sp_bracketed k).syntax_list_m
theorem syntax_list_m_l1_ok {k : Nat} : Sd2 (syntax_list_m_l1 k) syntax_list_m_l1_J := (ok_sp_bracketed k).syntax_list_m_l1
theorem syntax_list_r_2_ok {k : Nat} : Sd1 (syntax_list_r_2 k) syntax_list_r_2_J := (ok_sp_bracketed k).syntax_list_r_2
theorem syntax_list_r_2_l1_ok {k : Nat} : Sd2 (syntax_list_r_2_l1 k) syntax_list_r_2_l1_J := (ok_sp_bracketed k).syntax_list_r_2_l1
theorem syntax_list_y_ok {k : Nat} : Sd1 (syntax_list_y k) syntax_list_y_J := (ok_sp_bracketed k).syntax_list_y
theorem syntax_list_y_l1_ok {k : Nat} : Sd2 (syntax_list_y_l1 k) syntax_list_y_l1_J := (ok_sp_bracketed k).syntax_list_y_l1

noncomputable def syntax_Expr_1_O (a0 : Parser) (a1 : Expr) : List O := [.var 64 (ca a0)]
noncomputable def syntax_Expr_1_V (a0 : Parser) (a1 : Expr) : V := .agg (ca a1)
noncomputable def syntax_Expr_1_J (a0 : Parser) (r : (Parser × Expr)) : Prop := Has prog 10 [.one (.ptr 0 0)] [.var 64 (ca a0)] (syntax_Expr_1_O r.1 r.2) (syntax_Expr_1_V r.1 r.2)
noncomputable def syntax_Expr_1 (k : Nat) (a0 : Parser) : Option (Parser × Expr) :=
 (sp_expr k a0).bind fun (r1, r2) =>
 some (r1, r2)
theorem syntax_Expr_1_ok {k : Nat} : Sd1 (syntax_Expr_1 k) syntax_Expr_1_J := by
 intro a0 r h
 unfold syntax_Expr_1 at h
 refine ent (c := bodyOf f10) func10 rfl rfl rfl fun cx => ?_
 obtain ⟨⟨r1, r2⟩, h1, h⟩ := bs h fun _ => sp_expr_ok
 obtain rfl := Option.some.inj h
 exact rr 6 [(1, .reg [(1, cl [0] h1)] [])] [] [(0, 0)] 1 [pf h1]

noncomputable def token_digit_O (a0 : Bool) : List O := []
noncomputable def token_digit_V (a0 : Bool) : V := .one (.bool a0)
noncomputable def token_digit_J (a0 : UInt8) (r : Bool) : Prop := Has prog 64 [.one (.int .u8 (a0.toNat : Int))] [] (token_digit_O r) (token_digit_V r)
noncomputable def token_digit (a0 : UInt8) : Option Bool :=
 if 48 ≤ (a0.toNat : Int) then (
  some (decide ((a0.toNat : Int) ≤ 57))
 ) else (
  some false
 )
theorem token_digit_ok : Sd1 token_digit token_digit_J := by
 intro a0 r h
 unfold token_digit at h
 refine ent (c := bodyOf f64) func64 rfl rfl rfl fun cx => ?_
 obtain ⟨h1, h⟩ | ⟨h1, h⟩ := ite_some h
 · obtain rfl := Option.some.inj h
   exact rr 6 [(1, .reg [] [(2, .bool true)])] [] [] 0 [pf (dt h1)]
 · obtain rfl := Option.some.inj h
   exact rr 6 [(1, .reg [] [(2, .bool false)])] [] [] 0 [pf (df h1)]

noncomputable def token_letter_O (a0 : Bool) : List O := []
noncomputable def token_letter_V (a0 : Bool) : V := .one (.bool a0)
noncomputable def token_letter_J (a0 : UInt8) (r : Bool) : Prop := Has prog 62 [.one (.int .u8 (a0.toNat : Int))] [] (token_letter_O r) (token_letter_V r)
noncomputable def token_letter (a0 : UInt8) : Option Bool :=
 if 97 ≤ (a0.toNat : Int) then (
  if (a0.toNat : Int) ≤ 122 then (
   some true
  ) else (
   if 65 ≤ (a0.toNat : Int) then (
    if (a0.toNat : Int) ≤ 90 then (
     some true
    ) else (
     some (decide ((a0.toNat : Int) = 95))
    )
   ) else (
    some (decide ((a0.toNat : Int) = 95))
   )
  )
 ) else (
  if 65 ≤ (a0.toNat : Int) then (
   if (a0.toNat : Int) ≤ 90 then (
    some true
   ) else (
    some (decide ((a0.toNat : Int) = 95))
   )
  ) else (
   some (decide ((a0.toNat : Int) = 95))
  )
 )
theorem token_letter_ok : Sd1 token_letter token_letter_J := by
 intro a0 r h
 unfold token_letter at h
 refine ent (c := bodyOf f62) func62 rfl rfl rfl fun cx => ?_
 obtain ⟨h1, h⟩ | ⟨h1, h⟩ := ite_some h
 · obtain ⟨h2, h⟩ | ⟨h2, h⟩ := ite_some h
   · obtain rfl := Option.some.inj h
     exact rr 6 [(1, .reg [] [(2, .bool true), (6, .bool true)])] [] [] 0 [pf (dt h1), pf (dt h2)]
   · obtain ⟨h3, h⟩ | ⟨h3, h⟩ := ite_some h
     · obtain ⟨h4, h⟩ | ⟨h4, h⟩ := ite_some h
       · obtain rfl := Option.some.inj h
         exact rr 6 [(1, .reg [] [(2, .bool true), (6, .bool false), (9, .bool true), (14, .bool true)])] [] [] 0 [pf (dt h1), pf (df h2), pf (dt h3), pf (dt h4)]
       · obtain rfl := Option.some.inj h
         exact rr 6 [(1, .reg [] [(2, .bool true), (6, .bool false), (9, .bool true), (14, .bool false)])] [] [] 0 [pf (dt h1), pf (df h2), pf (dt h3), pf (df h4)]
     · obtain rfl := Option.some.inj h
       exact rr 6 [(1, .reg [] [(2, .bool true), (6, .bool false), (9, .bool false)])] [] [] 0 [pf (dt h1), pf (df h2), pf (df h3)]
 · obtain ⟨h2, h⟩ | ⟨h2, h⟩ := ite_some h
   · obtain ⟨h3, h⟩ | ⟨h3, h⟩ := ite_some h
     · obtain rfl := Option.some.inj h
       exact rr 6 [(1, .reg [] [(2, .bool false), (9, .bool true), (14, .bool true)])] [] [] 0 [pf (df h1), pf (dt h2), pf (dt h3)]
     · obtain rfl := Option.some.inj h
       exact rr 6 [(1, .reg [] [(2, .bool false), (9, .bool true), (14, .bool false)])] [] [] 0 [pf (df h1), pf (dt h2), pf (df h3)]
   · obtain rfl := Option.some.inj h
     exact rr 6 [(1, .reg [] [(2, .bool false), (9, .bool false)])] [] [] 0 [pf (df h1), pf (df h2)]

noncomputable def isl_HasPrefix_O (a0 : Bool) : List O := []
noncomputable def isl_HasPrefix_V (a0 : Bool) : V := .one (.bool a0)
noncomputable def isl_HasPrefix_J (a0 a1 : Str) (r : Bool) : Prop := Has prog 78 [.one (.str a0), .one (.str a1)] [] (isl_HasPrefix_O r) (isl_HasPrefix_V r)
noncomputable def isl_HasPrefix (a0 a1 : Str) : Option Bool :=
 if (a1.length : Int) ≤ (a0.length : Int) then (
  chk (0 ≤ (0 : Int) ∧ (0 : Int) ≤ (a1.length : Int) ∧ (a1.length : Int) ≤ (a0.length : Int)) <|
  some (decide ((sub a0 0 (a1.length : Int)) = a1))
 ) else (
  some false
 )
theorem isl_HasPrefix_ok : Sd2 isl_HasPrefix isl_HasPrefix_J := by
 intro a0 a1 r h
 unfold isl_HasPrefix at h
 refine ent (c := bodyOf f78) func78 rfl rfl rfl fun cx => ?_
 obtain ⟨h1, h⟩ | ⟨h1, h⟩ := ite_some h
 · obtain ⟨h2, h⟩ := chk_some h
   obtain rfl := Option.some.inj h
   exact rr 6 [(1, .reg [] [(5, .bool true)])] [] [] 0 [pf (dt h1), pf h2]
 · obtain rfl := Option.some.inj h
   exact rr 6 [(1, .reg [] [(5, .bool false)])] [] [] 0 [pf (df h1)]

noncomputable def strings_HasPrefix_O (a0 : Bool) : List O := []
noncomputable def strings_HasPrefix_V (a0 : Bool) : V := .one (.bool a0)
noncomputable def strings_HasPrefix_J (a0 a1 : Str) (r : Bool) : Prop := Has prog 61 [.one (.str a0), .one (.str a1)] [] (strings_HasPrefix_O r) (strings_HasPrefix_V r)
noncomputable def strings_HasPrefix (a0 a1 : Str) : Option Bool :=
 (isl_HasPrefix a0 a1).bind fun r1 =>
 some r1
theorem strings_HasPrefix_ok : Sd2 strings_HasPrefix strings_HasPrefix_J := by
 intro a0 a1 r h
 unfold strings_HasPrefix at h
 refine ent (c := bodyOf f61) func61 rfl rfl rfl fun cx => ?_
 obtain ⟨r1, h1, h⟩ := bs h fun _ => isl_HasPrefix_ok
 obtain rfl := Option.some.inj h
 exact rr 6 [(1, .reg [(2, cl [] h1)] [])] [] [] 0 [pf h1]

noncomputable def tr_form_2_O (a0 : Str) (a1 : Int) (a2 : List Token) (a3 : Int) : List O := [.var 78 [.str a0, .int .i64 a1, .own 4 (Row.rows (α := Token) a2) 1], .row 66 4]
noncomputable def tr_form_2_V (a0 : Str) (a1 : Int) (a2 : List Token) (a3 : Int) : V := .one (.int .i64 a3)
noncomputable def tr_form_2_J (a0 : Str) (a1 : Int) (a2 : List Token) (a3 : Int) (r : (Int × Int)) : Prop := Has prog 81 [.one (.ptr 0 0), .one (.int .i64 a3)] [.var 78 [.str a0, .int .i64 a1, .own 4 (Row.rows (α := Token) a2) 1], .row 66 4] (tr_form_2_O a0 r.1 a2 r.2) (tr_form_2_V a0 r.1 a2 r.2)
noncomputable def tr_form_2 (a0 : Str) (a1 : Int) (a2 : List Token) (a3 : Int) : Option (Int × Int) :=
 some (a3, 10)
theorem tr_form_2_ok : Sd4 tr_form_2 tr_form_2_J := by
 intro a0 a1 a2 a3 r h
 unfold tr_form_2 at h
 refine ent (c := bodyOf f81) func81 rfl rfl rfl fun cx => ?_
 obtain rfl := Option.some.inj h
 exact rr 8 [] [] [(0, 0), (1, 1)] 2 []

noncomputable def tr_put_2_O (a0 : Str) (a1 : Int) (a2 : List Token) (a3 : Int) : List O := [.var 78 [.str a0, .int .i64 a1, .own 4 (Row.rows (α := Token) a2) 1], .row 66 4]
noncomputable def tr_put_2_V (a0 : Str) (a1 : Int) (a2 : List Token) (a3 : Int) : V := .one (.int .i64 a3)
noncomputable def tr_put_2_J (a0 : Str) (a1 : Int) (a2 : List Token) (a3 : Token) (r : (Int × (List Token) × Int)) : Prop := Has prog 37 [.one (.ptr 0 0), .agg (ca a3)] [.var 78 [.str a0, .int .i64 a1, .own 4 (Row.rows (α := Token) a2) 1], .row 66 4] (tr_put_2_O a0 r.1 r.2.1 r.2.2) (tr_put_2_V a0 r.1 r.2.1 r.2.2)
noncomputable def tr_put_2 (a0 : Str) (a1 : Int) (a2 : List Token) (a3 : Token) : Option (Int × (List Token) × Int) :=
 if (a2.length : Int) = 6000 then (
  some (a3.At, a2, 8)
 ) else (
  chk (CapOk 40 a2 [a3]) <|
  some (a1, (a2 ++ [a3]), 0)
 )
theorem tr_put_2_ok : Sd4 tr_put_2 tr_put_2_J := by
 intro a0 a1 a2 a3 r h
 unfold tr_put_2 at h
 refine ent (c := bodyOf f37) func37 rfl rfl rfl fun cx => ?_
 obtain ⟨h1, h⟩ | ⟨h1, h⟩ := ite_some h
 · obtain rfl := Option.some.inj h
   exact rr 12 [(1, .reg [] [(4, .one (.int .i64 (a2.length : Int)))]), (2, .br true)] [] [(0, 0), (1, 1)] 2 [@pf (LenP (α := Token) a2) (lenP _), pf (dt h1)]
 · obtain ⟨h2, h⟩ := chk_some h
   obtain rfl := Option.some.inj h
   exact rr 13 [(1, .reg [] [(4, .one (.int .i64 (a2.length : Int)))]), (2, .br false), (3, .reg [] [(6, .one (.own 4 (Row.rows (α := Token) [a3]) 226)), (7, .one (.own 4 (Row.rows (α := Token) (a2 ++ [a3])) 242))])] [] [(0, 0), (242, 1)] 2 [@pf (LenP (α := Token) a2) (lenP _), pf (df h1), @pf (BldP (α := Token) [a3] 226) (bldP _ _), @pf (AppP (α := Token) a2 [a3] 242) (appP _ _ _), pf (cap1 h2), pf (cap2 h2)]

noncomputable def tr_mark_2_O (a0 : Str) (a1 : Int) (a2 : List Token) (a3 : Int) : List O := [.var 78 [.str a0, .int .i64 a1, .own 4 (Row.rows (α := Token) a2) 1], .row 66 4]
noncomputable def tr_mark_2_V (a0 : Str) (a1 : Int) (a2 : List Token) (a3 : Int) : V := .one (.int .i64 a3)
noncomputable def tr_mark_2_J (a0 : Str) (a1 : Int) (a2 : List Token) (r : (Int × (List Token) × Int)) : Prop := Has prog 67 [.one (.ptr 0 0)] [.var 78 [.str a0, .int .i64 a1, .own 4 (Row.rows (α := Token) a2) 1], .row 66 4] (tr_mark_2_O a0 r.1 r.2.1 r.2.2) (tr_mark_2_V a0 r.1 r.2.1 r.2.2)
noncomputable def tr_mark_2_j2_K : List Item := stackAt (bodyOf f67) [1, 1, 1, 1] []
noncomputable def tr_mark_2_j2_S (a0 : Str) (a1 : Int) (a2 : List Token) (a3 a4 : Int) (a5 : Str) : St := ⟨[(0, .one (.ptr 0 0)), (3, .one (.int .i64 a3)), (4, .one (.int .i64 a4)), (5, .one (.str a5))], [(0, .var 78 [.str a0, .int .i64 a1, .own 4 (Row.rows (α := Token) a2) 2]), (2, .row 66 4)], 3, 71, 2⟩
noncomputable def tr_mark_2_j2_J (a0 : Str) (a1 : Int) (a2 : List Token) (a3 a4 : Int) (a5 : Str) (r : (Int × (List Token) × Int)) : Prop := ∀ cx : Cx, AK prog cx tr_mark_2_j2_K (tr_mark_2_j2_S a0 a1 a2 a3 a4 a5) (Fin lay f67.results.toList 2 fun o v => o = tr_mark_2_O a0 r.1 r.2.1 r.2.2 ∧ v = tr_mark_2_V a0 r.1 r.2.1 r.2.2)
noncomputable def tr_mark_2_j2 (a0 : Str) (a1 : Int) (a2 : List Token) (a3 a4 : Int) (a5 : Str) : Option (Int × (List Token) × Int) :=
 if a4 = 0 then (
  (tr_form_2 a0 a1 a2 a3).bind fun (r1, r2) =>
  some (r1, a2, r2)
 ) else (
  chk (0 ≤ (0 : Int) ∧ (0 : Int) ≤ a4 ∧ a4 ≤ (a5.length : Int)) <|
  (tr_put_2 a0 (IntKind.i64.wrap (a1 + a4)) a2 (Token.mk 4 (sub a5 0 a4) 0 a3)).bind fun (r1, r2, r3) =>
  some (r1, r2, r3)
 )
theorem tr_mark_2_j2_ok : Sd6 tr_mark_2_j2 tr_mark_2_j2_J := by
 intro a0 a1 a2 a3 a4 a5 r h cx
 unfold tr_mark_2_j2 at h
 obtain ⟨h1, h⟩ | ⟨h1, h⟩ := ite_some h
 · obtain ⟨⟨r1, r2⟩, h2, h⟩ := bs h fun _ => tr_form_2_ok
   obtain rfl := Option.some.inj h
   exact rr 8 [(1, .br true), (2, .reg [(2, cl [0, 2] h2)] [])] [] [(0, 0), (68, 1)] 2 [pf (dt h1), pf h2]
 · obtain ⟨h2, h⟩ := chk_some h
   obtain ⟨⟨r1, r2, r3⟩, h3, h⟩ := bs h fun _ => tr_put_2_ok
   obtain rfl := Option.some.inj h
   exact rr 11 [(1, .br false), (3, .reg [(6, cl [0, 2] h3)] [])] [] [(0, 0), (276, 1)] 2 [pf (df h1), pf h2, pf h3]

noncomputable def tr_mark_2_j1_K : List Item := stackAt (bodyOf f67) [1, 1, 1, 0, 1, 0, 0, 0, 0, 0, 0, 0, 1, 1] []
noncomputable def tr_mark_2_j1_S (a0 : Str) (a1 : Int) (a2 : List Token) (a3 a4 : Int) (a5 : Str) : St := ⟨[(0, .one (.ptr 0 0)), (3, .one (.int .i64 a3)), (4, .one (.int .i64 a4)), (5, .one (.str a5))], [(0, .var 78 [.str a0, .int .i64 a1, .own 4 (Row.rows (α := Token) a2) 2]), (2, .row 66 4)], 3, 71, 2⟩
noncomputable def tr_mark_2_j1_J (a0 : Str) (a1 : Int) (a2 : List Token) (a3 a4 : Int) (a5 : Str) (r : (Int × (List Token) × Int)) : Prop := ∀ cx : Cx, AK prog cx tr_mark_2_j1_K (tr_mark_2_j1_S a0 a1 a2 a3 a4 a5) (Fin lay f67.results.toList 2 fun o v => o = tr_mark_2_O a0 r.1 r.2.1 r.2.2 ∧ v = tr_mark_2_V a0 r.1 r.2.1 r.2.2)
noncomputable def tr_mark_2_j1 (a0 : Str) (a1 : Int) (a2 : List Token) (a3 a4 : Int) (a5 : Str) : Option (Int × (List Token) × Int) :=
 tr_mark_2_j2 a0 a1 a2 a3 a4 a5
theorem tr_mark_2_j1_ok : Sd6 tr_mark_2_j1 tr_mark_2_j1_J := by
 intro a0 a1 a2 a3 a4 a5 r h cx
 unfold tr_mark_2_j1 at h
 exact tt 1 [] [] [0, 3, 4, 5] [(0, 0), (2, 2)] 3 [] (tr_mark_2_j2_ok h cx)

noncomputable def tr_mark_2_j5_K : List Item := stackAt (bodyOf f67) [1, 1, 1, 0, 1, 0, 0, 0, 1, 1] []
noncomputable def tr_mark_2_j5_S (a0 : Str) (a1 : Int) (a2 : List Token) (a3 a4 : Int) (a5 : Str) : St := ⟨[(0, .one (.ptr 0 0)), (3, .one (.int .i64 a3)), (4, .one (.int .i64 a4)), (5, .one (.str a5))], [(0, .var 78 [.str a0, .int .i64 a1, .own 4 (Row.rows (α := Token) a2) 2]), (2, .row 66 4)], 3, 71, 2⟩
noncomputable def tr_mark_2_j5_J (a0 : Str) (a1 : Int) (a2 : List Token) (a3 a4 : Int) (a5 : Str) (r : (Int × (List Token) × Int)) : Prop := ∀ cx : Cx, AK prog cx tr_mark_2_j5_K (tr_mark_2_j5_S a0 a1 a2 a3 a4 a5) (Fin lay f67.results.toList 2 fun o v => o = tr_mark_2_O a0 r.1 r.2.1 r.2.2 ∧ v = tr_mark_2_V a0 r.1 r.2.1 r.2.2)
noncomputable def tr_mark_2_j5 (a0 : Str) (a1 : Int) (a2 : List Token) (a3 a4 : Int) (a5 : Str) : Option (Int × (List Token) × Int) :=
 tr_mark_2_j2 a0 a1 a2 a3 a4 a5
theorem tr_mark_2_j5_ok : Sd6 tr_mark_2_j5 tr_mark_2_j5_J := by
 intro a0 a1 a2 a3 a4 a5 r h cx
 unfold tr_mark_2_j5 at h
 exact tt 1 [] [] [0, 3, 4, 5] [(0, 0), (2, 2)] 3 [] (tr_mark_2_j2_ok h cx)

noncomputable def tr_mark_2_j3_K : List Item := stackAt (bodyOf f67) [1, 1, 1, 0, 1, 0, 0, 0, 1] []
noncomputable def tr_mark_2_j3_S (a0 : Str) (a1 : Int) (a2 : List Token) (a3 : Int) (a4 : Str) : St := ⟨[(0, .one (.ptr 0 0)), (3, .one (.int .i64 a3)), (5, .one (.str a4))], [(0, .var 78 [.str a0, .int .i64 a1, .own 4 (Row.rows (α := Token) a2) 2]), (2, .row 66 4)], 3, 71, 2⟩
noncomputable def tr_mark_2_j3_J (a0 : Str) (a1 : Int) (a2 : List Token) (a3 : Int) (a4 : Str) (r : (Int × (List Token) × Int)) : Prop := ∀ cx : Cx, AK prog cx tr_mark_2_j3_K (tr_mark_2_j3_S a0 a1 a2 a3 a4) (Fin lay f67.results.toList 2 fun o v => o = tr_mark_2_O a0 r.1 r.2.1 r.2.2 ∧ v = tr_mark_2_V a0 r.1 r.2.1 r.2.2)
noncomputable def tr_mark_2_j3 (a0 : Str) (a1 : Int) (a2 : List Token) (a3 : Int) (a4 : Str) : Option (Int × (List Token) × Int) :=
 if 1 < (a4.length : Int) then (
  chk (0 ≤ (1 : Int) ∧ (1 : Int) < (a4.length : Int)) <|
  if (byteAt a4 1) = 61 then (
   tr_mark_2_j5 a0 a1 a2 a3 2 a4
  ) else (
   tr_mark_2_j5 a0 a1 a2 a3 1 a4
  )
 ) else (
  tr_mark_2_j5 a0 a1 a2 a3 1 a4
 )
theorem tr_mark_2_j3_ok : Sd5 tr_mark_2_j3 tr_mark_2_j3_J := by
 intro a0 a1 a2 a3 a4 r h cx
 unfold tr_mark_2_j3 at h
 obtain ⟨h1, h⟩ | ⟨h1, h⟩ := ite_some h
 · obtain ⟨h2, h⟩ := chk_some h
   obtain ⟨h3, h⟩ | ⟨h3, h⟩ := ite_some h
   · exact tt 7 [(1, .reg [] [(3, .bool true)]), (2, .br true)] [] [0, 3, 4, 5] [(0, 0), (2, 2)] 3 [pf (dt h1), pf h2, pf (dt h3)] (tr_mark_2_j5_ok h cx)
   · exact tt 7 [(1, .reg [] [(3, .bool true)]), (2, .br false)] [] [0, 3, 4, 5] [(0, 0), (2, 2)] 3 [pf (dt h1), pf h2, pf (df h3)] (tr_mark_2_j5_ok h cx)
 · exact tt 7 [(1, .reg [] [(3, .bool false)])] [] [0, 3, 4, 5] [(0, 0), (2, 2)] 3 [pf (df h1)] (tr_mark_2_j5_ok h cx)

noncomputable def tr_mark_2_j4_K : List Item := stackAt (bodyOf f67) [1, 1, 1, 0, 1, 0, 0, 0, 0, 0, 0, 0, 0, 0, 0, 1, 1, 1, 1] []
noncomputable def tr_mark_2_j4_S (a0 : Str) (a1 : Int) (a2 : List Token) (a3 : Int) (a4 : Str) (a5 : Bool) : St := ⟨[(0, .one (.ptr 0 0)), (3, .one (.int .i64 a3)), (4, .one (.int .i64 0)), (5, .one (.str a4)), (24, .one (.bool a5))], [(0, .var 78 [.str a0, .int .i64 a1, .own 4 (Row.rows (α := Token) a2) 2]), (2, .row 66 4)], 3, 71, 2⟩
noncomputable def tr_mark_2_j4_J (a0 : Str) (a1 : Int) (a2 : List Token) (a3 : Int) (a4 : Str) (a5 : Bool) (r : (Int × (List Token) × Int)) : Prop := ∀ cx : Cx, AK prog cx tr_mark_2_j4_K (tr_mark_2_j4_S a0 a1 a2 a3 a4 a5) (Fin lay f67.results.toList 2 fun o v => o = tr_mark_2_O a0 r.1 r.2.1 r.2.2 ∧ v = tr_mark_2_V a0 r.1 r.2.1 r.2.2)
noncomputable def tr_mark_2_j4 (a0 : Str) (a1 : Int) (a2 : List Token) (a3 : Int) (a4 : Str) (a5 : Bool) : Option (Int × (List Token) × Int) :=
 if a5 = true then (
  tr_mark_2_j2 a0 a1 a2 a3 1 a4
 ) else (
  tr_mark_2_j2 a0 a1 a2 a3 0 a4
 )
theorem tr_mark_2_j4_ok : Sd6 tr_mark_2_j4 tr_mark_2_j4_J := by
 intro a0 a1 a2 a3 a4 a5 r h cx
 unfold tr_mark_2_j4 at h
 obtain ⟨h1, h⟩ | ⟨h1, h⟩ := ite_some h
 · exact tt 5 [(0, .br true)] [] [0, 3, 4, 5] [(0, 0), (2, 2)] 3 [pf (bt h1)] (tr_mark_2_j2_ok h cx)
 · exact tt 3 [(0, .br false)] [] [0, 3, 4, 5] [(0, 0), (2, 2)] 3 [pf (bf h1)] (tr_mark_2_j2_ok h cx)
end Go.Syn
