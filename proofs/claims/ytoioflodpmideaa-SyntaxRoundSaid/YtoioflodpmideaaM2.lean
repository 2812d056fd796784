/- Part M2 of the model: each function answers as its plain twin in this text says, whenever that twin answers. No other condition. (Printed by a program of this work.) -/
import Derived.Test.YtoioflodpmideaaM1
import Derived.Test.YtoioflodpmideaaAbs22
namespace Go.Syn
open Go.Abs Go.Proofs.Try
set_option linter.unusedVariables false
noncomputable def tr_mark_2 (a0 : Str) (a1 : Int) (a2 : List Token) : Option (Int × (List Token) × Int) :=
 chk (0 ≤ a1 ∧ a1 ≤ (a0.length : Int) ∧ (a0.length : Int) ≤ (a0.length : Int)) <|
 chk (0 ≤ (0 : Int) ∧ (0 : Int) < ((sub a0 a1 (a0.length : Int)).length : Int)) <|
 if (byteAt (sub a0 a1 (a0.length : Int)) 0) = 124 then (
  (strings_HasPrefix (sub a0 a1 (a0.length : Int)) s_x7cx7c).bind fun r1 =>
  if r1 = true then (
   tr_mark_2_j1 a0 a1 a2 a1 2 (sub a0 a1 (a0.length : Int))
  ) else (
   tr_mark_2_j1 a0 a1 a2 a1 0 (sub a0 a1 (a0.length : Int))
  )
 ) else (
  if (byteAt (sub a0 a1 (a0.length : Int)) 0) = 60 then (
   (strings_HasPrefix (sub a0 a1 (a0.length : Int)) s_x3cx3e).bind fun r1 =>
   if r1 = true then (
    tr_mark_2_j2 a0 a1 a2 a1 2 (sub a0 a1 (a0.length : Int))
   ) else (
    tr_mark_2_j3 a0 a1 a2 a1 (sub a0 a1 (a0.length : Int))
   )
  ) else (
   if (byteAt (sub a0 a1 (a0.length : Int)) 0) = 62 then (
    tr_mark_2_j3 a0 a1 a2 a1 (sub a0 a1 (a0.length : Int))
   ) else (
    if (byteAt (sub a0 a1 (a0.length : Int)) 0) = 40 then (
     tr_mark_2_j4 a0 a1 a2 a1 (sub a0 a1 (a0.length : Int)) (decide ((byteAt (sub a0 a1 (a0.length : Int)) 0) = 40))
    ) else (
     if (byteAt (sub a0 a1 (a0.length : Int)) 0) = 41 then (
      tr_mark_2_j4 a0 a1 a2 a1 (sub a0 a1 (a0.length : Int)) (decide ((byteAt (sub a0 a1 (a0.length : Int)) 0) = 41))
     ) else (
      if (byteAt (sub a0 a1 (a0.length : Int)) 0) = 44 then (
       tr_mark_2_j4 a0 a1 a2 a1 (sub a0 a1 (a0.length : Int)) (decide ((byteAt (sub a0 a1 (a0.length : Int)) 0) = 44))
      ) else (
       if (byteAt (sub a0 a1 (a0.length : Int)) 0) = 59 then (
        tr_mark_2_j4 a0 a1 a2 a1 (sub a0 a1 (a0.length : Int)) (decide ((byteAt (sub a0 a1 (a0.length : Int)) 0) = 59))
       ) else (
        if (byteAt (sub a0 a1 (a0.length : Int)) 0) = 46 then (
         tr_mark_2_j4 a0 a1 a2 a1 (sub a0 a1 (a0.length : Int)) (decide ((byteAt (sub a0 a1 (a0.length : Int)) 0) = 46))
        ) else (
         if (byteAt (sub a0 a1 (a0.length : Int)) 0) = 42 then (
          tr_mark_2_j4 a0 a1 a2 a1 (sub a0 a1 (a0.length : Int)) (decide ((byteAt (sub a0 a1 (a0.length : Int)) 0) = 42))
         ) else (
          if (byteAt (sub a0 a1 (a0.length : Int)) 0) = 43 then (
           tr_mark_2_j4 a0 a1 a2 a1 (sub a0 a1 (a0.length : Int)) (decide ((byteAt (sub a0 a1 (a0.length : Int)) 0) = 43))
          ) else (
           if (byteAt (sub a0 a1 (a0.length : Int)) 0) = 45 then (
            tr_mark_2_j4 a0 a1 a2 a1 (sub a0 a1 (a0.length : Int)) (decide ((byteAt (sub a0 a1 (a0.length : Int)) 0) = 45))
           ) else (
            if (byteAt (sub a0 a1 (a0.length : Int)) 0) = 47 then (
            tr_mark_2_j4 a0 a1 a2 a1 (sub a0 a1 (a0.length : Int)) (decide ((byteAt (sub a0 a1 (a0.length : Int)) 0) = 47))
            ) else (
            if (byteAt (sub a0 a1 (a0.length : Int)) 0) = 37 then (
            tr_mark_2_j4 a0 a1 a2 a1 (sub a0 a1 (a0.length : Int)) (decide ((byteAt (sub a0 a1 (a0.length : Int)) 0) = 37))
            ) else (
            if (byteAt (sub a0 a1 (a0.length : Int)) 0) = 61 then (
            tr_mark_2_j4 a0 a1 a2 a1 (sub a0 a1 (a0.length : Int)) (decide ((byteAt (sub a0 a1 (a0.length : Int)) 0) = 61))
            ) else (
            if (byteAt (sub a0 a1 (a0.length : Int)) 0) = 123 then (
            tr_mark_2_j4 a0 a1 a2 a1 (sub a0 a1 (a0.length : Int)) (decide ((byteAt (sub a0 a1 (a0.length : Int)) 0) = 123))
            ) else (
            if (byteAt (sub a0 a1 (a0.length : Int)) 0) = 125 then (
            tr_mark_2_j4 a0 a1 a2 a1 (sub a0 a1 (a0.length : Int)) (decide ((byteAt (sub a0 a1 (a0.length : Int)) 0) = 125))
            ) else (
            tr_mark_2_j4 a0 a1 a2 a1 (sub a0 a1 (a0.length : Int)) (decide ((byteAt (sub a0 a1 (a0.length : Int)) 0) = 58))
            )
            )
            )
            )
            )
           )
          )
         )
        )
       )
      )
     )
    )
   )
  )
 )
theorem tr_mark_2_ok : Sd3 tr_mark_2 tr_mark_2_J := by
 intro a0 a1 a2 r h
 unfold tr_mark_2 at h
 refine ent (c := bodyOf f67) func67 rfl rfl rfl fun cx => ?_
 obtain ⟨h1, h⟩ := chk_some h
 obtain ⟨h2, h⟩ := chk_some h
 obtain ⟨h3, h⟩ | ⟨h3, h⟩ := ite_some h
 · obtain ⟨r1, h4, h⟩ := bs h fun _ => strings_HasPrefix_ok
   obtain ⟨h5, h⟩ | ⟨h5, h⟩ := ite_some h
   · exact tt 29 [(5, .br true), (6, .reg [(1, cl [] h4)] []), (7, .br true)] [] [0, 3, 4, 5] [(0, 0), (1, 2)] 3 [pf h1, pf h2, pf (dt h3), pf h4, pf (bt h5)] (tr_mark_2_j1_ok h cx)
   · exact tt 29 [(5, .br true), (6, .reg [(1, cl [] h4)] []), (7, .br false)] [] [0, 3, 4, 5] [(0, 0), (1, 2)] 3 [pf h1, pf h2, pf (dt h3), pf h4, pf (bf h5)] (tr_mark_2_j1_ok h cx)
 · obtain ⟨h4, h⟩ | ⟨h4, h⟩ := ite_some h
   · obtain ⟨r1, h5, h⟩ := bs h fun _ => strings_HasPrefix_ok
     obtain ⟨h6, h⟩ | ⟨h6, h⟩ := ite_some h
     · exact tt 35 [(5, .br false), (7, .br true), (8, .reg [(1, cl [] h5)] []), (9, .br true)] [] [0, 3, 4, 5] [(0, 0), (1, 2)] 3 [pf h1, pf h2, pf (df h3), pf (dt h4), pf h5, pf (bt h6)] (tr_mark_2_j2_ok h cx)
     · exact tt 34 [(5, .br false), (7, .br true), (8, .reg [(1, cl [] h5)] []), (9, .br false)] [] [0, 3, 5] [(0, 0), (1, 2)] 3 [pf h1, pf h2, pf (df h3), pf (dt h4), pf h5, pf (bf h6)] (tr_mark_2_j3_ok h cx)
   · obtain ⟨h5, h⟩ | ⟨h5, h⟩ := ite_some h
     · exact tt 34 [(5, .br false), (7, .br false), (9, .br true)] [] [0, 3, 5] [(0, 0), (1, 2)] 3 [pf h1, pf h2, pf (df h3), pf (df h4), pf (dt h5)] (tr_mark_2_j3_ok h cx)
     · obtain ⟨h6, h⟩ | ⟨h6, h⟩ := ite_some h
       · exact tt 39 [(5, .br false), (7, .br false), (9, .br false), (11, .br true)] [] [0, 3, 4, 5, 24] [(0, 0), (1, 2)] 3 [pf h1, pf h2, pf (df h3), pf (df h4), pf (df h5), pf (dt h6)] (tr_mark_2_j4_ok h cx)
       · obtain ⟨h7, h⟩ | ⟨h7, h⟩ := ite_some h
         · exact tt 42 [(5, .br false), (7, .br false), (9, .br false), (11, .br false), (13, .br true)] [] [0, 3, 4, 5, 24] [(0, 0), (1, 2)] 3 [pf h1, pf h2, pf (df h3), pf (df h4), pf (df h5), pf (df h6), pf (dt h7)] (tr_mark_2_j4_ok h cx)
         · obtain ⟨h8, h⟩ | ⟨h8, h⟩ := ite_some h
           · exact tt 45 [(5, .br false), (7, .br false), (9, .br false), (11, .br false), (13, .br false), (15, .br true)] [] [0, 3, 4, 5, 24] [(0, 0), (1, 2)] 3 [pf h1, pf h2, pf (df h3), pf (df h4), pf (df h5), pf (df h6), pf (df h7), pf (dt h8)] (tr_mark_2_j4_ok h cx)
           · obtain ⟨h9, h⟩ | ⟨h9, h⟩ := ite_some h
             · exact tt 48 [(5, .br false), (7, .br false), (9, .br false), (11, .br false), (13, .br false), (15, .br false), (17, .br true)] [] [0, 3, 4, 5, 24] [(0, 0), (1, 2)] 3 [pf h1, pf h2, pf (df h3), pf (df h4), pf (df h5), pf (df h6), pf (df h7), pf (df h8), pf (dt h9)] (tr_mark_2_j4_ok h cx)
             · obtain ⟨h10, h⟩ | ⟨h10, h⟩ := ite_some h
               · exact tt 51 [(5, .br false), (7, .br false), (9, .br false), (11, .br false), (13, .br false), (15, .br false), (17, .br false), (19, .br true)] [] [0, 3, 4, 5, 24] [(0, 0), (1, 2)] 3 [pf h1, pf h2, pf (df h3), pf (df h4), pf (df h5), pf (df h6), pf (df h7), pf (df h8), pf (df h9), pf (dt h10)] (tr_mark_2_j4_ok h cx)
               · obtain ⟨h11, h⟩ | ⟨h11, h⟩ := ite_some h
                 · exact tt 54 [(5, .br false), (7, .br false), (9, .br false), (11, .br false), (13, .br false), (15, .br false), (17, .br false), (19, .br false), (21, .br true)] [] [0, 3, 4, 5, 24] [(0, 0), (1, 2)] 3 [pf h1, pf h2, pf (df h3), pf (df h4), pf (df h5), pf (df h6), pf (df h7), pf (df h8), pf (df h9), pf (df h10), pf (dt h11)] (tr_mark_2_j4_ok h cx)
                 · obtain ⟨h12, h⟩ | ⟨h12, h⟩ := ite_some h
                   · exact tt 57 [(5, .br false), (7, .br false), (9, .br false), (11, .br false), (13, .br false), (15, .br false), (17, .br false), (19, .br false), (21, .br false), (23, .br true)] [] [0, 3, 4, 5, 24] [(0, 0), (1, 2)] 3 [pf h1, pf h2, pf (df h3), pf (df h4), pf (df h5), pf (df h6), pf (df h7), pf (df h8), pf (df h9), pf (df h10), pf (df h11), pf (dt h12)] (tr_mark_2_j4_ok h cx)
                   · obtain ⟨h13, h⟩ | ⟨h13, h⟩ := ite_some h
                     · exact tt 60 [(5, .br false), (7, .br false), (9, .br false), (11, .br false), (13, .br false), (15, .br false), (17, .br false), (19, .br false), (21, .br false), (23, .br false), (25, .br true)] [] [0, 3, 4, 5, 24] [(0, 0), (1, 2)] 3 [pf h1, pf h2, pf (df h3), pf (df h4), pf (df h5), pf (df h6), pf (df h7), pf (df h8), pf (df h9), pf (df h10), pf (df h11), pf (df h12), pf (dt h13)] (tr_mark_2_j4_ok h cx)
                     · obtain ⟨h14, h⟩ | ⟨h14, h⟩ := ite_some h
                       · exact tt 63 [(5, .br false), (7, .br false), (9, .br false), (11, .br false), (13, .br false), (15, .br false), (17, .br false), (19, .br false), (21, .br false), (23, .br false), (25, .br false), (27, .br true)] [] [0, 3, 4, 5, 24] [(0, 0), (1, 2)] 3 [pf h1, pf h2, pf (df h3), pf (df h4), pf (df h5), pf (df h6), pf (df h7), pf (df h8), pf (df h9), pf (df h10), pf (df h11), pf (df h12), pf (df h13), pf (dt h14)] (tr_mark_2_j4_ok h cx)
                       · obtain ⟨h15, h⟩ | ⟨h15, h⟩ := ite_some h
                         · exact tt 66 [(5, .br false), (7, .br false), (9, .br false), (11, .br false), (13, .br false), (15, .br false), (17, .br false), (19, .br false), (21, .br false), (23, .br false), (25, .br false), (27, .br false), (29, .br true)] [] [0, 3, 4, 5, 24] [(0, 0), (1, 2)] 3 [pf h1, pf h2, pf (df h3), pf (df h4), pf (df h5), pf (df h6), pf (df h7), pf (df h8), pf (df h9), pf (df h10), pf (df h11), pf (df h12), pf (df h13), pf (df h14), pf (dt h15)] (tr_mark_2_j4_ok h cx)
                         · obtain ⟨h16, h⟩ | ⟨h16, h⟩ := ite_some h
                           · exact tt 69 [(5, .br false), (7, .br false), (9, .br false), (11, .br false), (13, .br false), (15, .br false), (17, .br false), (19, .br false), (21, .br false), (23, .br false), (25, .br false), (27, .br false), (29, .br false), (31, .br true)] [] [0, 3, 4, 5, 24] [(0, 0), (1, 2)] 3 [pf h1, pf h2, pf (df h3), pf (df h4), pf (df h5), pf (df h6), pf (df h7), pf (df h8), pf (df h9), pf (df h10), pf (df h11), pf (df h12), pf (df h13), pf (df h14), pf (df h15), pf (dt h16)] (tr_mark_2_j4_ok h cx)
                           · obtain ⟨h17, h⟩ | ⟨h17, h⟩ := ite_some h
                             · exact tt 72 [(5, .br false), (7, .br false), (9, .br false), (11, .br false), (13, .br false), (15, .br false), (17, .br false), (19, .br false), (21, .br false), (23, .br false), (25, .br false), (27, .br false), (29, .br false), (31, .br false), (33, .br true)] [] [0, 3, 4, 5, 24] [(0, 0), (1, 2)] 3 [pf h1, pf h2, pf (df h3), pf (df h4), pf (df h5), pf (df h6), pf (df h7), pf (df h8), pf (df h9), pf (df h10), pf (df h11), pf (df h12), pf (df h13), pf (df h14), pf (df h15), pf (df h16), pf (dt h17)] (tr_mark_2_j4_ok h cx)
                             · obtain ⟨h18, h⟩ | ⟨h18, h⟩ := ite_some h
                               · exact tt 75 [(5, .br false), (7, .br false), (9, .br false), (11, .br false), (13, .br false), (15, .br false), (17, .br false), (19, .br false), (21, .br false), (23, .br false), (25, .br false), (27, .br false), (29, .br false), (31, .br false), (33, .br false), (35, .br true)] [] [0, 3, 4, 5, 24] [(0, 0), (1, 2)] 3 [pf h1, pf h2, pf (df h3), pf (df h4), pf (df h5), pf (df h6), pf (df h7), pf (df h8), pf (df h9), pf (df h10), pf (df h11), pf (df h12), pf (df h13), pf (df h14), pf (df h15), pf (df h16), pf (df h17), pf (dt h18)] (tr_mark_2_j4_ok h cx)
                               · exact tt 75 [(5, .br false), (7, .br false), (9, .br false), (11, .br false), (13, .br false), (15, .br false), (17, .br false), (19, .br false), (21, .br false), (23, .br false), (25, .br false), (27, .br false), (29, .br false), (31, .br false), (33, .br false), (35, .br false)] [] [0, 3, 4, 5, 24] [(0, 0), (1, 2)] 3 [pf h1, pf h2, pf (df h3), pf (df h4), pf (df h5), pf (df h6), pf (df h7), pf (df h8), pf (df h9), pf (df h10), pf (df h11), pf (df h12), pf (df h13), pf (df h14), pf (df h15), pf (df h16), pf (df h17), pf (df h18)] (tr_mark_2_j4_ok h cx)

noncomputable def tr_name_1_O (a0 : Bool) : List O := []
noncomputable def tr_name_1_V (a0 : Bool) : V := .one (.bool a0)
noncomputable def tr_name_1_J (a0 : UInt8) (r : Bool) : Prop := Has prog 80 [.one (.int .u8 (a0.toNat : Int))] [] (tr_name_1_O r) (tr_name_1_V r)
noncomputable def tr_name_1 (a0 : UInt8) : Option Bool :=
 (token_letter a0).bind fun r1 =>
 if r1 = true then (
  some true
 ) else (
  (token_digit a0).bind fun r2 =>
  some r2
 )
theorem tr_name_1_ok : Sd1 tr_name_1 tr_name_1_J := by
 intro a0 r h
 unfold tr_name_1 at h
 refine ent (c := bodyOf f80) func80 rfl rfl rfl fun cx => ?_
 obtain ⟨r1, h1, h⟩ := bs h fun _ => token_letter_ok
 obtain ⟨h2, h⟩ | ⟨h2, h⟩ := ite_some h
 · obtain rfl := Option.some.inj h
   exact rr 6 [(1, .reg [(1, cl [] h1)] [(2, .bool true)])] [] [] 0 [pf h1, pf (bt h2)]
 · obtain ⟨r2, h3, h⟩ := bs h fun _ => token_digit_ok
   obtain rfl := Option.some.inj h
   exact rr 6 [(1, .reg [(1, cl [] h1), (4, cl [] h3)] [(2, .bool false)])] [] [] 0 [pf h1, pf (bf h2), pf h3]

noncomputable def tr_run_name_1_2_O (a0 : Str) (a1 : Int) (a2 : List Token) (a3 : Str) : List O := [.var 78 [.str a0, .int .i64 a1, .own 4 (Row.rows (α := Token) a2) 1], .row 66 4]
noncomputable def tr_run_name_1_2_V (a0 : Str) (a1 : Int) (a2 : List Token) (a3 : Str) : V := .one (.str a3)
noncomputable def tr_run_name_1_2_J (a0 : Str) (a1 : Int) (a2 : List Token) (r : (Int × Str)) : Prop := Has prog 79 [.one (.ptr 0 0), .one (.fn 80 [] [])] [.var 78 [.str a0, .int .i64 a1, .own 4 (Row.rows (α := Token) a2) 1], .row 66 4] (tr_run_name_1_2_O a0 r.1 a2 r.2) (tr_run_name_1_2_V a0 r.1 a2 r.2)
noncomputable def tr_run_name_1_2_j2_K : List Item := stackAt (bodyOf f79) [1, 1, 0, 0, 0, 0, 1] []
noncomputable def tr_run_name_1_2_j2_S (a0 : Str) (a1 : Int) (a2 : List Token) (a3 : Int) (a4 : Bool) : St := ⟨[(0, .one (.ptr 0 0)), (1, .one (.fn 80 [] [])), (5, .one (.int .i64 a3)), (32, .one (.bool a4))], [(0, .var 78 [.str a0, .int .i64 a1, .own 4 (Row.rows (α := Token) a2) 2]), (2, .row 66 4)], 3, 50, 2⟩
noncomputable def tr_run_name_1_2_j2_J (a0 : Str) (a1 : Int) (a2 : List Token) (a3 : Int) (a4 : Bool) (r : (Int × Str)) : Prop := ∀ cx : Cx, AK prog cx tr_run_name_1_2_j2_K (tr_run_name_1_2_j2_S a0 a1 a2 a3 a4) (Fin lay f79.results.toList 2 fun o v => o = tr_run_name_1_2_O a0 r.1 a2 r.2 ∧ v = tr_run_name_1_2_V a0 r.1 a2 r.2)
noncomputable def tr_run_name_1_2_l1_K : List Item := stackAt (bodyOf f79) [1, 1, 0, 0, 0] []
noncomputable def tr_run_name_1_2_l1_S (a0 : Str) (a1 : Int) (a2 : List Token) (a3 : Int) : St := ⟨[(0, .one (.ptr 0 0)), (1, .one (.fn 80 [] [])), (5, .one (.int .i64 a3))], [(0, .var 78 [.str a0, .int .i64 a1, .own 4 (Row.rows (α := Token) a2) 2]), (2, .row 66 4)], 3, 50, 2⟩
noncomputable def tr_run_name_1_2_l1_J (a0 : Str) (a1 : Int) (a2 : List Token) (a3 : Int) (r : (Int × Str)) : Prop := ∀ cx : Cx, AK prog cx tr_run_name_1_2_l1_K (tr_run_name_1_2_l1_S a0 a1 a2 a3) (Fin lay f79.results.toList 2 fun o v => o = tr_run_name_1_2_O a0 r.1 a2 r.2 ∧ v = tr_run_name_1_2_V a0 r.1 a2 r.2)
structure Tab_tr_run_name_1_2_j2 where
 k : Nat
 tr_run_name_1_2_l1 : Str → Int → (List Token) → Int → Option (Int × Str)
noncomputable def tr_run_name_1_2_j2_b (T : Tab_tr_run_name_1_2_j2) (a0 : Str) (a1 : Int) (a2 : List Token) (a3 : Int) (a4 : Bool) : Option (Int × Str) :=
 if a4 = true then (
  T.tr_run_name_1_2_l1 a0 (IntKind.i64.wrap (a1 + 1)) a2 a3
 ) else (
  chk (0 ≤ a3 ∧ a3 ≤ a1 ∧ a1 ≤ (a0.length : Int)) <|
  some (a1, (sub a0 a3 a1))
 )
noncomputable def tr_run_name_1_2_l1_b (T : Tab_tr_run_name_1_2_j2) (a0 : Str) (a1 : Int) (a2 : List Token) (a3 : Int) : Option (Int × Str) :=
 if a1 < (a0.length : Int) then (
  chk (0 ≤ a1 ∧ a1 < (a0.length : Int)) <|
  (tr_name_1 (u8At a0 a1)).bind fun r1 =>
  tr_run_name_1_2_j2_b T a0 a1 a2 a3 r1
 ) else (
  tr_run_name_1_2_j2_b T a0 a1 a2 a3 false
 )
noncomputable def tab_tr_run_name_1_2_j2 : Nat → Tab_tr_run_name_1_2_j2
 | 0 => ⟨0, fun _ _ _ _ => none⟩
 | k + 1 => ⟨k + 1, tr_run_name_1_2_l1_b (tab_tr_run_name_1_2_j2 k)⟩
noncomputable def tr_run_name_1_2_l1 (k : Nat) := (tab_tr_run_name_1_2_j2 k).tr_run_name_1_2_l1
structure Ok_tr_run_name_1_2_j2 (m : Nat) : Prop where
 tr_run_name_1_2_l1 : Sd4 (tab_tr_run_name_1_2_j2 m).tr_run_name_1_2_l1 tr_run_name_1_2_l1_J
theorem tr_run_name_1_2_j2_okb {m : Nat} (ih : Ok_tr_run_name_1_2_j2 m) : Sd5 (tr_run_name_1_2_j2_b (tab_tr_run_name_1_2_j2 m)) tr_run_name_1_2_j2_J := by
 intro a0 a1 a2 a3 a4 r h cx
 unfold tr_run_name_1_2_j2_b at h
 obtain ⟨h1, h⟩ | ⟨h1, h⟩ := ite_some h
 · exact tt 6 [(0, .br true)] [] [0, 1, 5] [(0, 0), (2, 2)] 3 [pf (bt h1)] (ih.tr_run_name_1_2_l1 h cx)
 · obtain ⟨h2, h⟩ := chk_some h
   obtain rfl := Option.some.inj h
   exact rr 6 [(0, .br false)] [] [(0, 0), (2, 1)] 2 [pf (bf h1), pf h2]
theorem tr_run_name_1_2_l1_okb {m : Nat} (ih : Ok_tr_run_name_1_2_j2 m) : Sd4 (tr_run_name_1_2_l1_b (tab_tr_run_name_1_2_j2 m)) tr_run_name_1_2_l1_J := by
 intro a0 a1 a2 a3 r h cx
 unfold tr_run_name_1_2_l1_b at h
 obtain ⟨h1, h⟩ | ⟨h1, h⟩ := ite_some h
 · obtain ⟨h2, h⟩ := chk_some h
   obtain ⟨r1, h3, h⟩ := bs h fun _ => tr_name_1_ok
   exact tt 3 [(0, .reg [(21, cl [] h3)] [(10, .bool true)])] [] [0, 1, 5, 32] [(0, 0), (2, 2)] 3 [pf (dt h1), pf h2, pf h3] (tr_run_name_1_2_j2_okb ih h cx)
 · exact tt 3 [(0, .reg [] [(10, .bool false)])] [] [0, 1, 5, 32] [(0, 0), (2, 2)] 3 [pf (df h1)] (tr_run_name_1_2_j2_okb ih h cx)
theorem ok_tr_run_name_1_2_j2 : ∀ m, Ok_tr_run_name_1_2_j2 m
 | 0 => ⟨(fun h => nomatch (show none = some _ from h))⟩
 | m + 1 => ⟨tr_run_name_1_2_l1_okb (ok_tr_run_name_1_2_j2 m)⟩
theorem tr_run_name_1_2_l1_ok {k : Nat} : Sd4 (tr_run_name_1_2_l1 k) tr_run_name_1_2_l1_J := (ok_tr_run_name_1_2_j2 k).tr_run_name_1_2_l1

noncomputable def tr_run_name_1_2 (k : Nat) (a0 : Str) (a1 : Int) (a2 : List Token) : Option (Int × Str) :=
 tr_run_name_1_2_l1 k a0 a1 a2 a1
theorem tr_run_name_1_2_ok {k : Nat} : Sd3 (tr_run_name_1_2 k) tr_run_name_1_2_J := by
 intro a0 a1 a2 r h
 unfold tr_run_name_1_2 at h
 refine ent (c := bodyOf f79) func79 rfl rfl rfl fun cx => ?_
 exact tt 7 [] [] [0, 1, 5] [(0, 0), (1, 2)] 3 [] (tr_run_name_1_2_l1_ok h cx)

noncomputable def tr_name_2_O (a0 : Str) (a1 : Int) (a2 : List Token) (a3 : Int) : List O := [.var 78 [.str a0, .int .i64 a1, .own 4 (Row.rows (α := Token) a2) 1], .row 66 4]
noncomputable def tr_name_2_V (a0 : Str) (a1 : Int) (a2 : List Token) (a3 : Int) : V := .one (.int .i64 a3)
noncomputable def tr_name_2_J (a0 : Str) (a1 : Int) (a2 : List Token) (r : (Int × (List Token) × Int)) : Prop := Has prog 63 [.one (.ptr 0 0)] [.var 78 [.str a0, .int .i64 a1, .own 4 (Row.rows (α := Token) a2) 1], .row 66 4] (tr_name_2_O a0 r.1 r.2.1 r.2.2) (tr_name_2_V a0 r.1 r.2.1 r.2.2)
noncomputable def tr_name_2 (k : Nat) (a0 : Str) (a1 : Int) (a2 : List Token) : Option (Int × (List Token) × Int) :=
 (tr_run_name_1_2 k a0 a1 a2).bind fun (r1, r2) =>
 if 30 < (r2.length : Int) then (
  (tr_form_2 a0 r1 a2 a1).bind fun (r3, r4) =>
  some (r3, a2, r4)
 ) else (
  (tr_put_2 a0 r1 a2 (Token.mk 1 r2 0 a1)).bind fun (r3, r4, r5) =>
  some (r3, r4, r5)
 )
theorem tr_name_2_ok {k : Nat} : Sd3 (tr_name_2 k) tr_name_2_J := by
 intro a0 a1 a2 r h
 unfold tr_name_2 at h
 refine ent (c := bodyOf f63) func63 rfl rfl rfl fun cx => ?_
 obtain ⟨⟨r1, r2⟩, h1, h⟩ := bs h fun _ => tr_run_name_1_2_ok
 obtain ⟨h2, h⟩ | ⟨h2, h⟩ := ite_some h
 · obtain ⟨⟨r3, r4⟩, h3, h⟩ := bs h fun _ => tr_form_2_ok
   obtain rfl := Option.some.inj h
   exact rr 14 [(2, .reg [(1, cl [0, 1] h1)] []), (4, .br true), (5, .reg [(2, cl [0, 115] h3)] [])] [] [(0, 0), (227, 1)] 2 [pf h1, pf (dt h2), pf h3]
 · obtain ⟨⟨r3, r4, r5⟩, h3, h⟩ := bs h fun _ => tr_put_2_ok
   obtain rfl := Option.some.inj h
   exact rr 15 [(2, .reg [(1, cl [0, 1] h1)] []), (4, .br false), (5, .reg [(4, cl [0, 115] h3)] [])] [] [(0, 0), (259, 1)] 2 [pf h1, pf (df h2), pf h3]

noncomputable def tr_number_2_O (a0 : Str) (a1 : Int) (a2 : List Token) (a3 : Int) : List O := [.var 78 [.str a0, .int .i64 a1, .own 4 (Row.rows (α := Token) a2) 1], .row 66 4]
noncomputable def tr_number_2_V (a0 : Str) (a1 : Int) (a2 : List Token) (a3 : Int) : V := .one (.int .i64 a3)
noncomputable def tr_number_2_J (a0 : Str) (a1 : Int) (a2 : List Token) (r : (Int × (List Token) × Int)) : Prop := Has prog 65 [.one (.ptr 0 0)] [.var 78 [.str a0, .int .i64 a1, .own 4 (Row.rows (α := Token) a2) 1], .row 66 4] (tr_number_2_O a0 r.1 r.2.1 r.2.2) (tr_number_2_V a0 r.1 r.2.1 r.2.2)
noncomputable def tr_number_2_l1_K : List Item := stackAt (bodyOf f65) [1, 1, 1, 1, 1, 0, 1, 0, 0] []
noncomputable def tr_number_2_l1_S (a0 : Str) (a1 : Int) (a2 : List Token) (a3 : Int) (a4 : Str) (a5 a6 a7 : Int) : St := ⟨[(0, .one (.ptr 0 0)), (3, .one (.int .i64 a3)), (4, .one (.str a4)), (5, .one (.int .i64 a5)), (20, .one (.int .i64 a6)), (21, .one (.int .i64 a7))], [(0, .var 78 [.str a0, .int .i64 a1, .own 4 (Row.rows (α := Token) a2) 2]), (2, .row 66 4)], 3, 39, 2⟩
noncomputable def tr_number_2_l1_J (a0 : Str) (a1 : Int) (a2 : List Token) (a3 : Int) (a4 : Str) (a5 a6 a7 : Int) (r : (Int × (List Token) × Int)) : Prop := ∀ cx : Cx, AK prog cx tr_number_2_l1_K (tr_number_2_l1_S a0 a1 a2 a3 a4 a5 a6 a7) (Fin lay f65.results.toList 2 fun o v => o = tr_number_2_O a0 r.1 r.2.1 r.2.2 ∧ v = tr_number_2_V a0 r.1 r.2.1 r.2.2)
structure Tab_tr_number_2_l1 where
 k : Nat
 tr_number_2_l1 : Str → Int → (List Token) → Int → Str → Int → Int → Int → Option (Int × (List Token) × Int)
noncomputable def tr_number_2_l1_b (T : Tab_tr_number_2_l1) (a0 : Str) (a1 : Int) (a2 : List Token) (a3 : Int) (a4 : Str) (a5 a6 a7 : Int) : Option (Int × (List Token) × Int) :=
 if a7 < a6 then (
  chk (0 ≤ a7 ∧ a7 < (a4.length : Int)) <|
  T.tr_number_2_l1 a0 a1 a2 a3 a4 (IntKind.i64.wrap ((IntKind.i64.wrap (10 * a5)) + (IntKind.i64.wrap ((u8w ((byteAt a4 a7) - 48)).toNat : Int)))) a6 (IntKind.i64.wrap (a7 + 1))
 ) else (
  (tr_put_2 a0 a1 a2 (Token.mk 2 a4 a5 a3)).bind fun (r1, r2, r3) =>
  some (r1, r2, r3)
 )
noncomputable def tab_tr_number_2_l1 : Nat → Tab_tr_number_2_l1
 | 0 => ⟨0, fun _ _ _ _ _ _ _ _ => none⟩
 | k + 1 => ⟨k + 1, tr_number_2_l1_b (tab_tr_number_2_l1 k)⟩
noncomputable def tr_number_2_l1 (k : Nat) := (tab_tr_number_2_l1 k).tr_number_2_l1
structure Ok_tr_number_2_l1 (m : Nat) : Prop where
 tr_number_2_l1 : Sd8 (tab_tr_number_2_l1 m).tr_number_2_l1 tr_number_2_l1_J
theorem tr_number_2_l1_okb {m : Nat} (ih : Ok_tr_number_2_l1 m) : Sd8 (tr_number_2_l1_b (tab_tr_number_2_l1 m)) tr_number_2_l1_J := by
 intro a0 a1 a2 a3 a4 a5 a6 a7 r h cx
 unfold tr_number_2_l1_b at h
 obtain ⟨h1, h⟩ | ⟨h1, h⟩ := ite_some h
 · obtain ⟨h2, h⟩ := chk_some h
   exact tt 13 [(1, .br true), (3, .reg [] [(5, .one (.int .u8 ((u8w ((byteAt a4 a7) - 48)).toNat : Int)))])] [] [0, 3, 4, 5, 20, 21] [(0, 0), (2, 2)] 3 [pf (dt h1), pf h2, @pf (U8P ((byteAt a4 a7) - 48)) (u8P _)] (ih.tr_number_2_l1 h cx)
 · obtain ⟨⟨r1, r2, r3⟩, h2, h⟩ := bs h fun _ => tr_put_2_ok
   obtain rfl := Option.some.inj h
   exact rr 9 [(1, .br false), (2, .reg [(5, cl [0, 2] h2)] [])] [] [(0, 0), (100, 1)] 2 [pf (df h1), pf h2]
theorem ok_tr_number_2_l1 : ∀ m, Ok_tr_number_2_l1 m
 | 0 => ⟨(fun h => nomatch (show none = some _ from h))⟩
 | m + 1 => ⟨tr_number_2_l1_okb (ok_tr_number_2_l1 m)⟩
theorem tr_number_2_l1_ok {k : Nat} : Sd8 (tr_number_2_l1 k) tr_number_2_l1_J := (ok_tr_number_2_l1 k).tr_number_2_l1

noncomputable def tr_run_digit_2_O (a0 : Str) (a1 : Int) (a2 : List Token) (a3 : Str) : List O := [.var 78 [.str a0, .int .i64 a1, .own 4 (Row.rows (α := Token) a2) 1], .row 66 4]
noncomputable def tr_run_digit_2_V (a0 : Str) (a1 : Int) (a2 : List Token) (a3 : Str) : V := .one (.str a3)
noncomputable def tr_run_digit_2_J (a0 : Str) (a1 : Int) (a2 : List Token) (r : (Int × Str)) : Prop := Has prog 79 [.one (.ptr 0 0), .one (.fn 64 [] [])] [.var 78 [.str a0, .int .i64 a1, .own 4 (Row.rows (α := Token) a2) 1], .row 66 4] (tr_run_digit_2_O a0 r.1 a2 r.2) (tr_run_digit_2_V a0 r.1 a2 r.2)
noncomputable def tr_run_digit_2_j2_K : List Item := stackAt (bodyOf f79) [1, 1, 0, 0, 0, 0, 1] []
noncomputable def tr_run_digit_2_j2_S (a0 : Str) (a1 : Int) (a2 : List Token) (a3 : Int) (a4 : Bool) : St := ⟨[(0, .one (.ptr 0 0)), (1, .one (.fn 64 [] [])), (5, .one (.int .i64 a3)), (32, .one (.bool a4))], [(0, .var 78 [.str a0, .int .i64 a1, .own 4 (Row.rows (α := Token) a2) 2]), (2, .row 66 4)], 3, 50, 2⟩
noncomputable def tr_run_digit_2_j2_J (a0 : Str) (a1 : Int) (a2 : List Token) (a3 : Int) (a4 : Bool) (r : (Int × Str)) : Prop := ∀ cx : Cx, AK prog cx tr_run_digit_2_j2_K (tr_run_digit_2_j2_S a0 a1 a2 a3 a4) (Fin lay f79.results.toList 2 fun o v => o = tr_run_digit_2_O a0 r.1 a2 r.2 ∧ v = tr_run_digit_2_V a0 r.1 a2 r.2)
noncomputable def tr_run_digit_2_l1_K : List Item := stackAt (bodyOf f79) [1, 1, 0, 0, 0] []
noncomputable def tr_run_digit_2_l1_S (a0 : Str) (a1 : Int) (a2 : List Token) (a3 : Int) : St := ⟨[(0, .one (.ptr 0 0)), (1, .one (.fn 64 [] [])), (5, .one (.int .i64 a3))], [(0, .var 78 [.str a0, .int .i64 a1, .own 4 (Row.rows (α := Token) a2) 2]), (2, .row 66 4)], 3, 50, 2⟩
noncomputable def tr_run_digit_2_l1_J (a0 : Str) (a1 : Int) (a2 : List Token) (a3 : Int) (r : (Int × Str)) : Prop := ∀ cx : Cx, AK prog cx tr_run_digit_2_l1_K (tr_run_digit_2_l1_S a0 a1 a2 a3) (Fin lay f79.results.toList 2 fun o v => o = tr_run_digit_2_O a0 r.1 a2 r.2 ∧ v = tr_run_digit_2_V a0 r.1 a2 r.2)
structure Tab_tr_run_digit_2_j2 where
 k : Nat
 tr_run_digit_2_l1 : Str → Int → (List Token) → Int → Option (Int × Str)
noncomputable def tr_run_digit_2_j2_b (T : Tab_tr_run_digit_2_j2) (a0 : Str) (a1 : Int) (a2 : List Token) (a3 : Int) (a4 : Bool) : Option (Int × Str) :=
 if a4 = true then (
  T.tr_run_digit_2_l1 a0 (IntKind.i64.wrap (a1 + 1)) a2 a3
 ) else (
  chk (0 ≤ a3 ∧ a3 ≤ a1 ∧ a1 ≤ (a0.length : Int)) <|
  some (a1, (sub a0 a3 a1))
 )
noncomputable def tr_run_digit_2_l1_b (T : Tab_tr_run_digit_2_j2) (a0 : Str) (a1 : Int) (a2 : List Token) (a3 : Int) : Option (Int × Str) :=
 if a1 < (a0.length : Int) then (
  chk (0 ≤ a1 ∧ a1 < (a0.length : Int)) <|
  (token_digit (u8At a0 a1)).bind fun r1 =>
  tr_run_digit_2_j2_b T a0 a1 a2 a3 r1
 ) else (
  tr_run_digit_2_j2_b T a0 a1 a2 a3 false
 )
noncomputable def tab_tr_run_digit_2_j2 : Nat → Tab_tr_run_digit_2_j2
 | 0 => ⟨0, fun _ _ _ _ => none⟩
 | k + 1 => ⟨k + 1, tr_run_digit_2_l1_b (tab_tr_run_digit_2_j2 k)⟩
noncomputable def tr_run_digit_2_l1 (k : Nat) := (tab_tr_run_digit_2_j2 k).tr_run_digit_2_l1
structure Ok_tr_run_digit_2_j2 (m : Nat) : Prop where
 tr_run_digit_2_l1 : Sd4 (tab_tr_run_digit_2_j2 m).tr_run_digit_2_l1 tr_run_digit_2_l1_J
theorem tr_run_digit_2_j2_okb {m : Nat} (ih : Ok_tr_run_digit_2_j2 m) : Sd5 (tr_run_digit_2_j2_b (tab_tr_run_digit_2_j2 m)) tr_run_digit_2_j2_J := by
 intro a0 a1 a2 a3 a4 r h cx
 unfold tr_run_digit_2_j2_b at h
 obtain ⟨h1, h⟩ | ⟨h1, h⟩ := ite_some h
 · exact tt 6 [(0, .br true)] [] [0, 1, 5] [(0, 0), (2, 2)] 3 [pf (bt h1)] (ih.tr_run_digit_2_l1 h cx)
 · obtain ⟨h2, h⟩ := chk_some h
   obtain rfl := Option.some.inj h
   exact rr 6 [(0, .br false)] [] [(0, 0), (2, 1)] 2 [pf (bf h1), pf h2]
theorem tr_run_digit_2_l1_okb {m : Nat} (ih : Ok_tr_run_digit_2_j2 m) : Sd4 (tr_run_digit_2_l1_b (tab_tr_run_digit_2_j2 m)) tr_run_digit_2_l1_J := by
 intro a0 a1 a2 a3 r h cx
 unfold tr_run_digit_2_l1_b at h
 obtain ⟨h1, h⟩ | ⟨h1, h⟩ := ite_some h
 · obtain ⟨h2, h⟩ := chk_some h
   obtain ⟨r1, h3, h⟩ := bs h fun _ => token_digit_ok
   exact tt 3 [(0, .reg [(21, cl [] h3)] [(10, .bool true)])] [] [0, 1, 5, 32] [(0, 0), (2, 2)] 3 [pf (dt h1), pf h2, pf h3] (tr_run_digit_2_j2_okb ih h cx)
 · exact tt 3 [(0, .reg [] [(10, .bool false)])] [] [0, 1, 5, 32] [(0, 0), (2, 2)] 3 [pf (df h1)] (tr_run_digit_2_j2_okb ih h cx)
theorem ok_tr_run_digit_2_j2 : ∀ m, Ok_tr_run_digit_2_j2 m
 | 0 => ⟨(fun h => nomatch (show none = some _ from h))⟩
 | m + 1 => ⟨tr_run_digit_2_l1_okb (ok_tr_run_digit_2_j2 m)⟩
theorem tr_run_digit_2_l1_ok {k : Nat} : Sd4 (tr_run_digit_2_l1 k) tr_run_digit_2_l1_J := (ok_tr_run_digit_2_j2 k).tr_run_digit_2_l1

noncomputable def tr_run_digit_2 (k : Nat) (a0 : Str) (a1 : Int) (a2 : List Token) : Option (Int × Str) :=
 tr_run_digit_2_l1 k a0 a1 a2 a1
theorem tr_run_digit_2_ok {k : Nat} : Sd3 (tr_run_digit_2 k) tr_run_digit_2_J := by
 intro a0 a1 a2 r h
 unfold tr_run_digit_2 at h
 refine ent (c := bodyOf f79) func79 rfl rfl rfl fun cx => ?_
 exact tt 7 [] [] [0, 1, 5] [(0, 0), (1, 2)] 3 [] (tr_run_digit_2_l1_ok h cx)

noncomputable def tr_number_2 (k : Nat) (a0 : Str) (a1 : Int) (a2 : List Token) : Option (Int × (List Token) × Int) :=
 (tr_run_digit_2 k a0 a1 a2).bind fun (r1, r2) =>
 if 18 < (r2.length : Int) then (
  (tr_form_2 a0 r1 a2 a1).bind fun (r3, r4) =>
  some (r3, a2, r4)
 ) else (
  tr_number_2_l1 k a0 r1 a2 a1 r2 0 (r2.length : Int) 0
 )
theorem tr_number_2_ok {k : Nat} : Sd3 (tr_number_2 k) tr_number_2_J := by
 intro a0 a1 a2 r h
 unfold tr_number_2 at h
 refine ent (c := bodyOf f65) func65 rfl rfl rfl fun cx => ?_
 obtain ⟨⟨r1, r2⟩, h1, h⟩ := bs h fun _ => tr_run_digit_2_ok
 obtain ⟨h2, h⟩ | ⟨h2, h⟩ := ite_some h
 · obtain ⟨⟨r3, r4⟩, h3, h⟩ := bs h fun _ => tr_form_2_ok
   obtain rfl := Option.some.inj h
   exact rr 14 [(2, .reg [(1, cl [0, 1] h1)] []), (4, .br true), (5, .reg [(2, cl [0, 115] h3)] [])] [] [(0, 0), (227, 1)] 2 [pf h1, pf (dt h2), pf h3]
 · exact tt 18 [(2, .reg [(1, cl [0, 1] h1)] []), (4, .br false)] [] [0, 3, 4, 5, 20, 21] [(0, 0), (115, 2)] 3 [pf h1, pf (df h2)] (tr_number_2_l1_ok h cx)

noncomputable def sb_Len_O (a0 : Int) : List O := [.var 120 [.c (.lit (.pointer none)), .nil 1]]
noncomputable def sb_Len_V (a0 : Int) : V := .one (.int .i64 a0)
noncomputable def sb_Len_J (r : Int) : Prop := Has prog 83 [.one (.ptr 0 0)] [.var 120 [.c (.lit (.pointer none)), .nil 1]] (sb_Len_O r) (sb_Len_V r)
noncomputable def sb_Len : Option Int :=
 some 0
theorem sb_Len_ok : Sd0 sb_Len sb_Len_J := by
 intro r h
 unfold sb_Len at h
 refine ent (c := bodyOf f83) func83 rfl rfl rfl fun cx => ?_
 obtain rfl := Option.some.inj h
 exact rr 6 [] [] [(0, 0)] 1 []

noncomputable def sb_String_O (a0 : Str) : List O := [.var 120 [.c (.lit (.pointer none)), .nil 1]]
noncomputable def sb_String_V (a0 : Str) : V := .one (.str a0)
noncomputable def sb_String_J (r : Str) : Prop := Has prog 84 [.one (.ptr 0 0)] [.var 120 [.c (.lit (.pointer none)), .nil 1]] (sb_String_O r) (sb_String_V r)
noncomputable def sb_String : Option Str :=
 some []
theorem sb_String_ok : Sd0 sb_String sb_String_J := by
 intro r h
 unfold sb_String at h
 refine ent (c := bodyOf f84) func84 rfl rfl rfl fun cx => ?_
 obtain rfl := Option.some.inj h
 exact rr 6 [(1, .reg [(10, .bytes [])] [])] [] [(0, 0)] 1 [@pf (RbP []) (rbP _), @pf ((0 : Int) = (([] : Str).length : Int)) rfl, @pf (([] : Str) = []) rfl]

noncomputable def sb_copyCheck_O : List O := [.var 120 [.ptr 0 0, .nil 1]]
noncomputable def sb_copyCheck_V : V := .tup []
noncomputable def sb_copyCheck_J (r : Unit) : Prop := Has prog 93 [.one (.ptr 0 0)] [.var 120 [.c (.lit (.pointer none)), .nil 1]] (sb_copyCheck_O) (sb_copyCheck_V)
noncomputable def sb_copyCheck : Option Unit :=
 some ()
theorem sb_copyCheck_ok : Sd0 sb_copyCheck sb_copyCheck_J := by
 intro r h
 unfold sb_copyCheck at h
 refine ent (c := bodyOf f93) func93 rfl rfl rfl fun cx => ?_
 obtain rfl := Option.some.inj h
 exact rr 5 [(2, .reg [(3, .call [0] [.var 120 [.c (.lit (.pointer none)), .nil 1]] (.one (.ptr 0 0)) [0])] [])] [] [(0, 0)] 1 [@pf (Has prog 96 [.one (.ptr 0 0)] [.var 120 [.c (.lit (.pointer none)), .nil 1]] [.var 120 [.c (.lit (.pointer none)), .nil 1]] (.one (.ptr 0 0))) (ext96 _ _), @pf (SameO (.var 120 [.c (.lit (.pointer none)), .nil 1])) rfl]

noncomputable def sb_WriteByte_O (a0 : List UInt8) : List O := [.var 120 [.ptr 0 0, .own 1 (Row.rows (α := UInt8) a0) 1], .row 5 1]
noncomputable def sb_WriteByte_V (a0 : List UInt8) : V := .one (.c (.lit .nilIface))
noncomputable def sb_WriteByte_J (a0 : UInt8) (r : ((List UInt8))) : Prop := Has prog 82 [.one (.ptr 0 0), .one (.int .u8 (a0.toNat : Int))] [.var 120 [.c (.lit (.pointer none)), .nil 1]] (sb_WriteByte_O r) (sb_WriteByte_V r)
noncomputable def sb_WriteByte (a0 : UInt8) : Option ((List UInt8)) :=
 (sb_copyCheck).bind fun _ =>
 chk (CapOk 1 ([] : List UInt8) [a0]) <|
 some [a0]
theorem sb_WriteByte_ok : Sd1 sb_WriteByte sb_WriteByte_J := by
 intro a0 r h
 unfold sb_WriteByte at h
 refine ent (c := bodyOf f82) func82 rfl rfl rfl fun cx => ?_
 obtain ⟨⟨⟩, h1, h⟩ := bs h fun _ => sb_copyCheck_ok
 obtain ⟨h2, h⟩ := chk_some h
 obtain rfl := Option.some.inj h
 exact rr 10 [(1, .reg [(1, cl [0] h1)] []), (2, .reg [] [(6, .one (.own 1 (Row.rows (α := UInt8) [a0]) 145))])] [] [(0, 0), (161, 1)] 2 [pf h1, @pf (BldP (α := UInt8) [a0] 145) (bldP _ _), pf (cap1 h2), pf (cap2 h2)]

noncomputable def sb_Len_2_O (a0 : List UInt8) (a1 : Int) : List O := [.var 120 [.ptr 0 0, .own 1 (Row.rows (α := UInt8) a0) 1], .row 5 1]
noncomputable def sb_Len_2_V (a0 : List UInt8) (a1 : Int) : V := .one (.int .i64 a1)
noncomputable def sb_Len_2_J (a0 : List UInt8) (r : Int) : Prop := Has prog 83 [.one (.ptr 0 0)] [.var 120 [.ptr 0 0, .own 1 (Row.rows (α := UInt8) a0) 1], .row 5 1] (sb_Len_2_O a0 r) (sb_Len_2_V a0 r)
noncomputable def sb_Len_2 (a0 : List UInt8) : Option Int :=
 some (a0.length : Int)
theorem sb_Len_2_ok : Sd1 sb_Len_2 sb_Len_2_J := by
 intro a0 r h
 unfold sb_Len_2 at h
 refine ent (c := bodyOf f83) func83 rfl rfl rfl fun cx => ?_
 obtain rfl := Option.some.inj h
 exact rr 6 [(1, .reg [] [(4, .one (.int .i64 (a0.length : Int)))])] [] [(0, 0), (1, 1)] 2 [@pf (LenP (α := UInt8) a0) (lenP _)]

noncomputable def sb_String_2_O (a0 : List UInt8) (a1 : Str) : List O := [.var 120 [.ptr 0 0, .c (.sl 1 (Row.rows (α := UInt8) a0))], .dead]
noncomputable def sb_String_2_V (a0 : List UInt8) (a1 : Str) : V := .one (.str a1)
noncomputable def sb_String_2_J (a0 : List UInt8) (r : Str) : Prop := Has prog 84 [.one (.ptr 0 0)] [.var 120 [.ptr 0 0, .own 1 (Row.rows (α := UInt8) a0) 1], .row 5 1] (sb_String_2_O a0 r) (sb_String_2_V a0 r)
noncomputable def sb_String_2 (a0 : List UInt8) : Option Str :=
 chk ((a0 : Str).length ≤ maxLen) <|
 some a0
theorem sb_String_2_ok : Sd1 sb_String_2 sb_String_2_J := by
 intro a0 r h
 unfold sb_String_2 at h
 refine ent (c := bodyOf f84) func84 rfl rfl rfl fun cx => ?_
 obtain ⟨h1, h⟩ := chk_some h
 obtain rfl := Option.some.inj h
 exact rr 6 [(1, .reg [(10, .bytes a0)] [(9, .one (.int .i64 (a0.length : Int)))])] [.cell 0 1] [(0, 0), (1, 1)] 2 [@pf (LenP (α := UInt8) a0) (lenP _), @pf (RbP a0) (rbP _), @pf (((a0.length : Int) : Int) = ((a0 : Str).length : Int)) rfl, pf h1]

noncomputable def sb_copyCheck_2_O (a0 : List UInt8) : List O := [.var 120 [.ptr 0 0, .own 1 (Row.rows (α := UInt8) a0) 1], .row 5 1]
noncomputable def sb_copyCheck_2_V (a0 : List UInt8) : V := .tup []
noncomputable def sb_copyCheck_2_J (a0 : List UInt8) (r : Unit) : Prop := Has prog 93 [.one (.ptr 0 0)] [.var 120 [.ptr 0 0, .own 1 (Row.rows (α := UInt8) a0) 1], .row 5 1] (sb_copyCheck_2_O a0) (sb_copyCheck_2_V a0)
noncomputable def sb_copyCheck_2 (a0 : List UInt8) : Option Unit :=
 some ()
theorem sb_copyCheck_2_ok : Sd1 sb_copyCheck_2 sb_copyCheck_2_J := by
 intro a0 r h
 unfold sb_copyCheck_2 at h
 refine ent (c := bodyOf f93) func93 rfl rfl rfl fun cx => ?_
 obtain rfl := Option.some.inj h
 exact rr 8 [] [] [(0, 0), (1, 1)] 2 []

noncomputable def sb_WriteByte_2_O (a0 : List UInt8) : List O := [.var 120 [.ptr 0 0, .own 1 (Row.rows (α := UInt8) a0) 1], .row 5 1]
noncomputable def sb_WriteByte_2_V (a0 : List UInt8) : V := .one (.c (.lit .nilIface))
noncomputable def sb_WriteByte_2_J (a0 : List UInt8) (a1 : UInt8) (r : ((List UInt8))) : Prop := Has prog 82 [.one (.ptr 0 0), .one (.int .u8 (a1.toNat : Int))] [.var 120 [.ptr 0 0, .own 1 (Row.rows (α := UInt8) a0) 1], .row 5 1] (sb_WriteByte_2_O r) (sb_WriteByte_2_V r)
noncomputable def sb_WriteByte_2 (a0 : List UInt8) (a1 : UInt8) : Option ((List UInt8)) :=
 (sb_copyCheck_2 a0).bind fun _ =>
 chk (CapOk 1 a0 [a1]) <|
 some (a0 ++ [a1])
theorem sb_WriteByte_2_ok : Sd2 sb_WriteByte_2 sb_WriteByte_2_J := by
 intro a0 a1 r h
 unfold sb_WriteByte_2 at h
 refine ent (c := bodyOf f82) func82 rfl rfl rfl fun cx => ?_
 obtain ⟨⟨⟩, h1, h⟩ := bs h fun _ => sb_copyCheck_2_ok
 obtain ⟨h2, h⟩ := chk_some h
 obtain rfl := Option.some.inj h
 exact rr 10 [(1, .reg [(1, cl [0, 1] h1)] []), (2, .reg [] [(6, .one (.own 1 (Row.rows (α := UInt8) [a1]) 146)), (7, .one (.own 1 (Row.rows (α := UInt8) (a0 ++ [a1])) 162))])] [] [(0, 0), (162, 1)] 2 [pf h1, @pf (BldP (α := UInt8) [a1] 146) (bldP _ _), @pf (AppP (α := UInt8) a0 [a1] 162) (appP _ _ _), pf (cap1 h2), pf (cap2 h2)]

noncomputable def tr_text_2_O (a0 : Str) (a1 : Int) (a2 : List Token) (a3 : Int) : List O := [.var 78 [.str a0, .int .i64 a1, .own 4 (Row.rows (α := Token) a2) 1], .row 66 4]
noncomputable def tr_text_2_V (a0 : Str) (a1 : Int) (a2 : List Token) (a3 : Int) : V := .one (.int .i64 a3)
noncomputable def tr_text_2_J (a0 : Str) (a1 : Int) (a2 : List Token) (r : (Int × (List Token) × Int)) : Prop := Has prog 66 [.one (.ptr 0 0)] [.var 78 [.str a0, .int .i64 a1, .own 4 (Row.rows (α := Token) a2) 1], .row 66 4] (tr_text_2_O a0 r.1 r.2.1 r.2.2) (tr_text_2_V a0 r.1 r.2.1 r.2.2)
noncomputable def tr_text_2_j5_K : List Item := stackAt (bodyOf f66) [1, 1, 1, 0, 1, 0, 0, 1, 0, 0, 1, 0, 0, 1] []
noncomputable def tr_text_2_j5_S (a0 : Str) (a1 : Int) (a2 : List Token) (a3 : List UInt8) (a4 : Int) (a5 : UInt8) (a6 : Bool) : St := ⟨[(0, .one (.ptr 0 0)), (3, .one (.int .i64 a4)), (4, .one (.ptr 2 0)), (5, .one (.int .u8 (a5.toNat : Int))), (43, .one (.bool a6))], [(0, .var 78 [.str a0, .int .i64 a1, .own 4 (Row.rows (α := Token) a2) 3]), (2, .var 120 [.ptr 2 0, .own 1 (Row.rows (α := UInt8) a3) 4]), (3, .row 66 4), (4, .row 5 1)], 5, 101, 2⟩
noncomputable def tr_text_2_j5_J (a0 : Str) (a1 : Int) (a2 : List Token) (a3 : List UInt8) (a4 : Int) (a5 : UInt8) (a6 : Bool) (r : (Int × (List Token) × Int)) : Prop := ∀ cx : Cx, AK prog cx tr_text_2_j5_K (tr_text_2_j5_S a0 a1 a2 a3 a4 a5 a6) (Fin lay f66.results.toList 2 fun o v => o = tr_text_2_O a0 r.1 r.2.1 r.2.2 ∧ v = tr_text_2_V a0 r.1 r.2.1 r.2.2)
noncomputable def tr_text_2_l4_K : List Item := stackAt (bodyOf f66) [1, 1, 1, 0, 1, 0, 0] []
noncomputable def tr_text_2_l4_S (a0 : Str) (a1 : Int) (a2 : List Token) (a3 : List UInt8) (a4 : Int) : St := ⟨[(0, .one (.ptr 0 0)), (3, .one (.int .i64 a4)), (4, .one (.ptr 2 0))], [(0, .var 78 [.str a0, .int .i64 a1, .own 4 (Row.rows (α := Token) a2) 3]), (2, .var 120 [.ptr 2 0, .own 1 (Row.rows (α := UInt8) a3) 4]), (3, .row 66 4), (4, .row 5 1)], 5, 101, 2⟩
noncomputable def tr_text_2_l4_J (a0 : Str) (a1 : Int) (a2 : List Token) (a3 : List UInt8) (a4 : Int) (r : (Int × (List Token) × Int)) : Prop := ∀ cx : Cx, AK prog cx tr_text_2_l4_K (tr_text_2_l4_S a0 a1 a2 a3 a4) (Fin lay f66.results.toList 2 fun o v => o = tr_text_2_O a0 r.1 r.2.1 r.2.2 ∧ v = tr_text_2_V a0 r.1 r.2.1 r.2.2)
noncomputable def tr_text_2_j3_K : List Item := stackAt (bodyOf f66) [1, 1, 1, 0, 1, 0, 0, 1, 1] []
noncomputable def tr_text_2_j3_S (a0 : Str) (a1 : Int) (a2 : List Token) (a3 : List UInt8) (a4 : Int) : St := ⟨[(0, .one (.ptr 0 0)), (3, .one (.int .i64 a4)), (4, .one (.ptr 2 0))], [(0, .var 78 [.str a0, .int .i64 a1, .own 4 (Row.rows (α := Token) a2) 3]), (2, .var 120 [.ptr 2 0, .own 1 (Row.rows (α := UInt8) a3) 4]), (3, .row 66 4), (4, .row 5 1)], 5, 101, 2⟩
noncomputable def tr_text_2_j3_J (a0 : Str) (a1 : Int) (a2 : List Token) (a3 : List UInt8) (a4 : Int) (r : (Int × (List Token) × Int)) : Prop := ∀ cx : Cx, AK prog cx tr_text_2_j3_K (tr_text_2_j3_S a0 a1 a2 a3 a4) (Fin lay f66.results.toList 2 fun o v => o = tr_text_2_O a0 r.1 r.2.1 r.2.2 ∧ v = tr_text_2_V a0 r.1 r.2.1 r.2.2)
structure Tab_tr_text_2_j3 where
 k : Nat
 tr_text_2_j3 : Str → Int → (List Token) → (List UInt8) → Int → Option (Int × (List Token) × Int)
 tr_text_2_l4 : Str → Int → (List Token) → (List UInt8) → Int → Option (Int × (List Token) × Int)
noncomputable def tr_text_2_j3_b (T : Tab_tr_text_2_j3) (a0 : Str) (a1 : Int) (a2 : List Token) (a3 : List UInt8) (a4 : Int) : Option (Int × (List Token) × Int) :=
 T.tr_text_2_l4 a0 (IntKind.i64.wrap (a1 + 1)) a2 a3 a4
noncomputable def tr_text_2_j5_b (T : Tab_tr_text_2_j3) (a0 : Str) (a1 : Int) (a2 : List Token) (a3 : List UInt8) (a4 : Int) (a5 : UInt8) (a6 : Bool) : Option (Int × (List Token) × Int) :=
 if a6 = true then (
  (tr_form_2 a0 a1 a2 a1).bind fun (r1, r2) =>
  some (r1, a2, r2)
 ) else (
  if (a5.toNat : Int) = 39 then (
   chk (0 ≤ a1 ∧ a1 ≤ (a0.length : Int) ∧ (a0.length : Int) ≤ (a0.length : Int)) <|
   (strings_HasPrefix (sub a0 a1 (a0.length : Int)) s_x27x27).bind fun r1 =>
   if r1 = true then (
    (sb_WriteByte_2 a3 a5).bind fun r2 =>
    T.tr_text_2_j3 a0 (IntKind.i64.wrap (a1 + 1)) a2 r2 a4
   ) else (
    (sb_Len_2 a3).bind fun r2 =>
    if 1000 < r2 then (
     (tr_form_2 a0 (IntKind.i64.wrap (a1 + 1)) a2 a4).bind fun (r3, r4) =>
     some (r3, a2, r4)
    ) else (
     (sb_String_2 a3).bind fun r3 =>
     (tr_put_2 a0 (IntKind.i64.wrap (a1 + 1)) a2 (Token.mk 3 r3 0 a4)).bind fun (r4, r5, r6) =>
     some (r4, r5, r6)
    )
   )
  ) else (
   (sb_WriteByte_2 a3 a5).bind fun r1 =>
   T.tr_text_2_j3 a0 a1 a2 r1 a4
  )
 )
noncomputable def tr_text_2_l4_b (T : Tab_tr_text_2_j3) (a0 : Str) (a1 : Int) (a2 : List Token) (a3 : List UInt8) (a4 : Int) : Option (Int × (List Token) × Int) :=
 if a1 < (a0.length : Int) then (
  chk (0 ≤ a1 ∧ a1 < (a0.length : Int)) <|
  if (byteAt a0 a1) < 32 then (
   tr_text_2_j5_b T a0 a1 a2 a3 a4 (u8At a0 a1) (!(decide ((byteAt a0 a1) = 10)))
  ) else (
   tr_text_2_j5_b T a0 a1 a2 a3 a4 (u8At a0 a1) false
  )
 ) else (
  (tr_form_2 a0 a1 a2 a4).bind fun (r1, r2) =>
  some (r1, a2, r2)
 )
noncomputable def tab_tr_text_2_j3 : Nat → Tab_tr_text_2_j3
 | 0 => ⟨0, fun _ _ _ _ _ => none, fun _ _ _ _ _ => none⟩
 | k + 1 => ⟨k + 1, tr_text_2_j3_b (tab_tr_text_2_j3 k), tr_text_2_l4_b (tab_tr_text_2_j3 k)⟩
noncomputable def tr_text_2_j3 (k : Nat) := (tab_tr_text_2_j3 k).tr_text_2_j3
noncomputable def tr_text_2_l4 (k : Nat) := (tab_tr_text_2_j3 k).tr_text_2_l4
structure Ok_tr_text_2_j3 (m : Nat) : Prop where
 tr_text_2_j3 : Sd5 (tab_tr_text_2_j3 m).tr_text_2_j3 tr_text_2_j3_J
 tr_text_2_l4 : Sd5 (tab_tr_text_2_j3 m).tr_text_2_l4 tr_text_2_l4_J
theorem tr_text_2_j3_okb {m : Nat} (ih : Ok_tr_text_2_j3 m) : Sd5 (tr_text_2_j3_b (tab_tr_text_2_j3 m)) tr_text_2_j3_J := by
 intro a0 a1 a2 a3 a4 r h cx
 unfold tr_text_2_j3_b at h
 exact tt 2 [] [] [0, 3, 4] [(0, 0), (2, 2), (3, 3), (4, 4)] 5 [] (ih.tr_text_2_l4 h cx)
theorem tr_text_2_j5_okb {m : Nat} (ih : Ok_tr_text_2_j3 m) : Sd7 (tr_text_2_j5_b (tab_tr_text_2_j3 m)) tr_text_2_j5_J := by
 intro a0 a1 a2 a3 a4 a5 a6 r h cx
 unfold tr_text_2_j5_b at h
 obtain ⟨h1, h⟩ | ⟨h1, h⟩ := ite_some h
 · obtain ⟨⟨r1, r2⟩, h2, h⟩ := bs h fun _ => tr_form_2_ok
   obtain rfl := Option.some.inj h
   exact rr 5 [(0, .br true), (1, .reg [(5, cl [0, 3] h2)] [])] [] [(0, 0), (86, 1)] 2 [pf (bt h1), pf h2]
 · obtain ⟨h2, h⟩ | ⟨h2, h⟩ := ite_some h
   · obtain ⟨h3, h⟩ := chk_some h
     obtain ⟨r1, h4, h⟩ := bs h fun _ => strings_HasPrefix_ok
     obtain ⟨h5, h⟩ | ⟨h5, h⟩ := ite_some h
     · obtain ⟨r2, h6, h⟩ := bs h fun _ => sb_WriteByte_2_ok
       exact tt 12 [(0, .br false), (2, .br false), (3, .reg [(9, cl [] h4)] []), (4, .br true), (5, .reg [(1, cl [2, 4] h6)] [])] [] [0, 3, 4] [(0, 0), (2, 2), (3, 3), (246, 4)] 5 [pf (bf h1), pf (ndf h2), pf h3, pf h4, pf (bt h5), pf h6] (ih.tr_text_2_j3 h cx)
     · obtain ⟨r2, h6, h⟩ := bs h fun _ => sb_Len_2_ok
       obtain ⟨h7, h⟩ | ⟨h7, h⟩ := ite_some h
       · obtain ⟨⟨r3, r4⟩, h8, h⟩ := bs h fun _ => tr_form_2_ok
         obtain rfl := Option.some.inj h
         exact rr 19 [(0, .br false), (2, .br false), (3, .reg [(9, cl [] h4)] []), (4, .br false), (6, .reg [(0, cl [2, 4] h6)] []), (7, .br true), (8, .reg [(2, cl [0, 3] h8)] [])] [] [(0, 0), (422, 1)] 2 [pf (bf h1), pf (ndf h2), pf h3, pf h4, pf (bf h5), pf h6, pf (dt h7), pf h8]
       · obtain ⟨r3, h8, h⟩ := bs h fun _ => sb_String_2_ok
         obtain ⟨⟨r4, r5, r6⟩, h9, h⟩ := bs h fun _ => tr_put_2_ok
         obtain rfl := Option.some.inj h
         exact rr 20 [(0, .br false), (2, .br false), (3, .reg [(9, cl [] h4)] []), (4, .br false), (6, .reg [(0, cl [2, 4] h6)] []), (7, .br false), (8, .reg [(1, cl [2, 358] h8), (4, cl [0, 3] h9)] [])] [] [(0, 0), (454, 1)] 2 [pf (bf h1), pf (ndf h2), pf h3, pf h4, pf (bf h5), pf h6, pf (df h7), pf h8, pf h9]
   · obtain ⟨r1, h3, h⟩ := bs h fun _ => sb_WriteByte_2_ok
     exact tt 7 [(0, .br false), (2, .br true), (3, .reg [(1, cl [2, 4] h3)] [])] [] [0, 3, 4] [(0, 0), (2, 2), (3, 3), (70, 4)] 5 [pf (bf h1), pf (ndt h2), pf h3] (ih.tr_text_2_j3 h cx)
theorem tr_text_2_l4_okb {m : Nat} (ih : Ok_tr_text_2_j3 m) : Sd5 (tr_text_2_l4_b (tab_tr_text_2_j3 m)) tr_text_2_l4_J := by
 intro a0 a1 a2 a3 a4 r h cx
 unfold tr_text_2_l4_b at h
 obtain ⟨h1, h⟩ | ⟨h1, h⟩ := ite_some h
 · obtain ⟨h2, h⟩ := chk_some h
   obtain ⟨h3, h⟩ | ⟨h3, h⟩ := ite_some h
   · exact tt 13 [(1, .br true), (3, .reg [] [(2, .bool true)])] [] [0, 3, 4, 5, 43] [(0, 0), (2, 2), (3, 3), (4, 4)] 5 [pf (dt h1), pf h2, pf (dt h3)] (tr_text_2_j5_okb ih h cx)
   · exact tt 13 [(1, .br true), (3, .reg [] [(2, .bool false)])] [] [0, 3, 4, 5, 43] [(0, 0), (2, 2), (3, 3), (4, 4)] 5 [pf (dt h1), pf h2, pf (df h3)] (tr_text_2_j5_okb ih h cx)
 · obtain ⟨⟨r1, r2⟩, h2, h⟩ := bs h fun _ => tr_form_2_ok
   obtain rfl := Option.some.inj h
   exact rr 9 [(1, .br false), (2, .reg [(2, cl [0, 3] h2)] [])] [] [(0, 0), (198, 1)] 2 [pf (df h1), pf h2]
theorem ok_tr_text_2_j3 : ∀ m, Ok_tr_text_2_j3 m
 | 0 => ⟨(fun h => nomatch (show none = some _ from h)), (fun h => nomatch (show none = some _ from h))⟩
 | m + 1 => ⟨tr_text_2_j3_okb (ok_tr_text_2_j3 m), tr_text_2_l4_okb (ok_tr_text_2_j3 m)⟩
theorem tr_text_2_j3_ok {k : Nat} : Sd5 (tr_text_2_j3 k) tr_text_2_j3_J := (ok_tr_text_2_j3 k).tr_text_2_j3
theorem tr_text_2_l4_ok {k : Nat} : Sd5 (tr_text_2_l4 k) tr_text_2_l4_J := (ok_tr_text_2_j3 k).tr_text_2_l4

noncomputable def tr_text_2_j2_K : List Item := stackAt (bodyOf f66) [1, 1, 1, 0, 1, 0, 0, 1, 0, 0, 1, 0, 0, 1] []
noncomputable def tr_text_2_j2_S (a0 : Str) (a1 : Int) (a2 : List Token) (a3 : Int) (a4 : UInt8) (a5 : Bool) : St := ⟨[(0, .one (.ptr 0 0)), (3, .one (.int .i64 a3)), (4, .one (.ptr 2 0)), (5, .one (.int .u8 (a4.toNat : Int))), (43, .one (.bool a5))], [(0, .var 78 [.str a0, .int .i64 a1, .own 4 (Row.rows (α := Token) a2) 3]), (2, .var 120 [.c (.lit (.pointer none)), .nil 1]), (3, .row 66 4)], 4, 101, 2⟩
noncomputable def tr_text_2_j2_J (a0 : Str) (a1 : Int) (a2 : List Token) (a3 : Int) (a4 : UInt8) (a5 : Bool) (r : (Int × (List Token) × Int)) : Prop := ∀ cx : Cx, AK prog cx tr_text_2_j2_K (tr_text_2_j2_S a0 a1 a2 a3 a4 a5) (Fin lay f66.results.toList 2 fun o v => o = tr_text_2_O a0 r.1 r.2.1 r.2.2 ∧ v = tr_text_2_V a0 r.1 r.2.1 r.2.2)
noncomputable def tr_text_2_j2 (k : Nat) (a0 : Str) (a1 : Int) (a2 : List Token) (a3 : Int) (a4 : UInt8) (a5 : Bool) : Option (Int × (List Token) × Int) :=
 if a5 = true then (
  (tr_form_2 a0 a1 a2 a1).bind fun (r1, r2) =>
  some (r1, a2, r2)
 ) else (
  if (a4.toNat : Int) = 39 then (
   chk (0 ≤ a1 ∧ a1 ≤ (a0.length : Int) ∧ (a0.length : Int) ≤ (a0.length : Int)) <|
   (strings_HasPrefix (sub a0 a1 (a0.length : Int)) s_x27x27).bind fun r1 =>
   if r1 = true then (
    (sb_WriteByte a4).bind fun r2 =>
    tr_text_2_j3 k a0 (IntKind.i64.wrap (a1 + 1)) a2 r2 a3
   ) else (
    (sb_Len).bind fun r2 =>
    if 1000 < r2 then (
     (tr_form_2 a0 (IntKind.i64.wrap (a1 + 1)) a2 a3).bind fun (r3, r4) =>
     some (r3, a2, r4)
    ) else (
     (sb_String).bind fun r3 =>
     (tr_put_2 a0 (IntKind.i64.wrap (a1 + 1)) a2 (Token.mk 3 r3 0 a3)).bind fun (r4, r5, r6) =>
     some (r4, r5, r6)
    )
   )
  ) else (
   (sb_WriteByte a4).bind fun r1 =>
   tr_text_2_j3 k a0 a1 a2 r1 a3
  )
 )
theorem tr_text_2_j2_ok {k : Nat} : Sd6 (tr_text_2_j2 k) tr_text_2_j2_J := by
 intro a0 a1 a2 a3 a4 a5 r h cx
 unfold tr_text_2_j2 at h
 obtain ⟨h1, h⟩ | ⟨h1, h⟩ := ite_some h
 · obtain ⟨⟨r1, r2⟩, h2, h⟩ := bs h fun _ => tr_form_2_ok
   obtain rfl := Option.some.inj h
   exact rr 5 [(0, .br true), (1, .reg [(5, cl [0, 3] h2)] [])] [] [(0, 0), (85, 1)] 2 [pf (bt h1), pf h2]
 · obtain ⟨h2, h⟩ | ⟨h2, h⟩ := ite_some h
   · obtain ⟨h3, h⟩ := chk_some h
     obtain ⟨r1, h4, h⟩ := bs h fun _ => strings_HasPrefix_ok
     obtain ⟨h5, h⟩ | ⟨h5, h⟩ := ite_some h
     · obtain ⟨r2, h6, h⟩ := bs h fun _ => sb_WriteByte_ok
       exact tt 12 [(0, .br false), (2, .br false), (3, .reg [(9, cl [] h4)] []), (4, .br true), (5, .reg [(1, cl [2] h6)] [])] [] [0, 3, 4] [(0, 0), (2, 2), (3, 3), (245, 4)] 5 [pf (bf h1), pf (ndf h2), pf h3, pf h4, pf (bt h5), pf h6] (tr_text_2_j3_ok h cx)
     · obtain ⟨r2, h6, h⟩ := bs h fun _ => sb_Len_ok
       obtain ⟨h7, h⟩ | ⟨h7, h⟩ := ite_some h
       · obtain ⟨⟨r3, r4⟩, h8, h⟩ := bs h fun _ => tr_form_2_ok
         obtain rfl := Option.some.inj h
         exact rr 19 [(0, .br false), (2, .br false), (3, .reg [(9, cl [] h4)] []), (4, .br false), (6, .reg [(0, cl [2] h6 [0])] []), (7, .br true), (8, .reg [(2, cl [0, 3] h8)] [])] [] [(0, 0), (421, 1)] 2 [pf (bf h1), pf (ndf h2), pf h3, pf h4, pf (bf h5), pf h6, @pf (SameO (.var 120 [.c (.lit (.pointer none)), .nil 1])) rfl, pf (dt h7), pf h8]
       · obtain ⟨r3, h8, h⟩ := bs h fun _ => sb_String_ok
         obtain ⟨⟨r4, r5, r6⟩, h9, h⟩ := bs h fun _ => tr_put_2_ok
         obtain rfl := Option.some.inj h
         exact rr 20 [(0, .br false), (2, .br false), (3, .reg [(9, cl [] h4)] []), (4, .br false), (6, .reg [(0, cl [2] h6 [0])] []), (7, .br false), (8, .reg [(1, cl [2] h8 [0]), (4, cl [0, 3] h9)] [])] [] [(0, 0), (453, 1)] 2 [pf (bf h1), pf (ndf h2), pf h3, pf h4, pf (bf h5), pf h6, @pf (SameO (.var 120 [.c (.lit (.pointer none)), .nil 1])) rfl, pf (df h7), pf h8, @pf (SameO (.var 120 [.c (.lit (.pointer none)), .nil 1])) rfl, pf h9]
   · obtain ⟨r1, h3, h⟩ := bs h fun _ => sb_WriteByte_ok
     exact tt 7 [(0, .br false), (2, .br true), (3, .reg [(1, cl [2] h3)] [])] [] [0, 3, 4] [(0, 0), (2, 2), (3, 3), (69, 4)] 5 [pf (bf h1), pf (ndt h2), pf h3] (tr_text_2_j3_ok h cx)

noncomputable def tr_text_2_l1_K : List Item := stackAt (bodyOf f66) [1, 1, 1, 0, 1, 0, 0] []
noncomputable def tr_text_2_l1_S (a0 : Str) (a1 : Int) (a2 : List Token) (a3 : Int) : St := ⟨[(0, .one (.ptr 0 0)), (3, .one (.int .i64 a3)), (4, .one (.ptr 2 0))], [(0, .var 78 [.str a0, .int .i64 a1, .own 4 (Row.rows (α := Token) a2) 3]), (2, .var 120 [.c (.lit (.pointer none)), .nil 1]), (3, .row 66 4)], 4, 101, 2⟩
noncomputable def tr_text_2_l1_J (a0 : Str) (a1 : Int) (a2 : List Token) (a3 : Int) (r : (Int × (List Token) × Int)) : Prop := ∀ cx : Cx, AK prog cx tr_text_2_l1_K (tr_text_2_l1_S a0 a1 a2 a3) (Fin lay f66.results.toList 2 fun o v => o = tr_text_2_O a0 r.1 r.2.1 r.2.2 ∧ v = tr_text_2_V a0 r.1 r.2.1 r.2.2)
noncomputable def tr_text_2_l1 (k : Nat) (a0 : Str) (a1 : Int) (a2 : List Token) (a3 : Int) : Option (Int × (List Token) × Int) :=
 if a1 < (a0.length : Int) then (
  chk (0 ≤ a1 ∧ a1 < (a0.length : Int)) <|
  if (byteAt a0 a1) < 32 then (
   tr_text_2_j2 k a0 a1 a2 a3 (u8At a0 a1) (!(decide ((byteAt a0 a1) = 10)))
  ) else (
   tr_text_2_j2 k a0 a1 a2 a3 (u8At a0 a1) false
  )
 ) else (
  (tr_form_2 a0 a1 a2 a3).bind fun (r1, r2) =>
  some (r1, a2, r2)
 )
theorem tr_text_2_l1_ok {k : Nat} : Sd4 (tr_text_2_l1 k) tr_text_2_l1_J := by
 intro a0 a1 a2 a3 r h cx
 unfold tr_text_2_l1 at h
 obtain ⟨h1, h⟩ | ⟨h1, h⟩ := ite_some h
 · obtain ⟨h2, h⟩ := chk_some h
   obtain ⟨h3, h⟩ | ⟨h3, h⟩ := ite_some h
   · exact tt 13 [(1, .br true), (3, .reg [] [(2, .bool true)])] [] [0, 3, 4, 5, 43] [(0, 0), (2, 2), (3, 3)] 4 [pf (dt h1), pf h2, pf (dt h3)] (tr_text_2_j2_ok h cx)
   · exact tt 13 [(1, .br true), (3, .reg [] [(2, .bool false)])] [] [0, 3, 4, 5, 43] [(0, 0), (2, 2), (3, 3)] 4 [pf (dt h1), pf h2, pf (df h3)] (tr_text_2_j2_ok h cx)
 · obtain ⟨⟨r1, r2⟩, h2, h⟩ := bs h fun _ => tr_form_2_ok
   obtain rfl := Option.some.inj h
   exact rr 9 [(1, .br false), (2, .reg [(2, cl [0, 3] h2)] [])] [] [(0, 0), (197, 1)] 2 [pf (df h1), pf h2]

noncomputable def tr_text_2 (k : Nat) (a0 : Str) (a1 : Int) (a2 : List Token) : Option (Int × (List Token) × Int) :=
 tr_text_2_l1 k a0 (IntKind.i64.wrap (a1 + 1)) a2 a1
theorem tr_text_2_ok {k : Nat} : Sd3 (tr_text_2 k) tr_text_2_J := by
 intro a0 a1 a2 r h
 unfold tr_text_2 at h
 refine ent (c := bodyOf f66) func66 rfl rfl rfl fun cx => ?_
 exact tt 11 [] [] [0, 3, 4] [(0, 0), (98, 2), (1, 3)] 4 [] (tr_text_2_l1_ok h cx)

noncomputable def tr_next_2_O (a0 : Str) (a1 : Int) (a2 : List Token) (a3 : Int) : List O := [.var 78 [.str a0, .int .i64 a1, .own 4 (Row.rows (α := Token) a2) 1], .row 66 4]
noncomputable def tr_next_2_V (a0 : Str) (a1 : Int) (a2 : List Token) (a3 : Int) : V := .one (.int .i64 a3)
noncomputable def tr_next_2_J (a0 : Str) (a1 : Int) (a2 : List Token) (r : (Int × (List Token) × Int)) : Prop := Has prog 36 [.one (.ptr 0 0)] [.var 78 [.str a0, .int .i64 a1, .own 4 (Row.rows (α := Token) a2) 1], .row 66 4] (tr_next_2_O a0 r.1 r.2.1 r.2.2) (tr_next_2_V a0 r.1 r.2.1 r.2.2)
noncomputable def tr_next_2 (k : Nat) (a0 : Str) (a1 : Int) (a2 : List Token) : Option (Int × (List Token) × Int) :=
 chk (0 ≤ a1 ∧ a1 < (a0.length : Int)) <|
 (token_letter (u8At a0 a1)).bind fun r1 =>
 if r1 = true then (
  (tr_name_2 k a0 a1 a2).bind fun (r2, r3, r4) =>
  some (r2, r3, r4)
 ) else (
  (token_digit (u8At a0 a1)).bind fun r2 =>
  if r2 = true then (
   (tr_number_2 k a0 a1 a2).bind fun (r3, r4, r5) =>
   some (r3, r4, r5)
  ) else (
   if (byteAt a0 a1) = 39 then (
    (tr_text_2 k a0 a1 a2).bind fun (r3, r4, r5) =>
    some (r3, r4, r5)
   ) else (
    (tr_mark_2 a0 a1 a2).bind fun (r3, r4, r5) =>
    some (r3, r4, r5)
   )
  )
 )
theorem tr_next_2_ok {k : Nat} : Sd3 (tr_next_2 k) tr_next_2_J := by
 intro a0 a1 a2 r h
 unfold tr_next_2 at h
 refine ent (c := bodyOf f36) func36 rfl rfl rfl fun cx => ?_
 obtain ⟨h1, h⟩ := chk_some h
 obtain ⟨r1, h2, h⟩ := bs h fun _ => token_letter_ok
 obtain ⟨h3, h⟩ | ⟨h3, h⟩ := ite_some h
 · obtain ⟨⟨r2, r3, r4⟩, h4, h⟩ := bs h fun _ => tr_name_2_ok
   obtain rfl := Option.some.inj h
   exact rr 13 [(2, .reg [(1, cl [] h2)] []), (3, .br true), (4, .reg [(1, cl [0, 1] h4)] [])] [] [(0, 0), (243, 1)] 2 [pf h1, pf h2, pf (bt h3), pf h4]
 · obtain ⟨r2, h4, h⟩ := bs h fun _ => token_digit_ok
   obtain ⟨h5, h⟩ | ⟨h5, h⟩ := ite_some h
   · obtain ⟨⟨r3, r4, r5⟩, h6, h⟩ := bs h fun _ => tr_number_2_ok
     obtain rfl := Option.some.inj h
     exact rr 16 [(2, .reg [(1, cl [] h2)] []), (3, .br false), (4, .reg [(1, cl [] h4)] []), (5, .br true), (6, .reg [(1, cl [0, 1] h6)] [])] [] [(0, 0), (291, 1)] 2 [pf h1, pf h2, pf (bf h3), pf h4, pf (bt h5), pf h6]
   · obtain ⟨h6, h⟩ | ⟨h6, h⟩ := ite_some h
     · obtain ⟨⟨r3, r4, r5⟩, h7, h⟩ := bs h fun _ => tr_text_2_ok
       obtain rfl := Option.some.inj h
       exact rr 19 [(2, .reg [(1, cl [] h2)] []), (3, .br false), (4, .reg [(1, cl [] h4)] []), (5, .br false), (7, .br true), (8, .reg [(1, cl [0, 1] h7)] [])] [] [(0, 0), (339, 1)] 2 [pf h1, pf h2, pf (bf h3), pf h4, pf (bf h5), pf (dt h6), pf h7]
     · obtain ⟨⟨r3, r4, r5⟩, h7, h⟩ := bs h fun _ => tr_mark_2_ok
       obtain rfl := Option.some.inj h
       exact rr 21 [(2, .reg [(1, cl [] h2)] []), (3, .br false), (4, .reg [(1, cl [] h4)] []), (5, .br false), (7, .br false), (8, .reg [(1, cl [0, 1] h7)] [])] [] [(0, 0), (339, 1)] 2 [pf h1, pf h2, pf (bf h3), pf h4, pf (bf h5), pf (df h6), pf h7]

noncomputable def isl_IndexByte_O (a0 : Int) : List O := []
noncomputable def isl_IndexByte_V (a0 : Int) : V := .one (.int .i64 a0)
noncomputable def isl_IndexByte_J (a0 : Str) (a1 : UInt8) (r : Int) : Prop := Has prog 77 [.one (.str a0), .one (.int .u8 (a1.toNat : Int))] [] (isl_IndexByte_O r) (isl_IndexByte_V r)
noncomputable def isl_IndexByte (a0 : Str) (a1 : UInt8) : Option Int :=
 some (idxByte a0 a1)
theorem isl_IndexByte_ok : Sd2 isl_IndexByte isl_IndexByte_J := by
 intro a0 a1 r h
 unfold isl_IndexByte at h
 refine ent (c := bodyOf f77) func77 rfl rfl rfl fun cx => ?_
 obtain rfl := Option.some.inj h
 exact rr 6 [(1, .reg [(2, .call [] [] (.one (.int .i64 (idxByte a0 a1))))] [])] [] [] 0 [@pf (Has prog 92 [.one (.str a0), .one (.int .u8 (a1.toNat : Int))] [] [] (.one (.int .i64 (idxByte a0 a1)))) (ext92 _ _)]

noncomputable def strings_IndexByte_O (a0 : Int) : List O := []
noncomputable def strings_IndexByte_V (a0 : Int) : V := .one (.int .i64 a0)
noncomputable def strings_IndexByte_J (a0 : Str) (a1 : UInt8) (r : Int) : Prop := Has prog 60 [.one (.str a0), .one (.int .u8 (a1.toNat : Int))] [] (strings_IndexByte_O r) (strings_IndexByte_V r)
noncomputable def strings_IndexByte (a0 : Str) (a1 : UInt8) : Option Int :=
 (isl_IndexByte a0 a1).bind fun r1 =>
 some r1
theorem strings_IndexByte_ok : Sd2 strings_IndexByte strings_IndexByte_J := by
 intro a0 a1 r h
 unfold strings_IndexByte at h
 refine ent (c := bodyOf f60) func60 rfl rfl rfl fun cx => ?_
 obtain ⟨r1, h1, h⟩ := bs h fun _ => isl_IndexByte_ok
 obtain rfl := Option.some.inj h
 exact rr 6 [(1, .reg [(2, cl [] h1)] [])] [] [] 0 [pf h1]

noncomputable def tr_pass_2_O (a0 : Str) (a1 : Int) (a2 : List Token) : List O := [.var 78 [.str a0, .int .i64 a1, .own 4 (Row.rows (α := Token) a2) 1], .row 66 4]
noncomputable def tr_pass_2_V (a0 : Str) (a1 : Int) (a2 : List Token) : V := .tup []
noncomputable def tr_pass_2_J (a0 : Str) (a1 : Int) (a2 : List Token) (r : Int) : Prop := Has prog 35 [.one (.ptr 0 0)] [.var 78 [.str a0, .int .i64 a1, .own 4 (Row.rows (α := Token) a2) 1], .row 66 4] (tr_pass_2_O a0 r a2) (tr_pass_2_V a0 r a2)
noncomputable def tr_pass_2_j3_K : List Item := stackAt (bodyOf f35) [0, 1, 0, 0, 0, 0, 1] []
noncomputable def tr_pass_2_j3_S (a0 : Str) (a1 : Int) (a2 : List Token) (a3 : Bool) : St := ⟨[(0, .one (.ptr 0 0)), (25, .one (.bool a3))], [(0, .var 78 [.str a0, .int .i64 a1, .own 4 (Row.rows (α := Token) a2) 2]), (2, .row 66 4)], 3, 72, 2⟩
noncomputable def tr_pass_2_j3_J (a0 : Str) (a1 : Int) (a2 : List Token) (a3 : Bool) (r : Int) : Prop := ∀ cx : Cx, AK prog cx tr_pass_2_j3_K (tr_pass_2_j3_S a0 a1 a2 a3) (Fin lay f35.results.toList 2 fun o v => o = tr_pass_2_O a0 r a2 ∧ v = tr_pass_2_V a0 r a2)
noncomputable def tr_pass_2_l2_K : List Item := stackAt (bodyOf f35) [0, 1, 0, 0, 0] []
noncomputable def tr_pass_2_l2_S (a0 : Str) (a1 : Int) (a2 : List Token) : St := ⟨[(0, .one (.ptr 0 0))], [(0, .var 78 [.str a0, .int .i64 a1, .own 4 (Row.rows (α := Token) a2) 2]), (2, .row 66 4)], 3, 72, 2⟩
noncomputable def tr_pass_2_l2_J (a0 : Str) (a1 : Int) (a2 : List Token) (r : Int) : Prop := ∀ cx : Cx, AK prog cx tr_pass_2_l2_K (tr_pass_2_l2_S a0 a1 a2) (Fin lay f35.results.toList 2 fun o v => o = tr_pass_2_O a0 r a2 ∧ v = tr_pass_2_V a0 r a2)
noncomputable def tr_pass_2_l1_K : List Item := stackAt (bodyOf f35) [0, 1] []
noncomputable def tr_pass_2_l1_S (a0 : Str) (a1 : Int) (a2 : List Token) : St := ⟨[(0, .one (.ptr 0 0))], [(0, .var 78 [.str a0, .int .i64 a1, .own 4 (Row.rows (α := Token) a2) 2]), (2, .row 66 4)], 3, 72, 2⟩
noncomputable def tr_pass_2_l1_J (a0 : Str) (a1 : Int) (a2 : List Token) (r : Int) : Prop := ∀ cx : Cx, AK prog cx tr_pass_2_l1_K (tr_pass_2_l1_S a0 a1 a2) (Fin lay f35.results.toList 2 fun o v => o = tr_pass_2_O a0 r a2 ∧ v = tr_pass_2_V a0 r a2)
structure Tab_tr_pass_2_j3 where
 k : Nat
 tr_pass_2_l1 : Str → Int → (List Token) → Option Int
 tr_pass_2_l2 : Str → Int → (List Token) → Option Int
noncomputable def tr_pass_2_j3_b (T : Tab_tr_pass_2_j3) (a0 : Str) (a1 : Int) (a2 : List Token) (a3 : Bool) : Option Int :=
 if a3 = true then (
  T.tr_pass_2_l2 a0 (IntKind.i64.wrap (a1 + 1)) a2
 ) else (
  chk (0 ≤ a1 ∧ a1 ≤ (a0.length : Int) ∧ (a0.length : Int) ≤ (a0.length : Int)) <|
  (strings_HasPrefix (sub a0 a1 (a0.length : Int)) s_x2dx2d).bind fun r1 =>
  if r1 = true then (
   (strings_IndexByte (sub a0 a1 (a0.length : Int)) (10 : UInt8)).bind fun r2 =>
   if 0 ≤ r2 then (
    T.tr_pass_2_l1 a0 (IntKind.i64.wrap (a1 + r2)) a2
   ) else (
    some (a0.length : Int)
   )
  ) else (
   some a1
  )
 )
noncomputable def tr_pass_2_l1_b (T : Tab_tr_pass_2_j3) (a0 : Str) (a1 : Int) (a2 : List Token) : Option Int :=
 T.tr_pass_2_l2 a0 a1 a2
noncomputable def tr_pass_2_l2_b (T : Tab_tr_pass_2_j3) (a0 : Str) (a1 : Int) (a2 : List Token) : Option Int :=
 if a1 < (a0.length : Int) then (
  chk (0 ≤ a1 ∧ a1 < (a0.length : Int)) <|
  (strings_IndexByte s_x20x09x0ax0d (u8At a0 a1)).bind fun r1 =>
  tr_pass_2_j3_b T a0 a1 a2 (decide (0 ≤ r1))
 ) else (
  tr_pass_2_j3_b T a0 a1 a2 false
 )
noncomputable def tab_tr_pass_2_j3 : Nat → Tab_tr_pass_2_j3
 | 0 => ⟨0, fun _ _ _ => none, fun _ _ _ => none⟩
 | k + 1 => ⟨k + 1, tr_pass_2_l1_b (tab_tr_pass_2_j3 k), tr_pass_2_l2_b (tab_tr_pass_2_j3 k)⟩
noncomputable def tr_pass_2_l1 (k : Nat) := (tab_tr_pass_2_j3 k).tr_pass_2_l1
noncomputable def tr_pass_2_l2 (k : Nat) := (tab_tr_pass_2_j3 k).tr_pass_2_l2
structure Ok_tr_pass_2_j3 (m : Nat) : Prop where
 tr_pass_2_l1 : Sd3 (tab_tr_pass_2_j3 m).tr_pass_2_l1 tr_pass_2_l1_J
 tr_pass_2_l2 : Sd3 (tab_tr_pass_2_j3 m).tr_pass_2_l2 tr_pass_2_l2_J
theorem tr_pass_2_j3_okb {m : Nat} (ih : Ok_tr_pass_2_j3 m) : Sd4 (tr_pass_2_j3_b (tab_tr_pass_2_j3 m)) tr_pass_2_j3_J := by
 intro a0 a1 a2 a3 r h cx
 unfold tr_pass_2_j3_b at h
 obtain ⟨h1, h⟩ | ⟨h1, h⟩ := ite_some h
 · exact tt 6 [(0, .br true)] [] [0] [(0, 0), (2, 2)] 3 [pf (bt h1)] (ih.tr_pass_2_l2 h cx)
 · obtain ⟨h2, h⟩ := chk_some h
   obtain ⟨r1, h3, h⟩ := bs h fun _ => strings_HasPrefix_ok
   obtain ⟨h4, h⟩ | ⟨h4, h⟩ := ite_some h
   · obtain ⟨r2, h5, h⟩ := bs h fun _ => strings_IndexByte_ok
     obtain ⟨h6, h⟩ | ⟨h6, h⟩ := ite_some h
     · exact tt 18 [(0, .br false), (1, .reg [(9, cl [] h3)] []), (2, .br false), (3, .reg [(9, cl [] h5)] []), (5, .br true)] [] [0] [(0, 0), (2, 2)] 3 [pf (bf h1), pf h2, pf h3, pf (nbf h4), pf h2, pf h5, pf (dt h6)] (ih.tr_pass_2_l1 h cx)
     · obtain rfl := Option.some.inj h
       exact rr 17 [(0, .br false), (1, .reg [(9, cl [] h3)] []), (2, .br false), (3, .reg [(9, cl [] h5)] []), (5, .br false)] [] [(0, 0), (2, 1)] 2 [pf (bf h1), pf h2, pf h3, pf (nbf h4), pf h2, pf h5, pf (df h6)]
   · obtain rfl := Option.some.inj h
     exact rr 8 [(0, .br false), (1, .reg [(9, cl [] h3)] []), (2, .br true)] [] [(0, 0), (2, 1)] 2 [pf (bf h1), pf h2, pf h3, pf (nbt h4)]
theorem tr_pass_2_l1_okb {m : Nat} (ih : Ok_tr_pass_2_j3 m) : Sd3 (tr_pass_2_l1_b (tab_tr_pass_2_j3 m)) tr_pass_2_l1_J := by
 intro a0 a1 a2 r h cx
 unfold tr_pass_2_l1_b at h
 exact tt 3 [] [] [0] [(0, 0), (2, 2)] 3 [] (ih.tr_pass_2_l2 h cx)
theorem tr_pass_2_l2_okb {m : Nat} (ih : Ok_tr_pass_2_j3 m) : Sd3 (tr_pass_2_l2_b (tab_tr_pass_2_j3 m)) tr_pass_2_l2_J := by
 intro a0 a1 a2 r h cx
 unfold tr_pass_2_l2_b at h
 obtain ⟨h1, h⟩ | ⟨h1, h⟩ := ite_some h
 · obtain ⟨h2, h⟩ := chk_some h
   obtain ⟨r1, h3, h⟩ := bs h fun _ => strings_IndexByte_ok
   exact tt 3 [(0, .reg [(20, cl [] h3)] [(10, .bool true)])] [] [0, 25] [(0, 0), (2, 2)] 3 [pf (dt h1), pf h2, pf h3] (tr_pass_2_j3_okb ih h cx)
 · exact tt 3 [(0, .reg [] [(10, .bool false)])] [] [0, 25] [(0, 0), (2, 2)] 3 [pf (df h1)] (tr_pass_2_j3_okb ih h cx)
theorem ok_tr_pass_2_j3 : ∀ m, Ok_tr_pass_2_j3 m
 | 0 => ⟨(fun h => nomatch (show none = some _ from h)), (fun h => nomatch (show none = some _ from h))⟩
 | m + 1 => ⟨tr_pass_2_l1_okb (ok_tr_pass_2_j3 m), tr_pass_2_l2_okb (ok_tr_pass_2_j3 m)⟩
theorem tr_pass_2_l1_ok {k : Nat} : Sd3 (tr_pass_2_l1 k) tr_pass_2_l1_J := (ok_tr_pass_2_j3 k).tr_pass_2_l1
theorem tr_pass_2_l2_ok {k : Nat} : Sd3 (tr_pass_2_l2 k) tr_pass_2_l2_J := (ok_tr_pass_2_j3 k).tr_pass_2_l2

noncomputable def tr_pass_2 (k : Nat) (a0 : Str) (a1 : Int) (a2 : List Token) : Option Int :=
 tr_pass_2_l1 k a0 a1 a2
theorem tr_pass_2_ok {k : Nat} : Sd3 (tr_pass_2 k) tr_pass_2_J := by
 intro a0 a1 a2 r h
 unfold tr_pass_2 at h
 refine ent (c := bodyOf f35) func35 rfl rfl rfl fun cx => ?_
 exact tt 3 [] [] [0] [(0, 0), (1, 2)] 3 [] (tr_pass_2_l1_ok h cx)

noncomputable def token_Scan_O (a0 : List Token) (a1 a2 : Int) : List O := []
noncomputable def token_Scan_V (a0 : List Token) (a1 a2 : Int) : V := .tup [.one (.c (.sl 4 (Row.rows (α := Token) a0))), .one (.int .i64 a1), .one (.int .i64 a2)]
noncomputable def token_Scan_J (a0 : Str) (r : ((List Token) × Int × Int)) : Prop := Has prog 20 [.one (.str a0)] [] (token_Scan_O r.1 r.2.1 r.2.2) (token_Scan_V r.1 r.2.1 r.2.2)
noncomputable def token_Scan_l1_K : List Item := stackAt (bodyOf f20) [1, 1, 1, 0, 0, 0] []
noncomputable def token_Scan_l1_S (a0 : Str) (a1 : Int) (a2 : List Token) (a3 : Str) : St := ⟨[(0, .one (.str a3)), (5, .one (.ptr 0 0))], [(0, .var 78 [.str a0, .int .i64 a1, .own 4 (Row.rows (α := Token) a2) 1]), (1, .row 66 4)], 2, 48, 0⟩
noncomputable def token_Scan_l1_J (a0 : Str) (a1 : Int) (a2 : List Token) (a3 : Str) (r : ((List Token) × Int × Int)) : Prop := ∀ cx : Cx, AK prog cx token_Scan_l1_K (token_Scan_l1_S a0 a1 a2 a3) (Fin lay f20.results.toList 0 fun o v => o = token_Scan_O r.1 r.2.1 r.2.2 ∧ v = token_Scan_V r.1 r.2.1 r.2.2)
structure Tab_token_Scan_l1 where
 k : Nat
 token_Scan_l1 : Str → Int → (List Token) → Str → Option ((List Token) × Int × Int)
noncomputable def token_Scan_l1_b (T : Tab_token_Scan_l1) (a0 : Str) (a1 : Int) (a2 : List Token) (a3 : Str) : Option ((List Token) × Int × Int) :=
 (tr_pass_2 T.k a0 a1 a2).bind fun r1 =>
 if r1 = (a3.length : Int) then (
  (tr_put_2 a0 r1 a2 (Token.mk 0 [] 0 (a3.length : Int))).bind fun (r2, r3, r4) =>
  if r4 = 0 then (
   some (r3, 0, 0)
  ) else (
   some ([], r2, r4)
  )
 ) else (
  (tr_next_2 T.k a0 r1 a2).bind fun (r2, r3, r4) =>
  if r4 = 0 then (
   T.token_Scan_l1 a0 r2 r3 a3
  ) else (
   some ([], r2, r4)
  )
 )
noncomputable def tab_token_Scan_l1 : Nat → Tab_token_Scan_l1
 | 0 => ⟨0, fun _ _ _ _ => none⟩
 | k + 1 => ⟨k + 1, token_Scan_l1_b (tab_token_Scan_l1 k)⟩
noncomputable def token_Scan_l1 (k : Nat) := (tab_token_Scan_l1 k).token_Scan_l1
structure Ok_token_Scan_l1 (m : Nat) : Prop where
 token_Scan_l1 : Sd4 (tab_token_Scan_l1 m).token_Scan_l1 token_Scan_l1_J
theorem token_Scan_l1_okb {m : Nat} (ih : Ok_token_Scan_l1 m) : Sd4 (token_Scan_l1_b (tab_token_Scan_l1 m)) token_Scan_l1_J := by
 intro a0 a1 a2 a3 r h cx
 unfold token_Scan_l1_b at h
 obtain ⟨r1, h1, h⟩ := bs h fun _ => tr_pass_2_ok
 obtain ⟨h2, h⟩ | ⟨h2, h⟩ := ite_some h
 · obtain ⟨⟨r2, r3, r4⟩, h3, h⟩ := bs h fun _ => tr_put_2_ok
   obtain ⟨h4, h⟩ | ⟨h4, h⟩ := ite_some h
   · obtain rfl := Option.some.inj h
     exact rr 19 [(0, .reg [(1, cl [0, 1] h1)] []), (2, .br true), (3, .reg [(4, cl [0, 19] h3)] []), (5, .br false)] [] [] 0 [pf h1, pf (dt h2), pf h3, pf (ndf h4)]
   · obtain rfl := Option.some.inj h
     exact rr 18 [(0, .reg [(1, cl [0, 1] h1)] []), (2, .br true), (3, .reg [(4, cl [0, 19] h3)] []), (5, .br true)] [] [] 0 [pf h1, pf (dt h2), pf h3, pf (ndt h4)]
 · obtain ⟨⟨r2, r3, r4⟩, h3, h⟩ := bs h fun _ => tr_next_2_ok
   obtain ⟨h4, h⟩ | ⟨h4, h⟩ := ite_some h
   · exact tt 16 [(0, .reg [(1, cl [0, 1] h1)] []), (2, .br false), (3, .reg [(1, cl [0, 19] h3)] []), (5, .br false)] [] [0, 5] [(0, 0), (163, 1)] 2 [pf h1, pf (df h2), pf h3, pf (ndf h4)] (ih.token_Scan_l1 h cx)
   · obtain rfl := Option.some.inj h
     exact rr 17 [(0, .reg [(1, cl [0, 1] h1)] []), (2, .br false), (3, .reg [(1, cl [0, 19] h3)] []), (5, .br true)] [] [] 0 [pf h1, pf (df h2), pf h3, pf (ndt h4)]
theorem ok_token_Scan_l1 : ∀ m, Ok_token_Scan_l1 m
 | 0 => ⟨(fun h => nomatch (show none = some _ from h))⟩
 | m + 1 => ⟨token_Scan_l1_okb (ok_token_Scan_l1 m)⟩
theorem token_Scan_l1_ok {k : Nat} : Sd4 (token_Scan_l1 k) token_Scan_l1_J := (ok_token_Scan_l1 k).token_Scan_l1

noncomputable def token_Scan (k : Nat) (a0 : Str) : Option ((List Token) × Int × Int) :=
 if 20000 < (a0.length : Int) then (
  some ([], 0, 8)
 ) else (
  token_Scan_l1 k a0 0 [] a0
 )
theorem token_Scan_ok {k : Nat} : Sd1 (token_Scan k) token_Scan_J := by
 intro a0 r h
 unfold token_Scan at h
 refine ent (c := bodyOf f20) func20 rfl rfl rfl fun cx => ?_
 obtain ⟨h1, h⟩ | ⟨h1, h⟩ := ite_some h
 · obtain rfl := Option.some.inj h
   exact rr 10 [(2, .br true)] [] [] 0 [pf (dt h1)]
 · exact tt 12 [(2, .br false)] [.cellOwn 128 2 160 66] [0, 5] [(128, 0), (160, 1)] 2 [pf (df h1)] (token_Scan_l1_ok h cx)

noncomputable def syntax_read_r_O (a0 : Expr) (a1 a2 : Int) : List O := []
noncomputable def syntax_read_r_V (a0 : Expr) (a1 a2 : Int) : V := .tup [.agg (ca a0), .one (.int .i64 a1), .one (.int .i64 a2)]
noncomputable def syntax_read_r_J (a0 : Str) (a1 : Int) (r : (Expr × Int × Int)) : Prop := Has prog 9 [.one (.str a0), .one (.int .i64 a1), .one (.fn 10 [] [])] [] (syntax_read_r_O r.1 r.2.1 r.2.2) (syntax_read_r_V r.1 r.2.1 r.2.2)
noncomputable def syntax_read_r (k : Nat) (a0 : Str) (a1 : Int) : Option (Expr × Int × Int) :=
 (token_Scan k a0).bind fun (r1, r2, r3) =>
 if r3 = 0 then (
  (syntax_Expr_1 k (Parser.mk r1 0 a1 0 0)).bind fun (r4, r5) =>
  (sp_now r4).bind fun r6 =>
  if r6.Kind = 0 then (
   if r4.e = 0 then (
    some (r5, 0, 0)
   ) else (
    some ((Expr.mk 0 0 [] [] [] []), r4.at_, r4.e)
   )
  ) else (
   (sp_fail r4 10).bind fun r7 =>
   if r7.e = 0 then (
    some (r5, 0, 0)
   ) else (
    some ((Expr.mk 0 0 [] [] [] []), r7.at_, r7.e)
   )
  )
 ) else (
  some ((Expr.mk 0 0 [] [] [] []), r2, r3)
 )
theorem syntax_read_r_ok {k : Nat} : Sd2 (syntax_read_r k) syntax_read_r_J := by
 intro a0 a1 r h
 unfold syntax_read_r at h
 refine ent (c := bodyOf f9) func9 rfl rfl rfl fun cx => ?_
 obtain ⟨⟨r1, r2, r3⟩, h1, h⟩ := bs h fun _ => token_Scan_ok
 obtain ⟨h2, h⟩ | ⟨h2, h⟩ := ite_some h
 · obtain ⟨⟨r4, r5⟩, h3, h⟩ := bs h fun _ => syntax_Expr_1_ok
   obtain ⟨r6, h4, h⟩ := bs h fun _ => sp_now_ok
   obtain ⟨h5, h⟩ | ⟨h5, h⟩ := ite_some h
   · obtain ⟨h6, h⟩ | ⟨h6, h⟩ := ite_some h
     · obtain rfl := Option.some.inj h
       exact rr 29 [(2, .reg [(1, cl [] h1)] []), (4, .br false), (6, .reg [(2, cl [288] h3)] []), (7, .reg [(1, cl [288] h4 [0])] []), (8, .br false), (10, .br false)] [] [] 0 [pf h1, pf (ndf h2), pf h3, pf h4, @pf (SameO (.var 64 (ca r4))) rfl, pf (ndf h5), pf (ndf h6)]
     · obtain rfl := Option.some.inj h
       exact rr 28 [(2, .reg [(1, cl [] h1)] []), (4, .br false), (6, .reg [(2, cl [288] h3)] []), (7, .reg [(1, cl [288] h4 [0])] []), (8, .br false), (10, .br true)] [] [] 0 [pf h1, pf (ndf h2), pf h3, pf h4, @pf (SameO (.var 64 (ca r4))) rfl, pf (ndf h5), pf (ndt h6)]
   · obtain ⟨r7, h6, h⟩ := bs h fun _ => sp_fail_ok
     obtain ⟨h7, h⟩ | ⟨h7, h⟩ := ite_some h
     · obtain rfl := Option.some.inj h
       exact rr 29 [(2, .reg [(1, cl [] h1)] []), (4, .br false), (6, .reg [(2, cl [288] h3)] []), (7, .reg [(1, cl [288] h4 [0])] []), (8, .br true), (9, .reg [(1, cl [288] h6)] []), (11, .br false)] [] [] 0 [pf h1, pf (ndf h2), pf h3, pf h4, @pf (SameO (.var 64 (ca r4))) rfl, pf (ndt h5), pf h6, pf (ndf h7)]
     · obtain rfl := Option.some.inj h
       exact rr 28 [(2, .reg [(1, cl [] h1)] []), (4, .br false), (6, .reg [(2, cl [288] h3)] []), (7, .reg [(1, cl [288] h4 [0])] []), (8, .br true), (9, .reg [(1, cl [288] h6)] []), (11, .br true)] [] [] 0 [pf h1, pf (ndf h2), pf h3, pf h4, @pf (SameO (.var 64 (ca r4))) rfl, pf (ndt h5), pf h6, pf (ndt h7)]
 · obtain rfl := Option.some.inj h
   exact rr 14 [(2, .reg [(1, cl [] h1)] []), (4, .br true)] [] [] 0 [pf h1, pf (ndt h2)]

noncomputable def syntax_Expr_O (a0 : Expr) (a1 a2 : Int) : List O := []
noncomputable def syntax_Expr_V (a0 : Expr) (a1 a2 : Int) : V := .tup [.agg (ca a0), .one (.int .i64 a1), .one (.int .i64 a2)]
noncomputable def syntax_Expr_J (a0 : Str) (r : (Expr × Int × Int)) : Prop := Has prog 5 [.one (.str a0)] [] (syntax_Expr_O r.1 r.2.1 r.2.2) (syntax_Expr_V r.1 r.2.1 r.2.2)
noncomputable def syntax_Expr (k : Nat) (a0 : Str) : Option (Expr × Int × Int) :=
 (syntax_read_r k a0 0).bind fun (r1, r2, r3) =>
 some (r1, r2, r3)
theorem syntax_Expr_ok {k : Nat} : Sd1 (syntax_Expr k) syntax_Expr_J := by
 intro a0 r h
 unfold syntax_Expr at h
 refine ent (c := bodyOf f5) func5 rfl rfl rfl fun cx => ?_
 obtain ⟨⟨r1, r2, r3⟩, h1, h⟩ := bs h fun _ => syntax_read_r_ok
 obtain rfl := Option.some.inj h
 exact rr 6 [(1, .reg [(1, cl [] h1)] [])] [] [] 0 [pf h1]

noncomputable def syntax_Query_1_O (a0 : Parser) (a1 : Query) : List O := [.var 64 (ca a0)]
noncomputable def syntax_Query_1_V (a0 : Parser) (a1 : Query) : V := .agg (ca a1)
noncomputable def syntax_Query_1_J (a0 : Parser) (r : (Parser × Query)) : Prop := Has prog 15 [.one (.ptr 0 0)] [.var 64 (ca a0)] (syntax_Query_1_O r.1 r.2) (syntax_Query_1_V r.1 r.2)
noncomputable def syntax_Query_1 (k : Nat) (a0 : Parser) : Option (Parser × Query) :=
 (sp_query k a0).bind fun (r1, r2) =>
 some (r1, r2)
theorem syntax_Query_1_ok {k : Nat} : Sd1 (syntax_Query_1 k) syntax_Query_1_J := by
 intro a0 r h
 unfold syntax_Query_1 at h
 refine ent (c := bodyOf f15) func15 rfl rfl rfl fun cx => ?_
 obtain ⟨⟨r1, r2⟩, h1, h⟩ := bs h fun _ => sp_query_ok
 obtain rfl := Option.some.inj h
 exact rr 6 [(1, .reg [(1, cl [0] h1)] [])] [] [(0, 0)] 1 [pf h1]

noncomputable def syntax_read_y_O (a0 : Query) (a1 a2 : Int) : List O := []
noncomputable def syntax_read_y_V (a0 : Query) (a1 a2 : Int) : V := .tup [.agg (ca a0), .one (.int .i64 a1), .one (.int .i64 a2)]
noncomputable def syntax_read_y_J (a0 : Str) (a1 : Int) (r : (Query × Int × Int)) : Prop := Has prog 14 [.one (.str a0), .one (.int .i64 a1), .one (.fn 15 [] [])] [] (syntax_read_y_O r.1 r.2.1 r.2.2) (syntax_read_y_V r.1 r.2.1 r.2.2)
noncomputable def syntax_read_y (k : Nat) (a0 : Str) (a1 : Int) : Option (Query × Int × Int) :=
 (token_Scan k a0).bind fun (r1, r2, r3) =>
 if r3 = 0 then (
  (syntax_Query_1 k (Parser.mk r1 0 a1 0 0)).bind fun (r4, r5) =>
  (sp_now r4).bind fun r6 =>
  if r6.Kind = 0 then (
   if r4.e = 0 then (
    some (r5, 0, 0)
   ) else (
    some ((Query.mk 0 false [] [] [] [] [] [] 0 []), r4.at_, r4.e)
   )
  ) else (
   (sp_fail r4 10).bind fun r7 =>
   if r7.e = 0 then (
    some (r5, 0, 0)
   ) else (
    some ((Query.mk 0 false [] [] [] [] [] [] 0 []), r7.at_, r7.e)
   )
  )
 ) else (
  some ((Query.mk 0 false [] [] [] [] [] [] 0 []), r2, r3)
 )
theorem syntax_read_y_ok {k : Nat} : Sd2 (syntax_read_y k) syntax_read_y_J := by
 intro a0 a1 r h
 unfold syntax_read_y at h
 refine ent (c := bodyOf f14) func14 rfl rfl rfl fun cx => ?_
 obtain ⟨⟨r1, r2, r3⟩, h1, h⟩ := bs h fun _ => token_Scan_ok
 obtain ⟨h2, h⟩ | ⟨h2, h⟩ := ite_some h
 · obtain ⟨⟨r4, r5⟩, h3, h⟩ := bs h fun _ => syntax_Query_1_ok
   obtain ⟨r6, h4, h⟩ := bs h fun _ => sp_now_ok
   obtain ⟨h5, h⟩ | ⟨h5, h⟩ := ite_some h
   · obtain ⟨h6, h⟩ | ⟨h6, h⟩ := ite_some h
     · obtain rfl := Option.some.inj h
       exact rr 29 [(2, .reg [(1, cl [] h1)] []), (4, .br false), (6, .reg [(2, cl [288] h3)] []), (7, .reg [(1, cl [288] h4 [0])] []), (8, .br false), (10, .br false)] [] [] 0 [pf h1, pf (ndf h2), pf h3, pf h4, @pf (SameO (.var 64 (ca r4))) rfl, pf (ndf h5), pf (ndf h6)]
     · obtain rfl := Option.some.inj h
       exact rr 28 [(2, .reg [(1, cl [] h1)] []), (4, .br false), (6, .reg [(2, cl [288] h3)] []), (7, .reg [(1, cl [288] h4 [0])] []), (8, .br false), (10, .br true)] [] [] 0 [pf h1, pf (ndf h2), pf h3, pf h4, @pf (SameO (.var 64 (ca r4))) rfl, pf (ndf h5), pf (ndt h6)]
   · obtain ⟨r7, h6, h⟩ := bs h fun _ => sp_fail_ok
     obtain ⟨h7, h⟩ | ⟨h7, h⟩ := ite_some h
     · obtain rfl := Option.some.inj h
       exact rr 29 [(2, .reg [(1, cl [] h1)] []), (4, .br false), (6, .reg [(2, cl [288] h3)] []), (7, .reg [(1, cl [288] h4 [0])] []), (8, .br true), (9, .reg [(1, cl [288] h6)] []), (11, .br false)] [] [] 0 [pf h1, pf (ndf h2), pf h3, pf h4, @pf (SameO (.var 64 (ca r4))) rfl, pf (ndt h5), pf h6, pf (ndf h7)]
     · obtain rfl := Option.some.inj h
       exact rr 28 [(2, .reg [(1, cl [] h1)] []), (4, .br false), (6, .reg [(2, cl [288] h3)] []), (7, .reg [(1, cl [288] h4 [0])] []), (8, .br true), (9, .reg [(1, cl [288] h6)] []), (11, .br true)] [] [] 0 [pf h1, pf (ndf h2), pf h3, pf h4, @pf (SameO (.var 64 (ca r4))) rfl, pf (ndt h5), pf h6, pf (ndt h7)]
 · obtain rfl := Option.some.inj h
   exact rr 14 [(2, .reg [(1, cl [] h1)] []), (4, .br true)] [] [] 0 [pf h1, pf (ndt h2)]

noncomputable def syntax_Query_O (a0 : Query) (a1 a2 : Int) : List O := []
noncomputable def syntax_Query_V (a0 : Query) (a1 a2 : Int) : V := .tup [.agg (ca a0), .one (.int .i64 a1), .one (.int .i64 a2)]
noncomputable def syntax_Query_J (a0 : Str) (r : (Query × Int × Int)) : Prop := Has prog 7 [.one (.str a0)] [] (syntax_Query_O r.1 r.2.1 r.2.2) (syntax_Query_V r.1 r.2.1 r.2.2)
noncomputable def syntax_Query (k : Nat) (a0 : Str) : Option (Query × Int × Int) :=
 (syntax_read_y k a0 0).bind fun (r1, r2, r3) =>
 some (r1, r2, r3)
theorem syntax_Query_ok {k : Nat} : Sd1 (syntax_Query k) syntax_Query_J := by
 intro a0 r h
 unfold syntax_Query at h
 refine ent (c := bodyOf f7) func7 rfl rfl rfl fun cx => ?_
 obtain ⟨⟨r1, r2, r3⟩, h1, h⟩ := bs h fun _ => syntax_read_y_ok
 obtain rfl := Option.some.inj h
 exact rr 6 [(1, .reg [(1, cl [] h1)] [])] [] [] 0 [pf h1]

noncomputable def sp_typed_O (a0 : Parser) (a1 : Int) : List O := [.var 64 (ca a0)]
noncomputable def sp_typed_V (a0 : Parser) (a1 : Int) : V := .one (.int .i64 a1)
noncomputable def sp_typed_J (a0 : Parser) (r : (Parser × Int)) : Prop := Has prog 71 [.one (.ptr 0 0)] [.var 64 (ca a0)] (sp_typed_O r.1 r.2) (sp_typed_V r.1 r.2)
noncomputable def sp_typed (a0 : Parser) : Option (Parser × Int) :=
 (sp_word a0 s_int).bind fun (r1, r2) =>
 if r2 = true then (
  some (r1, 2)
 ) else (
  (sp_word r1 s_bool).bind fun (r3, r4) =>
  if r4 = true then (
   some (r3, 1)
  ) else (
   (sp_word r3 s_text).bind fun (r5, r6) =>
   if r6 = true then (
    some (r5, 3)
   ) else (
    (sp_fail r5 10).bind fun r7 =>
    some (r7, 0)
   )
  )
 )
theorem sp_typed_ok : Sd1 sp_typed sp_typed_J := by
 intro a0 r h
 unfold sp_typed at h
 refine ent (c := bodyOf f71) func71 rfl rfl rfl fun cx => ?_
 obtain ⟨⟨r1, r2⟩, h1, h⟩ := bs h fun _ => sp_word_ok
 obtain ⟨h2, h⟩ | ⟨h2, h⟩ := ite_some h
 · obtain rfl := Option.some.inj h
   exact rr 11 [(1, .reg [(1, cl [0] h1)] []), (2, .br true)] [] [(0, 0)] 1 [pf h1, pf (bt h2)]
 · obtain ⟨⟨r3, r4⟩, h3, h⟩ := bs h fun _ => sp_word_ok
   obtain ⟨h4, h⟩ | ⟨h4, h⟩ := ite_some h
   · obtain rfl := Option.some.inj h
     exact rr 14 [(1, .reg [(1, cl [0] h1)] []), (2, .br false), (3, .reg [(1, cl [0] h3)] []), (4, .br true)] [] [(0, 0)] 1 [pf h1, pf (bf h2), pf h3, pf (bt h4)]
   · obtain ⟨⟨r5, r6⟩, h5, h⟩ := bs h fun _ => sp_word_ok
     obtain ⟨h6, h⟩ | ⟨h6, h⟩ := ite_some h
     · obtain rfl := Option.some.inj h
       exact rr 17 [(1, .reg [(1, cl [0] h1)] []), (2, .br false), (3, .reg [(1, cl [0] h3)] []), (4, .br false), (5, .reg [(1, cl [0] h5)] []), (6, .br true)] [] [(0, 0)] 1 [pf h1, pf (bf h2), pf h3, pf (bf h4), pf h5, pf (bt h6)]
     · obtain ⟨r7, h7, h⟩ := bs h fun _ => sp_fail_ok
       obtain rfl := Option.some.inj h
       exact rr 21 [(1, .reg [(1, cl [0] h1)] []), (2, .br false), (3, .reg [(1, cl [0] h3)] []), (4, .br false), (5, .reg [(1, cl [0] h5)] []), (6, .br false), (7, .reg [(1, cl [0] h7)] [])] [] [(0, 0)] 1 [pf h1, pf (bf h2), pf h3, pf (bf h4), pf h5, pf (bf h6), pf h7]

noncomputable def sp_typedName_O (a0 : Parser) (a1 : Var) : List O := [.var 64 (ca a0)]
noncomputable def sp_typedName_V (a0 : Parser) (a1 : Var) : V := .agg (ca a1)
noncomputable def sp_typedName_J (a0 : Parser) (r : (Parser × Var)) : Prop := Has prog 54 [.one (.ptr 0 0)] [.var 64 (ca a0)] (sp_typedName_O r.1 r.2) (sp_typedName_V r.1 r.2)
noncomputable def sp_typedName (a0 : Parser) : Option (Parser × Var) :=
 (sp_name a0).bind fun (r1, r2) =>
 (sp_typed r1).bind fun (r3, r4) =>
 some (r3, (Var.mk r2 r4))
theorem sp_typedName_ok : Sd1 sp_typedName sp_typedName_J := by
 intro a0 r h
 unfold sp_typedName at h
 refine ent (c := bodyOf f54) func54 rfl rfl rfl fun cx => ?_
 obtain ⟨⟨r1, r2⟩, h1, h⟩ := bs h fun _ => sp_name_ok
 obtain ⟨⟨r3, r4⟩, h2, h⟩ := bs h fun _ => sp_typed_ok
 obtain rfl := Option.some.inj h
 exact rr 8 [(1, .reg [(1, cl [0] h1)] []), (2, .reg [(2, cl [0] h2)] [])] [] [(0, 0)] 1 [pf h1, pf h2]

noncomputable def sp_decls_O (a0 : Parser) (a1 : List Var) : List O := [.var 64 (ca a0)]
noncomputable def sp_decls_V (a0 : Parser) (a1 : List Var) : V := .one (.c (.sl 2 (Row.rows (α := Var) a1)))
noncomputable def sp_decls_J (a0 : Parser) (r : (Parser × (List Var))) : Prop := Has prog 31 [.one (.ptr 0 0)] [.var 64 (ca a0)] (sp_decls_O r.1 r.2) (sp_decls_V r.1 r.2)
noncomputable def sp_decls_l1_K : List Item := stackAt (bodyOf f31) [1, 1, 0, 0, 0] []
noncomputable def sp_decls_l1_S (a0 : Parser) (a1 : List Var) : St := ⟨[(0, .one (.ptr 0 0)), (3, .one (.own 2 (Row.rows (α := Var) a1) 1))], [(0, .var 64 (ca a0)), (1, .row 99 2)], 2, 14, 1⟩
noncomputable def sp_decls_l1_J (a0 : Parser) (a1 : List Var) (r : (Parser × (List Var))) : Prop := ∀ cx : Cx, AK prog cx sp_decls_l1_K (sp_decls_l1_S a0 a1) (Fin lay f31.results.toList 1 fun o v => o = sp_decls_O r.1 r.2 ∧ v = sp_decls_V r.1 r.2)
structure Tab_sp_decls_l1 where
 k : Nat
 sp_decls_l1 : Parser → (List Var) → Option (Parser × (List Var))
noncomputable def sp_decls_l1_b (T : Tab_sp_decls_l1) (a0 : Parser) (a1 : List Var) : Option (Parser × (List Var)) :=
 (sp_word a0 s_var).bind fun (r1, r2) =>
 if r2 = true then (
  (sp_typedName r1).bind fun (r3, r4) =>
  chk (CapOk 24 a1 [r4]) <|
  (sp_need r3 s_x3b).bind fun r5 =>
  T.sp_decls_l1 r5 (a1 ++ [r4])
 ) else (
  some (r1, a1)
 )
noncomputable def tab_sp_decls_l1 : Nat → Tab_sp_decls_l1
 | 0 => ⟨0, fun _ _ => none⟩
 | k + 1 => ⟨k + 1, sp_decls_l1_b (tab_sp_decls_l1 k)⟩
noncomputable def sp_decls_l1 (k : Nat) := (tab_sp_decls_l1 k).sp_decls_l1
structure Ok_sp_decls_l1 (m : Nat) : Prop where
 sp_decls_l1 : Sd2 (tab_sp_decls_l1 m).sp_decls_l1 sp_decls_l1_J
theorem sp_decls_l1_okb {m : Nat} (ih : Ok_sp_decls_l1 m) : Sd2 (sp_decls_l1_b (tab_sp_decls_l1 m)) sp_decls_l1_J := by
 intro a0 a1 r h cx
 unfold sp_decls_l1_b at h
 obtain ⟨⟨r1, r2⟩, h1, h⟩ := bs h fun _ => sp_word_ok
 obtain ⟨h2, h⟩ | ⟨h2, h⟩ := ite_some h
 · obtain ⟨⟨r3, r4⟩, h3, h⟩ := bs h fun _ => sp_typedName_ok
   obtain ⟨h4, h⟩ := chk_some h
   obtain ⟨r5, h5, h⟩ := bs h fun _ => sp_need_ok
   exact tt 11 [(0, .reg [(1, cl [0] h1)] []), (1, .br true), (2, .reg [(2, cl [0] h3)] [(3, .one (.own 2 (Row.rows (α := Var) [r4]) 82)), (4, .one (.own 2 (Row.rows (α := Var) (a1 ++ [r4])) 98))]), (3, .reg [(1, cl [0] h5)] [])] [] [0, 3] [(0, 0), (98, 1)] 2 [pf h1, pf (bt h2), pf h3, @pf (BldP (α := Var) [r4] 82) (bldP _ _), @pf (AppP (α := Var) a1 [r4] 98) (appP _ _ _), pf (cap1 h4), pf (cap2 h4), pf h5] (ih.sp_decls_l1 h cx)
 · obtain rfl := Option.some.inj h
   exact rr 9 [(0, .reg [(1, cl [0] h1)] []), (1, .br false)] [] [(0, 0)] 1 [pf h1, pf (bf h2)]
theorem ok_sp_decls_l1 : ∀ m, Ok_sp_decls_l1 m
 | 0 => ⟨(fun h => nomatch (show none = some _ from h))⟩
 | m + 1 => ⟨sp_decls_l1_okb (ok_sp_decls_l1 m)⟩
theorem sp_decls_l1_ok {k : Nat} : Sd2 (sp_decls_l1 k) sp_decls_l1_J := (ok_sp_decls_l1 k).sp_decls_l1

noncomputable def sp_decls (k : Nat) (a0 : Parser) : Option (Parser × (List Var)) :=
 sp_decls_l1 k a0 []
theorem sp_decls_ok {k : Nat} : Sd1 (sp_decls k) sp_decls_J := by
 intro a0 r h
 unfold sp_decls at h
 refine ent (c := bodyOf f31) func31 rfl rfl rfl fun cx => ?_
 exact tt 7 [] [.slotOwn 3 33 99] [0, 3] [(0, 0), (33, 1)] 2 [] (sp_decls_l1_ok h cx)

noncomputable def sp_proc_1_O (a0 : Str) (a1 : List Var) (a2 : Parser) : List O := [.var 49 [.ptr 2 0], .var 73 [.str a0, .nil 2, .c (.sl 2 (Row.rows (α := Var) a1)), .nil 9], .var 64 (ca a2)]
noncomputable def sp_proc_1_V (a0 : Str) (a1 : List Var) (a2 : Parser) : V := .tup []
noncomputable def sp_proc_1_J (a0 : Str) (a1 : Parser) (r : ((List Var) × Parser)) : Prop := Has prog 58 [.one (.ptr 0 0), .one (.ptr 1 0)] [.var 49 [.ptr 2 0], .var 73 [.str a0, .nil 2, .nil 2, .nil 9], .var 64 (ca a1)] (sp_proc_1_O a0 r.1 r.2) (sp_proc_1_V a0 r.1 r.2)
noncomputable def sp_proc_1 (k : Nat) (a0 : Str) (a1 : Parser) : Option ((List Var) × Parser) :=
 (sp_decls k a1).bind fun (r1, r2) =>
 some (r2, r1)
theorem sp_proc_1_ok {k : Nat} : Sd2 (sp_proc_1 k) sp_proc_1_J := by
 intro a0 a1 r h
 unfold sp_proc_1 at h
 refine ent (c := bodyOf f58) func58 rfl rfl rfl fun cx => ?_
 obtain ⟨⟨r1, r2⟩, h1, h⟩ := bs h fun _ => sp_decls_ok
 obtain rfl := Option.some.inj h
 exact rr 2 [(0, .reg [(1, cl [2] h1)] [])] [] [(0, 0), (1, 1), (2, 2)] 3 [pf h1]

noncomputable def sp_block_1_O : List O := []
noncomputable def sp_block_1_V : V := .tup []
noncomputable def sp_block_1_J (r : Unit) : Prop := Has prog 87 [] [] (sp_block_1_O) (sp_block_1_V)
noncomputable def sp_block_1 : Option Unit :=
 some ()
theorem sp_block_1_ok : Sd0 sp_block_1 sp_block_1_J := by
 intro r h
 unfold sp_block_1 at h
 refine ent (c := bodyOf f87) func87 rfl rfl rfl fun cx => ?_
 obtain rfl := Option.some.inj h
 exact rr 2 [] [] [] 0 []

noncomputable def sp_bare_O (a0 : Parser) (a1 a2 : Int) (a3 : Str) : List O := [.var 64 (ca a0), .var 105 [.int .i64 a1, .int .i64 a2, .str a3, .nil 1, .nil 6, .nil 10, .nil 6, .nil 9, .nil 9]]
noncomputable def sp_bare_V (a0 : Parser) (a1 a2 : Int) (a3 : Str) : V := .tup []
noncomputable def sp_bare_J (a0 : Parser) (a1 a2 : Int) (a3 : Str) (r : (Parser × Int)) : Prop := Has prog 91 [.one (.ptr 0 0), .one (.ptr 1 0)] [.var 64 (ca a0), .var 105 [.int .i64 a1, .int .i64 a2, .str a3, .nil 1, .nil 6, .nil 10, .nil 6, .nil 9, .nil 9]] (sp_bare_O r.1 r.2 a2 a3) (sp_bare_V r.1 r.2 a2 a3)
noncomputable def sp_bare (a0 : Parser) (a1 a2 : Int) (a3 : Str) : Option (Parser × Int) :=
 (sp_word a0 s_raise).bind fun (r1, r2) =>
 if r2 = true then (
  some (r1, 11)
 ) else (
  (sp_word r1 s_begin).bind fun (r3, r4) =>
  if r4 = true then (
   some (r3, 13)
  ) else (
   (sp_word r3 s_commit).bind fun (r5, r6) =>
   if r6 = true then (
    some (r5, 14)
   ) else (
    (sp_word r5 s_rollback).bind fun (r7, r8) =>
    if r8 = true then (
     some (r7, 15)
    ) else (
     (sp_word r7 s_skip).bind fun (r9, r10) =>
     if r10 = true then (
      some (r9, 16)
     ) else (
      (sp_fail r9 10).bind fun r11 =>
      some (r11, a1)
     )
    )
   )
  )
 )
theorem sp_bare_ok : Sd4 sp_bare sp_bare_J := by
 intro a0 a1 a2 a3 r h
 unfold sp_bare at h
 refine ent (c := bodyOf f91) func91 rfl rfl rfl fun cx => ?_
 obtain ⟨⟨r1, r2⟩, h1, h⟩ := bs h fun _ => sp_word_ok
 obtain ⟨h2, h⟩ | ⟨h2, h⟩ := ite_some h
 · obtain rfl := Option.some.inj h
   exact rr 7 [(0, .reg [(1, cl [0] h1)] []), (1, .br true)] [] [(0, 0), (1, 1)] 2 [pf h1, pf (bt h2)]
 · obtain ⟨⟨r3, r4⟩, h3, h⟩ := bs h fun _ => sp_word_ok
   obtain ⟨h4, h⟩ | ⟨h4, h⟩ := ite_some h
   · obtain rfl := Option.some.inj h
     exact rr 10 [(0, .reg [(1, cl [0] h1)] []), (1, .br false), (2, .reg [(1, cl [0] h3)] []), (3, .br true)] [] [(0, 0), (1, 1)] 2 [pf h1, pf (bf h2), pf h3, pf (bt h4)]
   · obtain ⟨⟨r5, r6⟩, h5, h⟩ := bs h fun _ => sp_word_ok
     obtain ⟨h6, h⟩ | ⟨h6, h⟩ := ite_some h
     · obtain rfl := Option.some.inj h
       exact rr 13 [(0, .reg [(1, cl [0] h1)] []), (1, .br false), (2, .reg [(1, cl [0] h3)] []), (3, .br false), (4, .reg [(1, cl [0] h5)] []), (5, .br true)] [] [(0, 0), (1, 1)] 2 [pf h1, pf (bf h2), pf h3, pf (bf h4), pf h5, pf (bt h6)]
     · obtain ⟨⟨r7, r8⟩, h7, h⟩ := bs h fun _ => sp_word_ok
       obtain ⟨h8, h⟩ | ⟨h8, h⟩ := ite_some h
       · obtain rfl := Option.some.inj h
         exact rr 16 [(0, .reg [(1, cl [0] h1)] []), (1, .br false), (2, .reg [(1, cl [0] h3)] []), (3, .br false), (4, .reg [(1, cl [0] h5)] []), (5, .br false), (6, .reg [(1, cl [0] h7)] []), (7, .br true)] [] [(0, 0), (1, 1)] 2 [pf h1, pf (bf h2), pf h3, pf (bf h4), pf h5, pf (bf h6), pf h7, pf (bt h8)]
       · obtain ⟨⟨r9, r10⟩, h9, h⟩ := bs h fun _ => sp_word_ok
         obtain ⟨h10, h⟩ | ⟨h10, h⟩ := ite_some h
         · obtain rfl := Option.some.inj h
           exact rr 19 [(0, .reg [(1, cl [0] h1)] []), (1, .br false), (2, .reg [(1, cl [0] h3)] []), (3, .br false), (4, .reg [(1, cl [0] h5)] []), (5, .br false), (6, .reg [(1, cl [0] h7)] []), (7, .br false), (8, .reg [(1, cl [0] h9)] []), (9, .br true)] [] [(0, 0), (1, 1)] 2 [pf h1, pf (bf h2), pf h3, pf (bf h4), pf h5, pf (bf h6), pf h7, pf (bf h8), pf h9, pf (bt h10)]
         · obtain ⟨r11, h11, h⟩ := bs h fun _ => sp_fail_ok
           obtain rfl := Option.some.inj h
           exact rr 19 [(0, .reg [(1, cl [0] h1)] []), (1, .br false), (2, .reg [(1, cl [0] h3)] []), (3, .br false), (4, .reg [(1, cl [0] h5)] []), (5, .br false), (6, .reg [(1, cl [0] h7)] []), (7, .br false), (8, .reg [(1, cl [0] h9)] []), (9, .br false), (10, .reg [(1, cl [0] h11)] [])] [] [(0, 0), (1, 1)] 2 [pf h1, pf (bf h2), pf h3, pf (bf h4), pf h5, pf (bf h6), pf h7, pf (bf h8), pf h9, pf (bf h10), pf h11]

noncomputable def sp_insert_O (a0 : Parser) (a1 a2 : Int) (a3 : Str) (a4 : List Expr) (a5 : List Query) : List O := [.var 64 (ca a0), .var 105 [.int .i64 a1, .int .i64 a2, .str a3, .nil 1, .c (.sl 6 (Row.rows (α := Expr) a4)), .own 10 (Row.rows (α := Query) a5) 2, .nil 6, .nil 9, .nil 9], .row 36 10]
noncomputable def sp_insert_V (a0 : Parser) (a1 a2 : Int) (a3 : Str) (a4 : List Expr) (a5 : List Query) : V := .tup []
noncomputable def sp_insert_J (a0 : Parser) (a1 a2 : Int) (a3 : Str) (r : (Parser × Int × Str × (List Expr) × (List Query))) : Prop := Has prog 88 [.one (.ptr 0 0), .one (.ptr 1 0)] [.var 64 (ca a0), .var 105 [.int .i64 a1, .int .i64 a2, .str a3, .nil 1, .nil 6, .nil 10, .nil 6, .nil 9, .nil 9]] (sp_insert_O r.1 r.2.1 a2 r.2.2.1 r.2.2.2.1 r.2.2.2.2) (sp_insert_V r.1 r.2.1 a2 r.2.2.1 r.2.2.2.1 r.2.2.2.2)
noncomputable def sp_insert (k : Nat) (a0 : Parser) (a1 a2 : Int) (a3 : Str) : Option (Parser × Int × Str × (List Expr) × (List Query)) :=
 (sp_must a0 s_into).bind fun r1 =>
 (sp_name r1).bind fun (r2, r3) =>
 (sp_word r2 s_values).bind fun (r4, r5) =>
 if r5 = true then (
  (sp_need r4 s_x28).bind fun r6 =>
  (syntax_list_r_2 k r6).bind fun (r7, r8) =>
  (sp_need r7 s_x29).bind fun r9 =>
  some (r9, 6, r3, r8, [])
 ) else (
  (sp_query k r4).bind fun (r6, r7) =>
  some (r6, 7, r3, [], [r7])
 )
theorem sp_insert_ok {k : Nat} : Sd4 (sp_insert k) sp_insert_J := by
 intro a0 a1 a2 a3 r h
 unfold sp_insert at h
 refine ent (c := bodyOf f88) func88 rfl rfl rfl fun cx => ?_
 obtain ⟨r1, h1, h⟩ := bs h fun _ => sp_must_ok
 obtain ⟨⟨r2, r3⟩, h2, h⟩ := bs h fun _ => sp_name_ok
 obtain ⟨⟨r4, r5⟩, h3, h⟩ := bs h fun _ => sp_word_ok
 obtain ⟨h4, h⟩ | ⟨h4, h⟩ := ite_some h
 · obtain ⟨r6, h5, h⟩ := bs h fun _ => sp_need_ok
   obtain ⟨⟨r7, r8⟩, h6, h⟩ := bs h fun _ => syntax_list_r_2_ok
   obtain ⟨r9, h7, h⟩ := bs h fun _ => sp_need_ok
   obtain rfl := Option.some.inj h
   exact rr 15 [(0, .reg [(1, cl [0] h1)] []), (1, .reg [(2, cl [0] h2)] []), (2, .reg [(1, cl [0] h3)] []), (3, .br false), (4, .reg [(1, cl [0] h5)] []), (5, .reg [(5, cl [0] h6)] []), (6, .reg [(1, cl [0] h7)] [])] [.cellOwn 1 5 434 36] [(0, 0), (1, 1), (434, 2)] 3 [pf h1, pf h2, pf h3, pf (nbf h4), pf h5, pf h6, pf h7]
 · obtain ⟨⟨r6, r7⟩, h5, h⟩ := bs h fun _ => sp_query_ok
   obtain rfl := Option.some.inj h
   exact rr 12 [(0, .reg [(1, cl [0] h1)] []), (1, .reg [(2, cl [0] h2)] []), (2, .reg [(1, cl [0] h3)] []), (3, .br true), (4, .reg [(3, cl [0] h5)] [(4, .one (.own 10 (Row.rows (α := Query) [r7]) 242))])] [.cell 1 4] [(0, 0), (1, 1), (242, 2)] 3 [pf h1, pf h2, pf h3, pf (nbt h4), pf h5, @pf (BldP (α := Query) [r7] 242) (bldP _ _)]

noncomputable def sp_where_O (a0 : Parser) (a1 : List Expr) : List O := [.var 64 (ca a0)]
noncomputable def sp_where_V (a0 : Parser) (a1 : List Expr) : V := .one (.c (.sl 6 (Row.rows (α := Expr) a1)))
noncomputable def sp_where_J (a0 : Parser) (r : (Parser × (List Expr))) : Prop := Has prog 90 [.one (.ptr 0 0)] [.var 64 (ca a0)] (sp_where_O r.1 r.2) (sp_where_V r.1 r.2)
noncomputable def sp_where (k : Nat) (a0 : Parser) : Option (Parser × (List Expr)) :=
 (sp_word a0 s_where).bind fun (r1, r2) =>
 if r2 = true then (
  (sp_expr k r1).bind fun (r3, r4) =>
  some (r3, [r4])
 ) else (
  some (r1, [])
 )
theorem sp_where_ok {k : Nat} : Sd1 (sp_where k) sp_where_J := by
 intro a0 r h
 unfold sp_where at h
 refine ent (c := bodyOf f90) func90 rfl rfl rfl fun cx => ?_
 obtain ⟨⟨r1, r2⟩, h1, h⟩ := bs h fun _ => sp_word_ok
 obtain ⟨h2, h⟩ | ⟨h2, h⟩ := ite_some h
 · obtain ⟨⟨r3, r4⟩, h3, h⟩ := bs h fun _ => sp_expr_ok
   obtain rfl := Option.some.inj h
   exact rr 11 [(1, .reg [(1, cl [0] h1)] []), (2, .br false), (3, .reg [(1, cl [0] h3)] [(2, .one (.own 6 (Row.rows (α := Expr) [r4]) 97))])] [] [(0, 0)] 1 [pf h1, pf (nbf h2), pf h3, @pf (BldP (α := Expr) [r4] 97) (bldP _ _)]
 · obtain rfl := Option.some.inj h
   exact rr 10 [(1, .reg [(1, cl [0] h1)] []), (2, .br true)] [] [(0, 0)] 1 [pf h1, pf (nbt h2)]

noncomputable def sp_simple_O (a0 : Parser) (a1 a2 : Int) (a3 : Str) (a4 : List Str) (a5 : List Expr) (a6 : List Query) (a7 : List Expr) : List O := [.var 64 (ca a0), .var 105 [.int .i64 a1, .int .i64 a2, .str a3, .own 1 (Row.rows (α := Str) a4) 2, .c (.sl 6 (Row.rows (α := Expr) a5)), .own 10 (Row.rows (α := Query) a6) 3, .c (.sl 6 (Row.rows (α := Expr) a7)), .nil 9, .nil 9], .row 9 1, .row 36 10]
noncomputable def sp_simple_V (a0 : Parser) (a1 a2 : Int) (a3 : Str) (a4 : List Str) (a5 : List Expr) (a6 : List Query) (a7 : List Expr) : V := .tup []
noncomputable def sp_simple_J (a0 : Parser) (a1 a2 : Int) (a3 : Str) (r : (Parser × Int × Str × (List Str) × (List Expr) × (List Query) × (List Expr))) : Prop := Has prog 76 [.one (.ptr 0 0), .one (.ptr 1 0)] [.var 64 (ca a0), .var 105 [.int .i64 a1, .int .i64 a2, .str a3, .nil 1, .nil 6, .nil 10, .nil 6, .nil 9, .nil 9]] (sp_simple_O r.1 r.2.1 a2 r.2.2.1 r.2.2.2.1 r.2.2.2.2.1 r.2.2.2.2.2.1 r.2.2.2.2.2.2) (sp_simple_V r.1 r.2.1 a2 r.2.2.1 r.2.2.2.1 r.2.2.2.2.1 r.2.2.2.2.2.1 r.2.2.2.2.2.2)
noncomputable def sp_simple (k : Nat) (a0 : Parser) (a1 a2 : Int) (a3 : Str) : Option (Parser × Int × Str × (List Str) × (List Expr) × (List Query) × (List Expr)) :=
 (sp_word a0 s_set).bind fun (r1, r2) =>
 if r2 = true then (
  (sp_name r1).bind fun (r3, r4) =>
  (sp_need r3 s_x3d).bind fun r5 =>
  (sp_expr k r5).bind fun (r6, r7) =>
  some (r6, 1, a3, [r4], [r7], [], [])
 ) else (
  (sp_word r1 s_print).bind fun (r3, r4) =>
  if r4 = true then (
   (sp_name r3).bind fun (r5, r6) =>
   (sp_expr k r5).bind fun (r7, r8) =>
   some (r7, 5, r6, [], [r8], [], [])
  ) else (
   (sp_word r3 s_input).bind fun (r5, r6) =>
   if r6 = true then (
    (sp_name r5).bind fun (r7, r8) =>
    some (r7, 17, a3, [r8], [], [], [])
   ) else (
    (sp_word r5 s_insert).bind fun (r7, r8) =>
    if r8 = true then (
     (sp_insert k r7 a1 a2 a3).bind fun (r9, r10, r11, r12, r13) =>
     some (r9, r10, r11, [], r12, r13, [])
    ) else (
     (sp_word r7 s_update).bind fun (r9, r10) =>
     if r10 = true then (
      none
     ) else (
      (sp_word r9 s_delete).bind fun (r11, r12) =>
      if r12 = true then (
       (sp_must r11 s_from).bind fun r13 =>
       (sp_name r13).bind fun (r14, r15) =>
       (sp_where k r14).bind fun (r16, r17) =>
       some (r16, 9, r15, [], [], [], r17)
      ) else (
       (sp_word r11 s_call).bind fun (r13, r14) =>
       if r14 = true then (
        (sp_name r13).bind fun (r15, r16) =>
        (sp_need r15 s_x28).bind fun r17 =>
        (sp_mark r17 s_x29).bind fun (r18, r19) =>
        if r19 = true then (
         some (r18, 12, r16, [], [], [], [])
        ) else (
         (syntax_list_r_2 k r18).bind fun (r20, r21) =>
         (sp_need r20 s_x29).bind fun r22 =>
         some (r22, 12, r16, [], r21, [], [])
        )
       ) else (
        (sp_bare r13 a1 a2 a3).bind fun (r15, r16) =>
        some (r15, r16, a3, [], [], [], [])
       )
      )
     )
    )
   )
  )
 )
theorem sp_simple_ok {k : Nat} : Sd4 (sp_simple k) sp_simple_J := by
 intro a0 a1 a2 a3 r h
 unfold sp_simple at h
 refine ent (c := bodyOf f76) func76 rfl rfl rfl fun cx => ?_
 obtain ⟨⟨r1, r2⟩, h1, h⟩ := bs h fun _ => sp_word_ok
 obtain ⟨h2, h⟩ | ⟨h2, h⟩ := ite_some h
 · obtain ⟨⟨r3, r4⟩, h3, h⟩ := bs h fun _ => sp_name_ok
   obtain ⟨r5, h4, h⟩ := bs h fun _ => sp_need_ok
   obtain ⟨⟨r6, r7⟩, h5, h⟩ := bs h fun _ => sp_expr_ok
   obtain rfl := Option.some.inj h
   exact rr 11 [(0, .reg [(1, cl [0] h1)] []), (1, .br true), (2, .reg [(3, cl [0] h3)] [(4, .one (.own 1 (Row.rows (α := Str) [r4]) 114))]), (3, .reg [(1, cl [0] h4)] []), (4, .reg [(2, cl [0] h5)] [(3, .one (.own 6 (Row.rows (α := Expr) [r7]) 306))])] [.cell 1 4, .cell 1 6, .cellOwn 1 5 370 36] [(0, 0), (1, 1), (114, 2), (370, 3)] 4 [pf h1, pf (bt h2), pf h3, @pf (BldP (α := Str) [r4] 114) (bldP _ _), pf h4, pf h5, @pf (BldP (α := Expr) [r7] 306) (bldP _ _)]
 · obtain ⟨⟨r3, r4⟩, h3, h⟩ := bs h fun _ => sp_word_ok
   obtain ⟨h4, h⟩ | ⟨h4, h⟩ := ite_some h
   · obtain ⟨⟨r5, r6⟩, h5, h⟩ := bs h fun _ => sp_name_ok
     obtain ⟨⟨r7, r8⟩, h6, h⟩ := bs h fun _ => sp_expr_ok
     obtain rfl := Option.some.inj h
     exact rr 12 [(0, .reg [(1, cl [0] h1)] []), (1, .br false), (2, .reg [(1, cl [0] h3)] []), (3, .br true), (4, .reg [(3, cl [0] h5)] []), (5, .reg [(2, cl [0] h6)] [(3, .one (.own 6 (Row.rows (α := Expr) [r8]) 306))])] [.cell 1 4, .cell 1 6, .cellOwn 1 3 370 9, .cellOwn 1 5 371 36] [(0, 0), (1, 1), (370, 2), (371, 3)] 4 [pf h1, pf (bf h2), pf h3, pf (bt h4), pf h5, pf h6, @pf (BldP (α := Expr) [r8] 306) (bldP _ _)]
   · obtain ⟨⟨r5, r6⟩, h5, h⟩ := bs h fun _ => sp_word_ok
     obtain ⟨h6, h⟩ | ⟨h6, h⟩ := ite_some h
     · obtain ⟨⟨r7, r8⟩, h7, h⟩ := bs h fun _ => sp_name_ok
       obtain rfl := Option.some.inj h
       exact rr 13 [(0, .reg [(1, cl [0] h1)] []), (1, .br false), (2, .reg [(1, cl [0] h3)] []), (3, .br false), (4, .reg [(1, cl [0] h5)] []), (5, .br true), (6, .reg [(3, cl [0] h7)] [(4, .one (.own 1 (Row.rows (α := Str) [r8]) 210))])] [.cell 1 4, .cell 1 6, .cellOwn 1 5 322 36] [(0, 0), (1, 1), (210, 2), (322, 3)] 4 [pf h1, pf (bf h2), pf h3, pf (bf h4), pf h5, pf (bt h6), pf h7, @pf (BldP (α := Str) [r8] 210) (bldP _ _)]
     · obtain ⟨⟨r7, r8⟩, h7, h⟩ := bs h fun _ => sp_word_ok
       obtain ⟨h8, h⟩ | ⟨h8, h⟩ := ite_some h
       · obtain ⟨⟨r9, r10, r11, r12, r13⟩, h9, h⟩ := bs h fun _ => sp_insert_ok
         obtain rfl := Option.some.inj h
         exact rr 16 [(0, .reg [(1, cl [0] h1)] []), (1, .br false), (2, .reg [(1, cl [0] h3)] []), (3, .br false), (4, .reg [(1, cl [0] h5)] []), (5, .br false), (6, .reg [(1, cl [0] h7)] []), (7, .br true), (8, .reg [(2, cl [0, 1] h9)] [])] [.cell 1 6, .cellOwn 1 3 242 9] [(0, 0), (1, 1), (242, 2), (228, 3)] 4 [pf h1, pf (bf h2), pf h3, pf (bf h4), pf h5, pf (bf h6), pf h7, pf (bt h8), pf h9]
       · obtain ⟨⟨r9, r10⟩, h9, h⟩ := bs h fun _ => sp_word_ok
         obtain ⟨h10, h⟩ | ⟨h10, h⟩ := ite_some h
         · cases h
         · obtain ⟨⟨r11, r12⟩, h11, h⟩ := bs h fun _ => sp_word_ok
           obtain ⟨h12, h⟩ | ⟨h12, h⟩ := ite_some h
           · obtain ⟨r13, h13, h⟩ := bs h fun _ => sp_must_ok
             obtain ⟨⟨r14, r15⟩, h14, h⟩ := bs h fun _ => sp_name_ok
             obtain ⟨⟨r16, r17⟩, h15, h⟩ := bs h fun _ => sp_where_ok
             obtain rfl := Option.some.inj h
             exact rr 26 [(0, .reg [(1, cl [0] h1)] []), (1, .br false), (2, .reg [(1, cl [0] h3)] []), (3, .br false), (4, .reg [(1, cl [0] h5)] []), (5, .br false), (6, .reg [(1, cl [0] h7)] []), (7, .br false), (8, .reg [(1, cl [0] h9)] []), (9, .br false), (10, .reg [(1, cl [0] h11)] []), (11, .br true), (12, .reg [(1, cl [0] h13)] []), (13, .reg [(3, cl [0] h14)] []), (14, .reg [(2, cl [0] h15)] [])] [.cell 1 4, .cellOwn 1 3 578 9, .cellOwn 1 5 579 36] [(0, 0), (1, 1), (578, 2), (579, 3)] 4 [pf h1, pf (bf h2), pf h3, pf (bf h4), pf h5, pf (bf h6), pf h7, pf (bf h8), pf h9, pf (bf h10), pf h11, pf (bt h12), pf h13, pf h14, pf h15]
           · obtain ⟨⟨r13, r14⟩, h13, h⟩ := bs h fun _ => sp_word_ok
             obtain ⟨h14, h⟩ | ⟨h14, h⟩ := ite_some h
             · obtain ⟨⟨r15, r16⟩, h15, h⟩ := bs h fun _ => sp_name_ok
               obtain ⟨r17, h16, h⟩ := bs h fun _ => sp_need_ok
               obtain ⟨⟨r18, r19⟩, h17, h⟩ := bs h fun _ => sp_mark_ok
               obtain ⟨h18, h⟩ | ⟨h18, h⟩ := ite_some h
               · obtain rfl := Option.some.inj h
                 exact rr 32 [(0, .reg [(1, cl [0] h1)] []), (1, .br false), (2, .reg [(1, cl [0] h3)] []), (3, .br false), (4, .reg [(1, cl [0] h5)] []), (5, .br false), (6, .reg [(1, cl [0] h7)] []), (7, .br false), (8, .reg [(1, cl [0] h9)] []), (9, .br false), (10, .reg [(1, cl [0] h11)] []), (11, .br false), (12, .reg [(1, cl [0] h13)] []), (13, .br true), (14, .reg [(3, cl [0] h15)] []), (15, .reg [(1, cl [0] h16)] []), (16, .reg [(1, cl [0] h17)] []), (17, .br false)] [.cell 1 4, .cell 1 6, .cellOwn 1 3 578 9, .cellOwn 1 5 579 36] [(0, 0), (1, 1), (578, 2), (579, 3)] 4 [pf h1, pf (bf h2), pf h3, pf (bf h4), pf h5, pf (bf h6), pf h7, pf (bf h8), pf h9, pf (bf h10), pf h11, pf (bf h12), pf h13, pf (bt h14), pf h15, pf h16, pf h17, pf (nbf h18)]
               · obtain ⟨⟨r20, r21⟩, h19, h⟩ := bs h fun _ => syntax_list_r_2_ok
                 obtain ⟨r22, h20, h⟩ := bs h fun _ => sp_need_ok
                 obtain rfl := Option.some.inj h
                 exact rr 34 [(0, .reg [(1, cl [0] h1)] []), (1, .br false), (2, .reg [(1, cl [0] h3)] []), (3, .br false), (4, .reg [(1, cl [0] h5)] []), (5, .br false), (6, .reg [(1, cl [0] h7)] []), (7, .br false), (8, .reg [(1, cl [0] h9)] []), (9, .br false), (10, .reg [(1, cl [0] h11)] []), (11, .br false), (12, .reg [(1, cl [0] h13)] []), (13, .br true), (14, .reg [(3, cl [0] h15)] []), (15, .reg [(1, cl [0] h16)] []), (16, .reg [(1, cl [0] h17)] []), (17, .br true), (18, .reg [(4, cl [0] h19)] []), (19, .reg [(1, cl [0] h20)] [])] [.cell 1 6, .cellOwn 1 3 738 9, .cellOwn 1 5 739 36] [(0, 0), (1, 1), (738, 2), (739, 3)] 4 [pf h1, pf (bf h2), pf h3, pf (bf h4), pf h5, pf (bf h6), pf h7, pf (bf h8), pf h9, pf (bf h10), pf h11, pf (bf h12), pf h13, pf (bt h14), pf h15, pf h16, pf h17, pf (nbt h18), pf h19, pf h20]
             · obtain ⟨⟨r15, r16⟩, h15, h⟩ := bs h fun _ => sp_bare_ok
               obtain rfl := Option.some.inj h
               exact rr 25 [(0, .reg [(1, cl [0] h1)] []), (1, .br false), (2, .reg [(1, cl [0] h3)] []), (3, .br false), (4, .reg [(1, cl [0] h5)] []), (5, .br false), (6, .reg [(1, cl [0] h7)] []), (7, .br false), (8, .reg [(1, cl [0] h9)] []), (9, .br false), (10, .reg [(1, cl [0] h11)] []), (11, .br false), (12, .reg [(1, cl [0] h13)] []), (13, .br false), (14, .reg [(2, cl [0, 1] h15)] [])] [.cell 1 4, .cell 1 6, .cellOwn 1 3 386 9, .cellOwn 1 5 387 36] [(0, 0), (1, 1), (386, 2), (387, 3)] 4 [pf h1, pf (bf h2), pf h3, pf (bf h4), pf h5, pf (bf h6), pf h7, pf (bf h8), pf h9, pf (bf h10), pf h11, pf (bf h12), pf h13, pf (bf h14), pf h15]

noncomputable def syntax_list_g_O (a0 : Parser) (a1 : List Str) : List O := [.var 64 (ca a0)]
noncomputable def syntax_list_g_V (a0 : Parser) (a1 : List Str) : V := .one (.c (.sl 1 (Row.rows (α := Str) a1)))
noncomputable def syntax_list_g_J (a0 : Parser) (r : (Parser × (List Str))) : Prop := Has prog 75 [.one (.ptr 0 0), .one (.fn 55 [.ptr 0 0] [])] [.var 64 (ca a0)] (syntax_list_g_O r.1 r.2) (syntax_list_g_V r.1 r.2)
noncomputable def syntax_list_g_l1_K : List Item := stackAt (bodyOf f75) [1, 1, 0, 0, 0] []
noncomputable def syntax_list_g_l1_S (a0 : Parser) (a1 : List Str) : St := ⟨[(0, .one (.ptr 0 0)), (1, .one (.fn 55 [.ptr 0 0] [])), (5, .one (.own 1 (Row.rows (α := Str) a1) 1))], [(0, .var 64 (ca a0)), (1, .row 9 1)], 2, 17, 1⟩
noncomputable def syntax_list_g_l1_J (a0 : Parser) (a1 : List Str) (r : (Parser × (List Str))) : Prop := ∀ cx : Cx, AK prog cx syntax_list_g_l1_K (syntax_list_g_l1_S a0 a1) (Fin lay f75.results.toList 1 fun o v => o = syntax_list_g_O r.1 r.2 ∧ v = syntax_list_g_V r.1 r.2)
structure Tab_syntax_list_g_l1 where
 k : Nat
 syntax_list_g_l1 : Parser → (List Str) → Option (Parser × (List Str))
noncomputable def syntax_list_g_l1_b (T : Tab_syntax_list_g_l1) (a0 : Parser) (a1 : List Str) : Option (Parser × (List Str)) :=
 (sp_mark a0 s_x2c).bind fun (r1, r2) =>
 if r2 = true then (
  (sp_name r1).bind fun (r3, r4) =>
  chk (CapOk 16 a1 [r4]) <|
  T.syntax_list_g_l1 r3 (a1 ++ [r4])
 ) else (
  some (r1, a1)
 )
noncomputable def tab_syntax_list_g_l1 : Nat → Tab_syntax_list_g_l1
 | 0 => ⟨0, fun _ _ => none⟩
 | k + 1 => ⟨k + 1, syntax_list_g_l1_b (tab_syntax_list_g_l1 k)⟩
noncomputable def syntax_list_g_l1 (k : Nat) := (tab_syntax_list_g_l1 k).syntax_list_g_l1
structure Ok_syntax_list_g_l1 (m : Nat) : Prop where
 syntax_list_g_l1 : Sd2 (tab_syntax_list_g_l1 m).syntax_list_g_l1 syntax_list_g_l1_J
theorem syntax_list_g_l1_okb {m : Nat} (ih : Ok_syntax_list_g_l1 m) : Sd2 (syntax_list_g_l1_b (tab_syntax_list_g_l1 m)) syntax_list_g_l1_J := by
 intro a0 a1 r h cx
 unfold syntax_list_g_l1_b at h
 obtain ⟨⟨r1, r2⟩, h1, h⟩ := bs h fun _ => sp_mark_ok
 obtain ⟨h2, h⟩ | ⟨h2, h⟩ := ite_some h
 · obtain ⟨⟨r3, r4⟩, h3, h⟩ := bs h fun _ => sp_name_ok
   obtain ⟨h4, h⟩ := chk_some h
   exact tt 9 [(0, .reg [(1, cl [0] h1)] []), (1, .br true), (2, .reg [(2, cl [0] h3)] [(3, .one (.own 1 (Row.rows (α := Str) [r4]) 82)), (4, .one (.own 1 (Row.rows (α := Str) (a1 ++ [r4])) 98))])] [] [0, 1, 5] [(0, 0), (98, 1)] 2 [pf h1, pf (bt h2), pf h3, @pf (BldP (α := Str) [r4] 82) (bldP _ _), @pf (AppP (α := Str) a1 [r4] 98) (appP _ _ _), pf (cap1 h4), pf (cap2 h4)] (ih.syntax_list_g_l1 h cx)
 · obtain rfl := Option.some.inj h
   exact rr 9 [(0, .reg [(1, cl [0] h1)] []), (1, .br false)] [] [(0, 0)] 1 [pf h1, pf (bf h2)]
theorem ok_syntax_list_g_l1 : ∀ m, Ok_syntax_list_g_l1 m
 | 0 => ⟨(fun h => nomatch (show none = some _ from h))⟩
 | m + 1 => ⟨syntax_list_g_l1_okb (ok_syntax_list_g_l1 m)⟩
theorem syntax_list_g_l1_ok {k : Nat} : Sd2 (syntax_list_g_l1 k) syntax_list_g_l1_J := (ok_syntax_list_g_l1 k).syntax_list_g_l1

noncomputable def syntax_list_g (k : Nat) (a0 : Parser) : Option (Parser × (List Str)) :=
 (sp_name a0).bind fun (r1, r2) =>
 syntax_list_g_l1 k r1 [r2]
theorem syntax_list_g_ok {k : Nat} : Sd1 (syntax_list_g k) syntax_list_g_J := by
 intro a0 r h
 unfold syntax_list_g at h
 refine ent (c := bodyOf f75) func75 rfl rfl rfl fun cx => ?_
 obtain ⟨⟨r1, r2⟩, h1, h⟩ := bs h fun _ => sp_name_ok
 exact tt 7 [(1, .reg [(1, cl [0] h1)] [(2, .one (.own 1 (Row.rows (α := Str) [r2]) 49))])] [] [0, 1, 5] [(0, 0), (49, 1)] 2 [pf h1, @pf (BldP (α := Str) [r2] 49) (bldP _ _)] (syntax_list_g_l1_ok h cx)

noncomputable def sp_within_1_O (a0 : Parser) (a1 : Bool) : List O := [.var 49 [.ptr 1 0], .var 64 (ca a0)]
noncomputable def sp_within_1_V (a0 : Parser) (a1 : Bool) : V := .one (.bool a1)
noncomputable def sp_within_1_J (a0 : Parser) (r : Bool) : Prop := Has prog 73 [.one (.ptr 0 0)] [.var 49 [.ptr 1 0], .var 64 (ca a0)] (sp_within_1_O a0 r) (sp_within_1_V a0 r)
noncomputable def sp_within_1 (a0 : Parser) : Option Bool :=
 (sp_sees a0 4 s_x7d).bind fun r1 =>
 some r1
theorem sp_within_1_ok : Sd1 sp_within_1 sp_within_1_J := by
 intro a0 r h
 unfold sp_within_1 at h
 refine ent (c := bodyOf f73) func73 rfl rfl rfl fun cx => ?_
 obtain ⟨r1, h1, h⟩ := bs h fun _ => sp_sees_ok
 obtain rfl := Option.some.inj h
 exact rr 6 [(1, .reg [(1, cl [1] h1 [0])] [])] [] [(0, 0), (1, 1)] 2 [pf h1, @pf (SameO (.var 64 (ca a0))) rfl]

noncomputable def sp_within_block_1_O (a0 : Parser) (a1 : List Stmt) : List O := [.var 64 (ca a0)]
noncomputable def sp_within_block_1_V (a0 : Parser) (a1 : List Stmt) : V := .one (.c (.sl 9 (Row.rows (α := Stmt) a1)))
noncomputable def sp_within_block_1_J (a0 : Parser) (r : (Parser × (List Stmt))) : Prop := Has prog 57 [.one (.ptr 0 0), .one (.fn 87 [] [])] [.var 64 (ca a0)] (sp_within_block_1_O r.1 r.2) (sp_within_block_1_V r.1 r.2)
noncomputable def sp_block_O (a0 : Parser) (a1 : List Stmt) : List O := [.var 64 (ca a0)]
noncomputable def sp_block_V (a0 : Parser) (a1 : List Stmt) : V := .one (.c (.sl 9 (Row.rows (α := Stmt) a1)))
noncomputable def sp_block_J (a0 : Parser) (r : (Parser × (List Stmt))) : Prop := Has prog 74 [.one (.ptr 0 0)] [.var 64 (ca a0)] (sp_block_O r.1 r.2) (sp_block_V r.1 r.2)
noncomputable def sp_stmt_O (a0 : Parser) (a1 : Stmt) : List O := [.var 64 (ca a0)]
noncomputable def sp_stmt_V (a0 : Parser) (a1 : Stmt) : V := .agg (ca a1)
noncomputable def sp_stmt_J (a0 : Parser) (r : (Parser × Stmt)) : Prop := Has prog 59 [.one (.ptr 0 0)] [.var 64 (ca a0)] (sp_stmt_O r.1 r.2) (sp_stmt_V r.1 r.2)
noncomputable def sp_stmts_within_1_O (a0 : Parser) (a1 : List Stmt) : List O := [.var 64 (ca a0), .var 49 [.ptr 0 0]]
noncomputable def sp_stmts_within_1_V (a0 : Parser) (a1 : List Stmt) : V := .one (.c (.sl 9 (Row.rows (α := Stmt) a1)))
noncomputable def sp_stmts_within_1_J (a0 : Parser) (r : (Parser × (List Stmt))) : Prop := Has prog 33 [.one (.ptr 0 0), .one (.fn 73 [] [.ptr 1 0])] [.var 64 (ca a0), .var 49 [.ptr 0 0]] (sp_stmts_within_1_O r.1 r.2) (sp_stmts_within_1_V r.1 r.2)
noncomputable def sp_stmts_within_1_l1_K : List Item := stackAt (bodyOf f33) [1, 1, 0, 0, 0] []
noncomputable def sp_stmts_within_1_l1_S (a0 : Parser) (a1 : List Stmt) : St := ⟨[(0, .one (.ptr 0 0)), (1, .one (.fn 73 [] [.ptr 1 0])), (5, .one (.own 9 (Row.rows (α := Stmt) a1) 2))], [(0, .var 64 (ca a0)), (1, .var 49 [.ptr 0 0]), (2, .row 105 9)], 3, 22, 2⟩
noncomputable def sp_stmts_within_1_l1_J (a0 : Parser) (a1 : List Stmt) (r : (Parser × (List Stmt))) : Prop := ∀ cx : Cx, AK prog cx sp_stmts_within_1_l1_K (sp_stmts_within_1_l1_S a0 a1) (Fin lay f33.results.toList 2 fun o v => o = sp_stmts_within_1_O r.1 r.2 ∧ v = sp_stmts_within_1_V r.1 r.2)
structure Tab_sp_block where
 k : Nat
 sp_block : Parser → Option (Parser × (List Stmt))
 sp_stmt : Parser → Option (Parser × Stmt)
 sp_stmts_within_1 : Parser → Option (Parser × (List Stmt))
 sp_stmts_within_1_l1 : Parser → (List Stmt) → Option (Parser × (List Stmt))
 sp_within_block_1 : Parser → Option (Parser × (List Stmt))
noncomputable def sp_block_b (T : Tab_sp_block) (a0 : Parser) : Option (Parser × (List Stmt)) :=
 (T.sp_within_block_1 a0).bind fun (r1, r2) =>
 some (r1, r2)
noncomputable def sp_stmt_b (T : Tab_sp_block) (a0 : Parser) : Option (Parser × Stmt) :=
 (sp_now a0).bind fun r1 =>
 (sp_word a0 s_if).bind fun (r2, r3) =>
 if r3 = true then (
  (sp_expr T.k r2).bind fun (r4, r5) =>
  (T.sp_block r4).bind fun (r6, r7) =>
  (sp_word r6 s_else).bind fun (r8, r9) =>
  if r9 = true then (
   (T.sp_block r8).bind fun (r10, r11) =>
   some (r10, (Stmt.mk 2 r1.At [] [] [r5] [] [] r7 r11))
  ) else (
   some (r8, (Stmt.mk 2 r1.At [] [] [r5] [] [] r7 []))
  )
 ) else (
  (sp_word r2 s_while).bind fun (r4, r5) =>
  if r5 = true then (
   (sp_expr T.k r4).bind fun (r6, r7) =>
   (T.sp_block r6).bind fun (r8, r9) =>
   some (r8, (Stmt.mk 3 r1.At [] [] [r7] [] [] r9 []))
  ) else (
   (sp_word r4 s_for).bind fun (r6, r7) =>
   if r7 = true then (
    (syntax_list_g T.k r6).bind fun (r8, r9) =>
    (sp_must r8 s_in).bind fun r10 =>
    (sp_query T.k r10).bind fun (r11, r12) =>
    (T.sp_block r11).bind fun (r13, r14) =>
    some (r13, (Stmt.mk 4 r1.At [] r9 [] [r12] [] r14 []))
   ) else (
    (sp_word r6 s_try).bind fun (r8, r9) =>
    if r9 = true then (
     (T.sp_block r8).bind fun (r10, r11) =>
     (sp_must r10 s_catch).bind fun r12 =>
     (T.sp_block r12).bind fun (r13, r14) =>
     some (r13, (Stmt.mk 10 r1.At [] [] [] [] [] r11 r14))
    ) else (
     (sp_simple T.k r8 0 r1.At []).bind fun (r10, r11, r12, r13, r14, r15, r16) =>
     (sp_need r10 s_x3b).bind fun r17 =>
     some (r17, (Stmt.mk r11 r1.At r12 r13 r14 r15 r16 [] []))
    )
   )
  )
 )
noncomputable def sp_stmts_within_1_b (T : Tab_sp_block) (a0 : Parser) : Option (Parser × (List Stmt)) :=
 T.sp_stmts_within_1_l1 a0 []
noncomputable def sp_stmts_within_1_l1_b (T : Tab_sp_block) (a0 : Parser) (a1 : List Stmt) : Option (Parser × (List Stmt)) :=
 if a0.e = 0 then (
  (sp_within_1 a0).bind fun r1 =>
  if r1 = true then (
   some (a0, a1)
  ) else (
   (T.sp_stmt a0).bind fun (r2, r3) =>
   chk (CapOk 176 a1 [r3]) <|
   T.sp_stmts_within_1_l1 r2 (a1 ++ [r3])
  )
 ) else (
  some (a0, a1)
 )
noncomputable def sp_within_block_1_b (T : Tab_sp_block) (a0 : Parser) : Option (Parser × (List Stmt)) :=
 (sp_enter a0).bind fun (r1, r2) =>
 if r2 = true then (
  (sp_need r1 s_x7b).bind fun r3 =>
  (sp_block_1).bind fun _ =>
  (T.sp_stmts_within_1 r3).bind fun (r4, r5) =>
  (sp_need r4 s_x7d).bind fun r6 =>
  (sp_leave r6).bind fun r7 =>
  some (r7, r5)
 ) else (
  some (r1, [])
 )
noncomputable def tab_sp_block : Nat → Tab_sp_block
 | 0 => ⟨0, fun _ => none, fun _ => none, fun _ => none, fun _ _ => none, fun _ => none⟩
 | k + 1 => ⟨k + 1, sp_block_b (tab_sp_block k), sp_stmt_b (tab_sp_block k), sp_stmts_within_1_b (tab_sp_block k), sp_stmts_within_1_l1_b (tab_sp_block k), sp_within_block_1_b (tab_sp_block k)⟩
noncomputable def sp_block (k : Nat) := (tab_sp_block k).sp_block
noncomputable def sp_stmt (k : Nat) := (tab_sp_block k).sp_stmt
noncomputable def sp_stmts_within_1 (k : Nat) := (tab_sp_block k).sp_stmts_within_1
noncomputable def sp_stmts_within_1_l1 (k : Nat) := (tab_sp_block k).sp_stmts_within_1_l1
noncomputable def sp_within_block_1 (k : Nat) := (tab_sp_block k).sp_within_block_1
structure Ok_sp_block (m : Nat) : Prop where
 sp_block : Sd1 (tab_sp_block m).sp_block sp_block_J
 sp_stmt : Sd1 (tab_sp_block m).sp_stmt sp_stmt_J
 sp_stmts_within_1 : Sd1 (tab_sp_block m).sp_stmts_within_1 sp_stmts_within_1_J
 sp_stmts_within_1_l1 : Sd2 (tab_sp_block m).sp_stmts_within_1_l1 sp_stmts_within_1_l1_J
 sp_within_block_1 : Sd1 (tab_sp_block m).sp_within_block_1 sp_within_block_1_J
theorem sp_block_okb {m : Nat} (ih : Ok_sp_block m) : Sd1 (sp_block_b (tab_sp_block m)) sp_block_J := by
 intro a0 r h
 unfold sp_block_b at h
 refine ent (c := bodyOf f74) func74 rfl rfl rfl fun cx => ?_
 obtain ⟨⟨r1, r2⟩, h1, h⟩ := bs h fun _ => ih.sp_within_block_1
 obtain rfl := Option.some.inj h
 exact rr 6 [(1, .reg [(1, cl [0] h1)] [])] [] [(0, 0)] 1 [pf h1]
theorem sp_stmt_okb {m : Nat} (ih : Ok_sp_block m) : Sd1 (sp_stmt_b (tab_sp_block m)) sp_stmt_J := by
 intro a0 r h
 unfold sp_stmt_b at h
 refine ent (c := bodyOf f59) func59 rfl rfl rfl fun cx => ?_
 obtain ⟨r1, h1, h⟩ := bs h fun _ => sp_now_ok
 obtain ⟨⟨r2, r3⟩, h2, h⟩ := bs h fun _ => sp_word_ok
 obtain ⟨h3, h⟩ | ⟨h3, h⟩ := ite_some h
 · obtain ⟨⟨r4, r5⟩, h4, h⟩ := bs h fun _ => sp_expr_ok
   obtain ⟨⟨r6, r7⟩, h5, h⟩ := bs h fun _ => ih.sp_block
   obtain ⟨⟨r8, r9⟩, h6, h⟩ := bs h fun _ => sp_word_ok
   obtain ⟨h7, h⟩ | ⟨h7, h⟩ := ite_some h
   · obtain ⟨⟨r10, r11⟩, h8, h⟩ := bs h fun _ => ih.sp_block
     obtain rfl := Option.some.inj h
     exact rr 22 [(1, .reg [(1, cl [0] h1 [0])] []), (2, .reg [(1, cl [0] h2)] []), (3, .br true), (4, .reg [(1, cl [0] h4)] [(2, .one (.own 6 (Row.rows (α := Expr) [r5]) 193))]), (5, .reg [(1, cl [0] h5)] []), (6, .reg [(1, cl [0] h6)] []), (7, .br true), (8, .reg [(1, cl [0] h8)] [])] [] [(0, 0)] 1 [pf h1, @pf (SameO (.var 64 (ca a0))) rfl, pf h2, pf (bt h3), pf h4, @pf (BldP (α := Expr) [r5] 193) (bldP _ _), pf h5, pf h6, pf (bt h7), pf h8]
   · obtain rfl := Option.some.inj h
     exact rr 22 [(1, .reg [(1, cl [0] h1 [0])] []), (2, .reg [(1, cl [0] h2)] []), (3, .br true), (4, .reg [(1, cl [0] h4)] [(2, .one (.own 6 (Row.rows (α := Expr) [r5]) 193))]), (5, .reg [(1, cl [0] h5)] []), (6, .reg [(1, cl [0] h6)] []), (7, .br false)] [] [(0, 0)] 1 [pf h1, @pf (SameO (.var 64 (ca a0))) rfl, pf h2, pf (bt h3), pf h4, @pf (BldP (α := Expr) [r5] 193) (bldP _ _), pf h5, pf h6, pf (bf h7)]
 · obtain ⟨⟨r4, r5⟩, h4, h⟩ := bs h fun _ => sp_word_ok
   obtain ⟨h5, h⟩ | ⟨h5, h⟩ := ite_some h
   · obtain ⟨⟨r6, r7⟩, h6, h⟩ := bs h fun _ => sp_expr_ok
     obtain ⟨⟨r8, r9⟩, h7, h⟩ := bs h fun _ => ih.sp_block
     obtain rfl := Option.some.inj h
     exact rr 20 [(1, .reg [(1, cl [0] h1 [0])] []), (2, .reg [(1, cl [0] h2)] []), (3, .br false), (4, .reg [(1, cl [0] h4)] []), (5, .br true), (6, .reg [(1, cl [0] h6)] [(2, .one (.own 6 (Row.rows (α := Expr) [r7]) 241))]), (7, .reg [(1, cl [0] h7)] [])] [] [(0, 0)] 1 [pf h1, @pf (SameO (.var 64 (ca a0))) rfl, pf h2, pf (bf h3), pf h4, pf (bt h5), pf h6, @pf (BldP (α := Expr) [r7] 241) (bldP _ _), pf h7]
   · obtain ⟨⟨r6, r7⟩, h6, h⟩ := bs h fun _ => sp_word_ok
     obtain ⟨h7, h⟩ | ⟨h7, h⟩ := ite_some h
     · obtain ⟨⟨r8, r9⟩, h8, h⟩ := bs h fun _ => syntax_list_g_ok
       obtain ⟨r10, h9, h⟩ := bs h fun _ => sp_must_ok
       obtain ⟨⟨r11, r12⟩, h10, h⟩ := bs h fun _ => sp_query_ok
       obtain ⟨⟨r13, r14⟩, h11, h⟩ := bs h fun _ => ih.sp_block
       obtain rfl := Option.some.inj h
       exact rr 27 [(1, .reg [(1, cl [0] h1 [0])] []), (2, .reg [(1, cl [0] h2)] []), (3, .br false), (4, .reg [(1, cl [0] h4)] []), (5, .br false), (6, .reg [(1, cl [0] h6)] []), (7, .br true), (8, .reg [(3, cl [0] h8)] []), (9, .reg [(1, cl [0] h9)] []), (10, .reg [(1, cl [0] h10)] [(2, .one (.own 10 (Row.rows (α := Query) [r12]) 449))]), (11, .reg [(1, cl [0] h11)] [])] [] [(0, 0)] 1 [pf h1, @pf (SameO (.var 64 (ca a0))) rfl, pf h2, pf (bf h3), pf h4, pf (bf h5), pf h6, pf (bt h7), pf h8, pf h9, pf h10, @pf (BldP (α := Query) [r12] 449) (bldP _ _), pf h11]
     · obtain ⟨⟨r8, r9⟩, h8, h⟩ := bs h fun _ => sp_word_ok
       obtain ⟨h9, h⟩ | ⟨h9, h⟩ := ite_some h
       · obtain ⟨⟨r10, r11⟩, h10, h⟩ := bs h fun _ => ih.sp_block
         obtain ⟨r12, h11, h⟩ := bs h fun _ => sp_must_ok
         obtain ⟨⟨r13, r14⟩, h12, h⟩ := bs h fun _ => ih.sp_block
         obtain rfl := Option.some.inj h
         exact rr 28 [(1, .reg [(1, cl [0] h1 [0])] []), (2, .reg [(1, cl [0] h2)] []), (3, .br false), (4, .reg [(1, cl [0] h4)] []), (5, .br false), (6, .reg [(1, cl [0] h6)] []), (7, .br false), (8, .reg [(1, cl [0] h8)] []), (9, .br true), (10, .reg [(1, cl [0] h10)] []), (11, .reg [(1, cl [0] h11)] []), (12, .reg [(1, cl [0] h12)] [])] [] [(0, 0)] 1 [pf h1, @pf (SameO (.var 64 (ca a0))) rfl, pf h2, pf (bf h3), pf h4, pf (bf h5), pf h6, pf (bf h7), pf h8, pf (bt h9), pf h10, pf h11, pf h12]
       · obtain ⟨⟨r10, r11, r12, r13, r14, r15, r16⟩, h10, h⟩ := bs h fun _ => sp_simple_ok
         obtain ⟨r17, h11, h⟩ := bs h fun _ => sp_need_ok
         obtain rfl := Option.some.inj h
         exact rr 28 [(1, .reg [(1, cl [0] h1 [0])] []), (2, .reg [(1, cl [0] h2)] []), (3, .br false), (4, .reg [(1, cl [0] h4)] []), (5, .br false), (6, .reg [(1, cl [0] h6)] []), (7, .br false), (8, .reg [(1, cl [0] h8)] []), (9, .br false), (10, .reg [(1, cl [0, 81] h10)] []), (11, .reg [(1, cl [0] h11)] [])] [] [(0, 0)] 1 [pf h1, @pf (SameO (.var 64 (ca a0))) rfl, pf h2, pf (bf h3), pf h4, pf (bf h5), pf h6, pf (bf h7), pf h8, pf (bf h9), pf h10, pf h11]
theorem sp_stmts_within_1_okb {m : Nat} (ih : Ok_sp_block m) : Sd1 (sp_stmts_within_1_b (tab_sp_block m)) sp_stmts_within_1_J := by
 intro a0 r h
 unfold sp_stmts_within_1_b at h
 refine ent (c := bodyOf f33) func33 rfl rfl rfl fun cx => ?_
 exact tt 7 [] [.slotOwn 5 34 105] [0, 1, 5] [(0, 0), (1, 1), (34, 2)] 3 [] (ih.sp_stmts_within_1_l1 h cx)
theorem sp_stmts_within_1_l1_okb {m : Nat} (ih : Ok_sp_block m) : Sd2 (sp_stmts_within_1_l1_b (tab_sp_block m)) sp_stmts_within_1_l1_J := by
 intro a0 a1 r h cx
 unfold sp_stmts_within_1_l1_b at h
 obtain ⟨h1, h⟩ | ⟨h1, h⟩ := ite_some h
 · obtain ⟨r1, h2, h⟩ := bs h fun _ => sp_within_1_ok
   obtain ⟨h3, h⟩ | ⟨h3, h⟩ := ite_some h
   · obtain rfl := Option.some.inj h
     exact rr 9 [(0, .reg [(7, cl [1, 0] h2 [0, 1])] [(5, .bool true)]), (1, .br false)] [] [(0, 0), (1, 1)] 2 [pf (dt h1), pf h2, @pf (SameO (.var 49 [.ptr 0 0])) rfl, @pf (SameO (.var 64 (ca a0))) rfl, pf (nbf h3)]
   · obtain ⟨⟨r2, r3⟩, h4, h⟩ := bs h fun _ => ih.sp_stmt
     obtain ⟨h5, h⟩ := chk_some h
     exact tt 9 [(0, .reg [(7, cl [1, 0] h2 [0, 1])] [(5, .bool true)]), (1, .br true), (2, .reg [(2, cl [0] h4)] [(3, .one (.own 9 (Row.rows (α := Stmt) [r3]) 211)), (4, .one (.own 9 (Row.rows (α := Stmt) (a1 ++ [r3])) 227))])] [] [0, 1, 5] [(0, 0), (1, 1), (227, 2)] 3 [pf (dt h1), pf h2, @pf (SameO (.var 49 [.ptr 0 0])) rfl, @pf (SameO (.var 64 (ca a0))) rfl, pf (nbt h3), pf h4, @pf (BldP (α := Stmt) [r3] 211) (bldP _ _), @pf (AppP (α := Stmt) a1 [r3] 227) (appP _ _ _), pf (cap1 h5), pf (cap2 h5)] (ih.sp_stmts_within_1_l1 h cx)
 · obtain rfl := Option.some.inj h
   exact rr 9 [(0, .reg [] [(5, .bool false)])] [] [(0, 0), (1, 1)] 2 [pf (df h1)]
theorem sp_within_block_1_okb {m : Nat} (ih : Ok_sp_block m) : Sd1 (sp_within_block_1_b (tab_sp_block m)) sp_within_block_1_J := by
 intro a0 r h
 unfold sp_within_block_1_b at h
 refine ent (c := bodyOf f57) func57 rfl rfl rfl fun cx => ?_
 obtain ⟨⟨r1, r2⟩, h1, h⟩ := bs h fun _ => sp_enter_ok
 obtain ⟨h2, h⟩ | ⟨h2, h⟩ := ite_some h
 · obtain ⟨r3, h3, h⟩ := bs h fun _ => sp_need_ok
   obtain ⟨⟨⟩, h4, h⟩ := bs h fun _ => sp_block_1_ok
   obtain ⟨⟨r4, r5⟩, h5, h⟩ := bs h fun _ => ih.sp_stmts_within_1
   obtain ⟨r6, h6, h⟩ := bs h fun _ => sp_need_ok
   obtain ⟨r7, h7, h⟩ := bs h fun _ => sp_leave_ok
   obtain rfl := Option.some.inj h
   exact rr 21 [(1, .reg [(1, cl [0] h1)] []), (2, .br false), (3, .reg [(1, cl [0] h3)] []), (4, .reg [(1, cl [] h4)] []), (5, .reg [(2, cl [0, 1] h5 [1])] []), (6, .reg [(1, cl [0] h6)] []), (7, .reg [(1, cl [0] h7)] [])] [] [(0, 0)] 1 [pf h1, pf (nbf h2), pf h3, pf h4, pf h5, @pf (SameO (.var 49 [.ptr 0 0])) rfl, pf h6, pf h7]
 · obtain rfl := Option.some.inj h
   exact rr 10 [(1, .reg [(1, cl [0] h1)] []), (2, .br true)] [] [(0, 0)] 1 [pf h1, pf (nbt h2)]
theorem ok_sp_block : ∀ m, Ok_sp_block m
 | 0 => ⟨(fun h => nomatch (show none = some _ from h)), (fun h => nomatch (show none = some _ from h)), (fun h => nomatch (show none = some _ from h)), (fun h => nomatch (show none = some _ from h)), (fun h => nomatch (show none = some _ from h))⟩
 | m + 1 => ⟨sp_block_okb (ok_sp_block m), sp_stmt_okb (ok_sp_block m), sp_stmts_within_1_okb (ok_sp_block m), sp_stmts_within_1_l1_okb (ok_sp_block m), sp_within_block_1_okb (ok_sp_block m)⟩
theorem sp_block_ok {k : Nat} : Sd1 (sp_block k) sp_block_J := (ok_sp_block k).sp_block
theorem sp_stmt_ok {k : Nat} : Sd1 (sp_stmt k) sp_stmt_J := (ok_sp_block k).sp_stmt
theorem sp_stmts_within_1_ok {k : Nat} : Sd1 (sp_stmts_within_1 k) sp_stmts_within_1_J := (ok_sp_block k).sp_stmts_within_1
theorem sp_stmts_within_1_l1_ok {k : Nat} : Sd2 (sp_stmts_within_1_l1 k) sp_stmts_within_1_l1_J := (ok_sp_block k).sp_stmts_within_1_l1
theorem sp_within_block_1_ok {k : Nat} : Sd1 (sp_within_block_1 k) sp_within_block_1_J := (ok_sp_block k).sp_within_block_1

noncomputable def sp_within_proc_1_O (a0 : Parser) (a1 : Str) (a2 : List Var) (a3 : List Stmt) : List O := [.var 64 (ca a0), .var 49 [.ptr 0 0], .var 73 [.str a1, .nil 2, .c (.sl 2 (Row.rows (α := Var) a2)), .nil 9]]
noncomputable def sp_within_proc_1_V (a0 : Parser) (a1 : Str) (a2 : List Var) (a3 : List Stmt) : V := .one (.c (.sl 9 (Row.rows (α := Stmt) a3)))
noncomputable def sp_within_proc_1_J (a0 : Parser) (a1 : Str) (r : (Parser × (List Var) × (List Stmt))) : Prop := Has prog 57 [.one (.ptr 0 0), .one (.fn 58 [] [.ptr 1 0, .ptr 2 0])] [.var 64 (ca a0), .var 49 [.ptr 0 0], .var 73 [.str a1, .nil 2, .nil 2, .nil 9]] (sp_within_proc_1_O r.1 a1 r.2.1 r.2.2) (sp_within_proc_1_V r.1 a1 r.2.1 r.2.2)
noncomputable def sp_within_proc_1 (k : Nat) (a0 : Parser) (a1 : Str) : Option (Parser × (List Var) × (List Stmt)) :=
 (sp_enter a0).bind fun (r1, r2) =>
 if r2 = true then (
  (sp_need r1 s_x7b).bind fun r3 =>
  (sp_proc_1 k a1 r3).bind fun (r4, r5) =>
  (sp_stmts_within_1 k r5).bind fun (r6, r7) =>
  (sp_need r6 s_x7d).bind fun r8 =>
  (sp_leave r8).bind fun r9 =>
  some (r9, r4, r7)
 ) else (
  some (r1, [], [])
 )
theorem sp_within_proc_1_ok {k : Nat} : Sd2 (sp_within_proc_1 k) sp_within_proc_1_J := by
 intro a0 a1 r h
 unfold sp_within_proc_1 at h
 refine ent (c := bodyOf f57) func57 rfl rfl rfl fun cx => ?_
 obtain ⟨⟨r1, r2⟩, h1, h⟩ := bs h fun _ => sp_enter_ok
 obtain ⟨h2, h⟩ | ⟨h2, h⟩ := ite_some h
 · obtain ⟨r3, h3, h⟩ := bs h fun _ => sp_need_ok
   obtain ⟨⟨r4, r5⟩, h4, h⟩ := bs h fun _ => sp_proc_1_ok
   obtain ⟨⟨r6, r7⟩, h5, h⟩ := bs h fun _ => sp_stmts_within_1_ok
   obtain ⟨r8, h6, h⟩ := bs h fun _ => sp_need_ok
   obtain ⟨r9, h7, h⟩ := bs h fun _ => sp_leave_ok
   obtain rfl := Option.some.inj h
   exact rr 21 [(1, .reg [(1, cl [0] h1)] []), (2, .br false), (3, .reg [(1, cl [0] h3)] []), (4, .reg [(1, cl [1, 2, 0] h4 [0])] []), (5, .reg [(2, cl [0, 3] h5 [1])] []), (6, .reg [(1, cl [0] h6)] []), (7, .reg [(1, cl [0] h7)] [])] [] [(0, 0), (1, 1), (2, 2)] 3 [pf h1, pf (nbf h2), pf h3, pf h4, @pf (SameO (.var 49 [.ptr 0 0])) rfl, pf h5, @pf (SameO (.var 49 [.ptr 0 0])) rfl, pf h6, pf h7]
 · obtain rfl := Option.some.inj h
   exact rr 10 [(1, .reg [(1, cl [0] h1)] []), (2, .br true)] [.cell 2 2] [(0, 0), (1, 1), (2, 2)] 3 [pf h1, pf (nbt h2)]

noncomputable def sp_proc_1_2_O (a0 : Str) (a1 a2 : List Var) (a3 : Parser) : List O := [.var 49 [.ptr 2 0], .var 73 [.str a0, .c (.sl 2 (Row.rows (α := Var) a1)), .c (.sl 2 (Row.rows (α := Var) a2)), .nil 9], .var 64 (ca a3)]
noncomputable def sp_proc_1_2_V (a0 : Str) (a1 a2 : List Var) (a3 : Parser) : V := .tup []
noncomputable def sp_proc_1_2_J (a0 : Str) (a1 : List Var) (a2 : Parser) (r : ((List Var) × Parser)) : Prop := Has prog 58 [.one (.ptr 0 0), .one (.ptr 1 0)] [.var 49 [.ptr 2 0], .var 73 [.str a0, .c (.sl 2 (Row.rows (α := Var) a1)), .nil 2, .nil 9], .var 64 (ca a2)] (sp_proc_1_2_O a0 a1 r.1 r.2) (sp_proc_1_2_V a0 a1 r.1 r.2)
noncomputable def sp_proc_1_2 (k : Nat) (a0 : Str) (a1 : List Var) (a2 : Parser) : Option ((List Var) × Parser) :=
 (sp_decls k a2).bind fun (r1, r2) =>
 some (r2, r1)
theorem sp_proc_1_2_ok {k : Nat} : Sd3 (sp_proc_1_2 k) sp_proc_1_2_J := by
 intro a0 a1 a2 r h
 unfold sp_proc_1_2 at h
 refine ent (c := bodyOf f58) func58 rfl rfl rfl fun cx => ?_
 obtain ⟨⟨r1, r2⟩, h1, h⟩ := bs h fun _ => sp_decls_ok
 obtain rfl := Option.some.inj h
 exact rr 2 [(0, .reg [(1, cl [2] h1)] [])] [] [(0, 0), (1, 1), (2, 2)] 3 [pf h1]

noncomputable def sp_within_proc_1_2_O (a0 : Parser) (a1 : Str) (a2 a3 : List Var) (a4 : List Stmt) : List O := [.var 64 (ca a0), .var 49 [.ptr 0 0], .var 73 [.str a1, .c (.sl 2 (Row.rows (α := Var) a2)), .c (.sl 2 (Row.rows (α := Var) a3)), .nil 9]]
noncomputable def sp_within_proc_1_2_V (a0 : Parser) (a1 : Str) (a2 a3 : List Var) (a4 : List Stmt) : V := .one (.c (.sl 9 (Row.rows (α := Stmt) a4)))
noncomputable def sp_within_proc_1_2_J (a0 : Parser) (a1 : Str) (a2 : List Var) (r : (Parser × (List Var) × (List Stmt))) : Prop := Has prog 57 [.one (.ptr 0 0), .one (.fn 58 [] [.ptr 1 0, .ptr 2 0])] [.var 64 (ca a0), .var 49 [.ptr 0 0], .var 73 [.str a1, .c (.sl 2 (Row.rows (α := Var) a2)), .nil 2, .nil 9]] (sp_within_proc_1_2_O r.1 a1 a2 r.2.1 r.2.2) (sp_within_proc_1_2_V r.1 a1 a2 r.2.1 r.2.2)
noncomputable def sp_within_proc_1_2 (k : Nat) (a0 : Parser) (a1 : Str) (a2 : List Var) : Option (Parser × (List Var) × (List Stmt)) :=
 (sp_enter a0).bind fun (r1, r2) =>
 if r2 = true then (
  (sp_need r1 s_x7b).bind fun r3 =>
  (sp_proc_1_2 k a1 a2 r3).bind fun (r4, r5) =>
  (sp_stmts_within_1 k r5).bind fun (r6, r7) =>
  (sp_need r6 s_x7d).bind fun r8 =>
  (sp_leave r8).bind fun r9 =>
  some (r9, r4, r7)
 ) else (
  some (r1, [], [])
 )
theorem sp_within_proc_1_2_ok {k : Nat} : Sd3 (sp_within_proc_1_2 k) sp_within_proc_1_2_J := by
 intro a0 a1 a2 r h
 unfold sp_within_proc_1_2 at h
 refine ent (c := bodyOf f57) func57 rfl rfl rfl fun cx => ?_
 obtain ⟨⟨r1, r2⟩, h1, h⟩ := bs h fun _ => sp_enter_ok
 obtain ⟨h2, h⟩ | ⟨h2, h⟩ := ite_some h
 · obtain ⟨r3, h3, h⟩ := bs h fun _ => sp_need_ok
   obtain ⟨⟨r4, r5⟩, h4, h⟩ := bs h fun _ => sp_proc_1_2_ok
   obtain ⟨⟨r6, r7⟩, h5, h⟩ := bs h fun _ => sp_stmts_within_1_ok
   obtain ⟨r8, h6, h⟩ := bs h fun _ => sp_need_ok
   obtain ⟨r9, h7, h⟩ := bs h fun _ => sp_leave_ok
   obtain rfl := Option.some.inj h
   exact rr 21 [(1, .reg [(1, cl [0] h1)] []), (2, .br false), (3, .reg [(1, cl [0] h3)] []), (4, .reg [(1, cl [1, 2, 0] h4 [0])] []), (5, .reg [(2, cl [0, 3] h5 [1])] []), (6, .reg [(1, cl [0] h6)] []), (7, .reg [(1, cl [0] h7)] [])] [] [(0, 0), (1, 1), (2, 2)] 3 [pf h1, pf (nbf h2), pf h3, pf h4, @pf (SameO (.var 49 [.ptr 0 0])) rfl, pf h5, @pf (SameO (.var 49 [.ptr 0 0])) rfl, pf h6, pf h7]
 · obtain rfl := Option.some.inj h
   exact rr 10 [(1, .reg [(1, cl [0] h1)] []), (2, .br true)] [.cell 2 2] [(0, 0), (1, 1), (2, 2)] 3 [pf h1, pf (nbt h2)]

noncomputable def syntax_list_r_O (a0 : Parser) (a1 : List Var) : List O := [.var 64 (ca a0)]
noncomputable def syntax_list_r_V (a0 : Parser) (a1 : List Var) : V := .one (.c (.sl 2 (Row.rows (α := Var) a1)))
noncomputable def syntax_list_r_J (a0 : Parser) (r : (Parser × (List Var))) : Prop := Has prog 56 [.one (.ptr 0 0), .one (.fn 54 [.ptr 0 0] [])] [.var 64 (ca a0)] (syntax_list_r_O r.1 r.2) (syntax_list_r_V r.1 r.2)
noncomputable def syntax_list_r_l1_K : List Item := stackAt (bodyOf f56) [1, 1, 0, 0, 0] []
noncomputable def syntax_list_r_l1_S (a0 : Parser) (a1 : List Var) : St := ⟨[(0, .one (.ptr 0 0)), (1, .one (.fn 54 [.ptr 0 0] [])), (5, .one (.own 2 (Row.rows (α := Var) a1) 1))], [(0, .var 64 (ca a0)), (1, .row 99 2)], 2, 17, 1⟩
noncomputable def syntax_list_r_l1_J (a0 : Parser) (a1 : List Var) (r : (Parser × (List Var))) : Prop := ∀ cx : Cx, AK prog cx syntax_list_r_l1_K (syntax_list_r_l1_S a0 a1) (Fin lay f56.results.toList 1 fun o v => o = syntax_list_r_O r.1 r.2 ∧ v = syntax_list_r_V r.1 r.2)
structure Tab_syntax_list_r_l1 where
 k : Nat
 syntax_list_r_l1 : Parser → (List Var) → Option (Parser × (List Var))
noncomputable def syntax_list_r_l1_b (T : Tab_syntax_list_r_l1) (a0 : Parser) (a1 : List Var) : Option (Parser × (List Var)) :=
 (sp_mark a0 s_x2c).bind fun (r1, r2) =>
 if r2 = true then (
  (sp_typedName r1).bind fun (r3, r4) =>
  chk (CapOk 24 a1 [r4]) <|
  T.syntax_list_r_l1 r3 (a1 ++ [r4])
 ) else (
  some (r1, a1)
 )
noncomputable def tab_syntax_list_r_l1 : Nat → Tab_syntax_list_r_l1
 | 0 => ⟨0, fun _ _ => none⟩
 | k + 1 => ⟨k + 1, syntax_list_r_l1_b (tab_syntax_list_r_l1 k)⟩
noncomputable def syntax_list_r_l1 (k : Nat) := (tab_syntax_list_r_l1 k).syntax_list_r_l1
structure Ok_syntax_list_r_l1 (m : Nat) : Prop where
 syntax_list_r_l1 : Sd2 (tab_syntax_list_r_l1 m).syntax_list_r_l1 syntax_list_r_l1_J
theorem syntax_list_r_l1_okb {m : Nat} (ih : Ok_syntax_list_r_l1 m) : Sd2 (syntax_list_r_l1_b (tab_syntax_list_r_l1 m)) syntax_list_r_l1_J := by
 intro a0 a1 r h cx
 unfold syntax_list_r_l1_b at h
 obtain ⟨⟨r1, r2⟩, h1, h⟩ := bs h fun _ => sp_mark_ok
 obtain ⟨h2, h⟩ | ⟨h2, h⟩ := ite_some h
 · obtain ⟨⟨r3, r4⟩, h3, h⟩ := bs h fun _ => sp_typedName_ok
   obtain ⟨h4, h⟩ := chk_some h
   exact tt 9 [(0, .reg [(1, cl [0] h1)] []), (1, .br true), (2, .reg [(2, cl [0] h3)] [(3, .one (.own 2 (Row.rows (α := Var) [r4]) 82)), (4, .one (.own 2 (Row.rows (α := Var) (a1 ++ [r4])) 98))])] [] [0, 1, 5] [(0, 0), (98, 1)] 2 [pf h1, pf (bt h2), pf h3, @pf (BldP (α := Var) [r4] 82) (bldP _ _), @pf (AppP (α := Var) a1 [r4] 98) (appP _ _ _), pf (cap1 h4), pf (cap2 h4)] (ih.syntax_list_r_l1 h cx)
 · obtain rfl := Option.some.inj h
   exact rr 9 [(0, .reg [(1, cl [0] h1)] []), (1, .br false)] [] [(0, 0)] 1 [pf h1, pf (bf h2)]
theorem ok_syntax_list_r_l1 : ∀ m, Ok_syntax_list_r_l1 m
 | 0 => ⟨(fun h => nomatch (show none = some _ from h))⟩
 | m + 1 => ⟨syntax_list_r_l1_okb (ok_syntax_list_r_l1 m)⟩
theorem syntax_list_r_l1_ok {k : Nat} : Sd2 (syntax_list_r_l1 k) syntax_list_r_l1_J := (ok_syntax_list_r_l1 k).syntax_list_r_l1

noncomputable def syntax_list_r (k : Nat) (a0 : Parser) : Option (Parser × (List Var)) :=
 (sp_typedName a0).bind fun (r1, r2) =>
 syntax_list_r_l1 k r1 [r2]
theorem syntax_list_r_ok {k : Nat} : Sd1 (syntax_list_r k) syntax_list_r_J := by
 intro a0 r h
 unfold syntax_list_r at h
 refine ent (c := bodyOf f56) func56 rfl rfl rfl fun cx => ?_
 obtain ⟨⟨r1, r2⟩, h1, h⟩ := bs h fun _ => sp_typedName_ok
 exact tt 7 [(1, .reg [(1, cl [0] h1)] [(2, .one (.own 2 (Row.rows (α := Var) [r2]) 49))])] [] [0, 1, 5] [(0, 0), (49, 1)] 2 [pf h1, @pf (BldP (α := Var) [r2] 49) (bldP _ _)] (syntax_list_r_l1_ok h cx)

noncomputable def sp_proc_O (a0 : Parser) (a1 : Proc) : List O := [.var 64 (ca a0)]
noncomputable def sp_proc_V (a0 : Parser) (a1 : Proc) : V := .agg (ca a1)
noncomputable def sp_proc_J (a0 : Parser) (r : (Parser × Proc)) : Prop := Has prog 32 [.one (.ptr 0 0)] [.var 64 (ca a0)] (sp_proc_O r.1 r.2) (sp_proc_V r.1 r.2)
noncomputable def sp_proc (k : Nat) (a0 : Parser) : Option (Parser × Proc) :=
 (sp_name a0).bind fun (r1, r2) =>
 (sp_need r1 s_x28).bind fun r3 =>
 (sp_mark r3 s_x29).bind fun (r4, r5) =>
 if r5 = true then (
  (sp_within_proc_1 k r4 r2).bind fun (r6, r7, r8) =>
  some (r6, (Proc.mk r2 [] r7 r8))
 ) else (
  (syntax_list_r k r4).bind fun (r6, r7) =>
  (sp_need r6 s_x29).bind fun r8 =>
  (sp_within_proc_1_2 k r8 r2 r7).bind fun (r9, r10, r11) =>
  some (r9, (Proc.mk r2 r7 r10 r11))
 )
theorem sp_proc_ok {k : Nat} : Sd1 (sp_proc k) sp_proc_J := by
 intro a0 r h
 unfold sp_proc at h
 refine ent (c := bodyOf f32) func32 rfl rfl rfl fun cx => ?_
 obtain ⟨⟨r1, r2⟩, h1, h⟩ := bs h fun _ => sp_name_ok
 obtain ⟨r3, h2, h⟩ := bs h fun _ => sp_need_ok
 obtain ⟨⟨r4, r5⟩, h3, h⟩ := bs h fun _ => sp_mark_ok
 obtain ⟨h4, h⟩ | ⟨h4, h⟩ := ite_some h
 · obtain ⟨⟨r6, r7, r8⟩, h5, h⟩ := bs h fun _ => sp_within_proc_1_ok
   obtain rfl := Option.some.inj h
   exact rr 17 [(1, .reg [(1, cl [0] h1)] []), (2, .reg [(1, cl [0] h2)] []), (3, .reg [(1, cl [0] h3)] []), (4, .br false), (5, .reg [(2, cl [0, 1, 81] h5 [1])] [])] [] [(0, 0)] 1 [pf h1, pf h2, pf h3, pf (nbf h4), pf h5, @pf (SameO (.var 49 [.ptr 0 0])) rfl]
 · obtain ⟨⟨r6, r7⟩, h5, h⟩ := bs h fun _ => syntax_list_r_ok
   obtain ⟨r8, h6, h⟩ := bs h fun _ => sp_need_ok
   obtain ⟨⟨r9, r10, r11⟩, h7, h⟩ := bs h fun _ => sp_within_proc_1_2_ok
   obtain rfl := Option.some.inj h
   exact rr 19 [(1, .reg [(1, cl [0] h1)] []), (2, .reg [(1, cl [0] h2)] []), (3, .reg [(1, cl [0] h3)] []), (4, .br true), (5, .reg [(3, cl [0] h5)] []), (6, .reg [(1, cl [0] h6)] []), (7, .reg [(2, cl [0, 1, 81] h7 [1])] [])] [] [(0, 0)] 1 [pf h1, pf h2, pf h3, pf (nbt h4), pf h5, pf h6, pf h7, @pf (SameO (.var 49 [.ptr 0 0])) rfl]

noncomputable def sp_script_1_O (a0 : Parser) (a1 : Bool) : List O := [.var 49 [.ptr 1 0], .var 64 (ca a0)]
noncomputable def sp_script_1_V (a0 : Parser) (a1 : Bool) : V := .one (.bool a1)
noncomputable def sp_script_1_J (a0 : Parser) (r : Bool) : Prop := Has prog 34 [.one (.ptr 0 0)] [.var 49 [.ptr 1 0], .var 64 (ca a0)] (sp_script_1_O a0 r) (sp_script_1_V a0 r)
noncomputable def sp_script_1 (a0 : Parser) : Option Bool :=
 (sp_now a0).bind fun r1 =>
 some (decide (r1.Kind = 0))
theorem sp_script_1_ok : Sd1 sp_script_1 sp_script_1_J := by
 intro a0 r h
 unfold sp_script_1 at h
 refine ent (c := bodyOf f34) func34 rfl rfl rfl fun cx => ?_
 obtain ⟨r1, h1, h⟩ := bs h fun _ => sp_now_ok
 obtain rfl := Option.some.inj h
 exact rr 6 [(1, .reg [(1, cl [1] h1 [0])] [])] [] [(0, 0), (1, 1)] 2 [pf h1, @pf (SameO (.var 64 (ca a0))) rfl]

noncomputable def sp_stmts_script_1_O (a0 : Parser) (a1 : List Stmt) : List O := [.var 64 (ca a0), .var 49 [.ptr 0 0]]
noncomputable def sp_stmts_script_1_V (a0 : Parser) (a1 : List Stmt) : V := .one (.c (.sl 9 (Row.rows (α := Stmt) a1)))
noncomputable def sp_stmts_script_1_J (a0 : Parser) (r : (Parser × (List Stmt))) : Prop := Has prog 33 [.one (.ptr 0 0), .one (.fn 34 [] [.ptr 1 0])] [.var 64 (ca a0), .var 49 [.ptr 0 0]] (sp_stmts_script_1_O r.1 r.2) (sp_stmts_script_1_V r.1 r.2)
noncomputable def sp_stmts_script_1_l1_K : List Item := stackAt (bodyOf f33) [1, 1, 0, 0, 0] []
noncomputable def sp_stmts_script_1_l1_S (a0 : Parser) (a1 : List Stmt) : St := ⟨[(0, .one (.ptr 0 0)), (1, .one (.fn 34 [] [.ptr 1 0])), (5, .one (.own 9 (Row.rows (α := Stmt) a1) 2))], [(0, .var 64 (ca a0)), (1, .var 49 [.ptr 0 0]), (2, .row 105 9)], 3, 22, 2⟩
noncomputable def sp_stmts_script_1_l1_J (a0 : Parser) (a1 : List Stmt) (r : (Parser × (List Stmt))) : Prop := ∀ cx : Cx, AK prog cx sp_stmts_script_1_l1_K (sp_stmts_script_1_l1_S a0 a1) (Fin lay f33.results.toList 2 fun o v => o = sp_stmts_script_1_O r.1 r.2 ∧ v = sp_stmts_script_1_V r.1 r.2)
structure Tab_sp_stmts_script_1_l1 where
 k : Nat
 sp_stmts_script_1_l1 : Parser → (List Stmt) → Option (Parser × (List Stmt))
noncomputable def sp_stmts_script_1_l1_b (T : Tab_sp_stmts_script_1_l1) (a0 : Parser) (a1 : List Stmt) : Option (Parser × (List Stmt)) :=
 if a0.e = 0 then (
  (sp_script_1 a0).bind fun r1 =>
  if r1 = true then (
   some (a0, a1)
  ) else (
   (sp_stmt T.k a0).bind fun (r2, r3) =>
   chk (CapOk 176 a1 [r3]) <|
   T.sp_stmts_script_1_l1 r2 (a1 ++ [r3])
  )
 ) else (
  some (a0, a1)
 )
noncomputable def tab_sp_stmts_script_1_l1 : Nat → Tab_sp_stmts_script_1_l1
 | 0 => ⟨0, fun _ _ => none⟩
 | k + 1 => ⟨k + 1, sp_stmts_script_1_l1_b (tab_sp_stmts_script_1_l1 k)⟩
noncomputable def sp_stmts_script_1_l1 (k : Nat) := (tab_sp_stmts_script_1_l1 k).sp_stmts_script_1_l1
structure Ok_sp_stmts_script_1_l1 (m : Nat) : Prop where
 sp_stmts_script_1_l1 : Sd2 (tab_sp_stmts_script_1_l1 m).sp_stmts_script_1_l1 sp_stmts_script_1_l1_J
theorem sp_stmts_script_1_l1_okb {m : Nat} (ih : Ok_sp_stmts_script_1_l1 m) : Sd2 (sp_stmts_script_1_l1_b (tab_sp_stmts_script_1_l1 m)) sp_stmts_script_1_l1_J := by
 intro a0 a1 r h cx
 unfold sp_stmts_script_1_l1_b at h
 obtain ⟨h1, h⟩ | ⟨h1, h⟩ := ite_some h
 · obtain ⟨r1, h2, h⟩ := bs h fun _ => sp_script_1_ok
   obtain ⟨h3, h⟩ | ⟨h3, h⟩ := ite_some h
   · obtain rfl := Option.some.inj h
     exact rr 9 [(0, .reg [(7, cl [1, 0] h2 [0, 1])] [(5, .bool true)]), (1, .br false)] [] [(0, 0), (1, 1)] 2 [pf (dt h1), pf h2, @pf (SameO (.var 49 [.ptr 0 0])) rfl, @pf (SameO (.var 64 (ca a0))) rfl, pf (nbf h3)]
   · obtain ⟨⟨r2, r3⟩, h4, h⟩ := bs h fun _ => sp_stmt_ok
     obtain ⟨h5, h⟩ := chk_some h
     exact tt 9 [(0, .reg [(7, cl [1, 0] h2 [0, 1])] [(5, .bool true)]), (1, .br true), (2, .reg [(2, cl [0] h4)] [(3, .one (.own 9 (Row.rows (α := Stmt) [r3]) 211)), (4, .one (.own 9 (Row.rows (α := Stmt) (a1 ++ [r3])) 227))])] [] [0, 1, 5] [(0, 0), (1, 1), (227, 2)] 3 [pf (dt h1), pf h2, @pf (SameO (.var 49 [.ptr 0 0])) rfl, @pf (SameO (.var 64 (ca a0))) rfl, pf (nbt h3), pf h4, @pf (BldP (α := Stmt) [r3] 211) (bldP _ _), @pf (AppP (α := Stmt) a1 [r3] 227) (appP _ _ _), pf (cap1 h5), pf (cap2 h5)] (ih.sp_stmts_script_1_l1 h cx)
 · obtain rfl := Option.some.inj h
   exact rr 9 [(0, .reg [] [(5, .bool false)])] [] [(0, 0), (1, 1)] 2 [pf (df h1)]
theorem ok_sp_stmts_script_1_l1 : ∀ m, Ok_sp_stmts_script_1_l1 m
 | 0 => ⟨(fun h => nomatch (show none = some _ from h))⟩
 | m + 1 => ⟨sp_stmts_script_1_l1_okb (ok_sp_stmts_script_1_l1 m)⟩
theorem sp_stmts_script_1_l1_ok {k : Nat} : Sd2 (sp_stmts_script_1_l1 k) sp_stmts_script_1_l1_J := (ok_sp_stmts_script_1_l1 k).sp_stmts_script_1_l1

noncomputable def sp_stmts_script_1 (k : Nat) (a0 : Parser) : Option (Parser × (List Stmt)) :=
 sp_stmts_script_1_l1 k a0 []
theorem sp_stmts_script_1_ok {k : Nat} : Sd1 (sp_stmts_script_1 k) sp_stmts_script_1_J := by
 intro a0 r h
 unfold sp_stmts_script_1 at h
 refine ent (c := bodyOf f33) func33 rfl rfl rfl fun cx => ?_
 exact tt 7 [] [.slotOwn 5 34 105] [0, 1, 5] [(0, 0), (1, 1), (34, 2)] 3 [] (sp_stmts_script_1_l1_ok h cx)

noncomputable def sp_script_O (a0 : Parser) (a1 : Script) : List O := [.var 64 (ca a0)]
noncomputable def sp_script_V (a0 : Parser) (a1 : Script) : V := .agg (ca a1)
noncomputable def sp_script_J (a0 : Parser) (r : (Parser × Script)) : Prop := Has prog 19 [.one (.ptr 0 0)] [.var 64 (ca a0)] (sp_script_O r.1 r.2) (sp_script_V r.1 r.2)
noncomputable def sp_script_l1_K : List Item := stackAt (bodyOf f19) [1, 1, 0, 0, 0] []
noncomputable def sp_script_l1_S (a0 : Parser) (a1 : List Var) (a2 : List Proc) : St := ⟨[(1, .one (.ptr 1 0)), (2, .one (.ptr 2 0)), (3, .one (.ptr 3 0))], [(0, .var 64 (ca a0)), (1, .var 49 [.ptr 0 0]), (2, .var 43 [.nil 2, .nil 4, .nil 9]), (3, .var 43 [.c (.sl 2 (Row.rows (α := Var) a1)), .own 4 (Row.rows (α := Proc) a2) 4, .nil 9]), (4, .row 73 4)], 5, 21, 1⟩
noncomputable def sp_script_l1_J (a0 : Parser) (a1 : List Var) (a2 : List Proc) (r : (Parser × Script)) : Prop := ∀ cx : Cx, AK prog cx sp_script_l1_K (sp_script_l1_S a0 a1 a2) (Fin lay f19.results.toList 1 fun o v => o = sp_script_O r.1 r.2 ∧ v = sp_script_V r.1 r.2)
structure Tab_sp_script_l1 where
 k : Nat
 sp_script_l1 : Parser → (List Var) → (List Proc) → Option (Parser × Script)
noncomputable def sp_script_l1_b (T : Tab_sp_script_l1) (a0 : Parser) (a1 : List Var) (a2 : List Proc) : Option (Parser × Script) :=
 (sp_word a0 s_proc).bind fun (r1, r2) =>
 if r2 = true then (
  (sp_proc T.k r1).bind fun (r3, r4) =>
  chk (CapOk 88 a2 [r4]) <|
  T.sp_script_l1 r3 a1 (a2 ++ [r4])
 ) else (
  (sp_stmts_script_1 T.k r1).bind fun (r3, r4) =>
  some (r3, (Script.mk a1 a2 r4))
 )
noncomputable def tab_sp_script_l1 : Nat → Tab_sp_script_l1
 | 0 => ⟨0, fun _ _ _ => none⟩
 | k + 1 => ⟨k + 1, sp_script_l1_b (tab_sp_script_l1 k)⟩
noncomputable def sp_script_l1 (k : Nat) := (tab_sp_script_l1 k).sp_script_l1
structure Ok_sp_script_l1 (m : Nat) : Prop where
 sp_script_l1 : Sd3 (tab_sp_script_l1 m).sp_script_l1 sp_script_l1_J
theorem sp_script_l1_okb {m : Nat} (ih : Ok_sp_script_l1 m) : Sd3 (sp_script_l1_b (tab_sp_script_l1 m)) sp_script_l1_J := by
 intro a0 a1 a2 r h cx
 unfold sp_script_l1_b at h
 obtain ⟨⟨r1, r2⟩, h1, h⟩ := bs h fun _ => sp_word_ok
 obtain ⟨h2, h⟩ | ⟨h2, h⟩ := ite_some h
 · obtain ⟨⟨r3, r4⟩, h3, h⟩ := bs h fun _ => sp_proc_ok
   obtain ⟨h4, h⟩ := chk_some h
   exact tt 9 [(0, .reg [(1, cl [0] h1)] []), (1, .br true), (2, .reg [(3, cl [0] h3)] [(4, .one (.own 4 (Row.rows (α := Proc) [r4]) 101)), (5, .one (.own 4 (Row.rows (α := Proc) (a2 ++ [r4])) 117))])] [] [1, 2, 3] [(0, 0), (1, 1), (2, 2), (3, 3), (117, 4)] 5 [pf h1, pf (bt h2), pf h3, @pf (BldP (α := Proc) [r4] 101) (bldP _ _), @pf (AppP (α := Proc) a2 [r4] 117) (appP _ _ _), pf (cap1 h4), pf (cap2 h4)] (ih.sp_script_l1 h cx)
 · obtain ⟨⟨r3, r4⟩, h3, h⟩ := bs h fun _ => sp_stmts_script_1_ok
   obtain rfl := Option.some.inj h
   exact rr 11 [(0, .reg [(1, cl [0] h1)] []), (1, .br false), (2, .reg [(2, cl [0, 1] h3 [1])] [])] [] [(0, 0)] 1 [pf h1, pf (bf h2), pf h3, @pf (SameO (.var 49 [.ptr 0 0])) rfl]
theorem ok_sp_script_l1 : ∀ m, Ok_sp_script_l1 m
 | 0 => ⟨(fun h => nomatch (show none = some _ from h))⟩
 | m + 1 => ⟨sp_script_l1_okb (ok_sp_script_l1 m)⟩
theorem sp_script_l1_ok {k : Nat} : Sd3 (sp_script_l1 k) sp_script_l1_J := (ok_sp_script_l1 k).sp_script_l1

noncomputable def sp_script (k : Nat) (a0 : Parser) : Option (Parser × Script) :=
 (sp_decls k a0).bind fun (r1, r2) =>
 sp_script_l1 k r1 r2 []
theorem sp_script_ok {k : Nat} : Sd1 (sp_script k) sp_script_J := by
 intro a0 r h
 unfold sp_script at h
 refine ent (c := bodyOf f19) func19 rfl rfl rfl fun cx => ?_
 obtain ⟨⟨r1, r2⟩, h1, h⟩ := bs h fun _ => sp_decls_ok
 exact tt 7 [(1, .reg [(1, cl [0] h1)] [])] [.cellOwn 81 1 113 73] [1, 2, 3] [(0, 0), (1, 1), (17, 2), (81, 3), (113, 4)] 5 [pf h1] (sp_script_l1_ok h cx)

noncomputable def syntax_Script_1_O (a0 : Parser) (a1 : Script) : List O := [.var 64 (ca a0)]
noncomputable def syntax_Script_1_V (a0 : Parser) (a1 : Script) : V := .agg (ca a1)
noncomputable def syntax_Script_1_J (a0 : Parser) (r : (Parser × Script)) : Prop := Has prog 18 [.one (.ptr 0 0)] [.var 64 (ca a0)] (syntax_Script_1_O r.1 r.2) (syntax_Script_1_V r.1 r.2)
noncomputable def syntax_Script_1 (k : Nat) (a0 : Parser) : Option (Parser × Script) :=
 (sp_script k a0).bind fun (r1, r2) =>
 some (r1, r2)
theorem syntax_Script_1_ok {k : Nat} : Sd1 (syntax_Script_1 k) syntax_Script_1_J := by
 intro a0 r h
 unfold syntax_Script_1 at h
 refine ent (c := bodyOf f18) func18 rfl rfl rfl fun cx => ?_
 obtain ⟨⟨r1, r2⟩, h1, h⟩ := bs h fun _ => sp_script_ok
 obtain rfl := Option.some.inj h
 exact rr 6 [(1, .reg [(1, cl [0] h1)] [])] [] [(0, 0)] 1 [pf h1]

noncomputable def syntax_read_t_O (a0 : Script) (a1 a2 : Int) : List O := []
noncomputable def syntax_read_t_V (a0 : Script) (a1 a2 : Int) : V := .tup [.agg (ca a0), .one (.int .i64 a1), .one (.int .i64 a2)]
noncomputable def syntax_read_t_J (a0 : Str) (a1 : Int) (r : (Script × Int × Int)) : Prop := Has prog 17 [.one (.str a0), .one (.int .i64 a1), .one (.fn 18 [] [])] [] (syntax_read_t_O r.1 r.2.1 r.2.2) (syntax_read_t_V r.1 r.2.1 r.2.2)
noncomputable def syntax_read_t (k : Nat) (a0 : Str) (a1 : Int) : Option (Script × Int × Int) :=
 (token_Scan k a0).bind fun (r1, r2, r3) =>
 if r3 = 0 then (
  (syntax_Script_1 k (Parser.mk r1 0 a1 0 0)).bind fun (r4, r5) =>
  (sp_now r4).bind fun r6 =>
  if r6.Kind = 0 then (
   if r4.e = 0 then (
    some (r5, 0, 0)
   ) else (
    some ((Script.mk [] [] []), r4.at_, r4.e)
   )
  ) else (
   (sp_fail r4 10).bind fun r7 =>
   if r7.e = 0 then (
    some (r5, 0, 0)
   ) else (
    some ((Script.mk [] [] []), r7.at_, r7.e)
   )
  )
 ) else (
  some ((Script.mk [] [] []), r2, r3)
 )
theorem syntax_read_t_ok {k : Nat} : Sd2 (syntax_read_t k) syntax_read_t_J := by
 intro a0 a1 r h
 unfold syntax_read_t at h
 refine ent (c := bodyOf f17) func17 rfl rfl rfl fun cx => ?_
 obtain ⟨⟨r1, r2, r3⟩, h1, h⟩ := bs h fun _ => token_Scan_ok
 obtain ⟨h2, h⟩ | ⟨h2, h⟩ := ite_some h
 · obtain ⟨⟨r4, r5⟩, h3, h⟩ := bs h fun _ => syntax_Script_1_ok
   obtain ⟨r6, h4, h⟩ := bs h fun _ => sp_now_ok
   obtain ⟨h5, h⟩ | ⟨h5, h⟩ := ite_some h
   · obtain ⟨h6, h⟩ | ⟨h6, h⟩ := ite_some h
     · obtain rfl := Option.some.inj h
       exact rr 29 [(2, .reg [(1, cl [] h1)] []), (4, .br false), (6, .reg [(2, cl [288] h3)] []), (7, .reg [(1, cl [288] h4 [0])] []), (8, .br false), (10, .br false)] [] [] 0 [pf h1, pf (ndf h2), pf h3, pf h4, @pf (SameO (.var 64 (ca r4))) rfl, pf (ndf h5), pf (ndf h6)]
     · obtain rfl := Option.some.inj h
       exact rr 28 [(2, .reg [(1, cl [] h1)] []), (4, .br false), (6, .reg [(2, cl [288] h3)] []), (7, .reg [(1, cl [288] h4 [0])] []), (8, .br false), (10, .br true)] [] [] 0 [pf h1, pf (ndf h2), pf h3, pf h4, @pf (SameO (.var 64 (ca r4))) rfl, pf (ndf h5), pf (ndt h6)]
   · obtain ⟨r7, h6, h⟩ := bs h fun _ => sp_fail_ok
     obtain ⟨h7, h⟩ | ⟨h7, h⟩ := ite_some h
     · obtain rfl := Option.some.inj h
       exact rr 29 [(2, .reg [(1, cl [] h1)] []), (4, .br false), (6, .reg [(2, cl [288] h3)] []), (7, .reg [(1, cl [288] h4 [0])] []), (8, .br true), (9, .reg [(1, cl [288] h6)] []), (11, .br false)] [] [] 0 [pf h1, pf (ndf h2), pf h3, pf h4, @pf (SameO (.var 64 (ca r4))) rfl, pf (ndt h5), pf h6, pf (ndf h7)]
     · obtain rfl := Option.some.inj h
       exact rr 28 [(2, .reg [(1, cl [] h1)] []), (4, .br false), (6, .reg [(2, cl [288] h3)] []), (7, .reg [(1, cl [288] h4 [0])] []), (8, .br true), (9, .reg [(1, cl [288] h6)] []), (11, .br true)] [] [] 0 [pf h1, pf (ndf h2), pf h3, pf h4, @pf (SameO (.var 64 (ca r4))) rfl, pf (ndt h5), pf h6, pf (ndt h7)]
 · obtain rfl := Option.some.inj h
   exact rr 14 [(2, .reg [(1, cl [] h1)] []), (4, .br true)] [] [] 0 [pf h1, pf (ndt h2)]
end Go.Syn
