/- Part M5 of the model: each function answers as its plain twin in this text says, whenever that twin answers. No other condition. (Printed by a program of this work.) -/
import Derived.Test.YtoioflodpmideaaGreatM4
import Derived.Test.YtoioflodpmideaaGreatAbs22
namespace Go.Syn
open Go.Abs Go.Proofs.Tryz
set_option linter.unusedVariables false
noncomputable def r06_SameTexts (k : Nat) (a0 a1 : List Str) : Option Bool :=
 if (a0.length : Int) = (a1.length : Int) then (
  r06_SameTexts_l1 k a0 a1 0
 ) else (
  some false
 )
theorem r06_SameTexts_ok {k : Nat} : Sd2 (r06_SameTexts k) r06_SameTexts_J := by
 intro a0 a1 r h
 unfold r06_SameTexts at h
 refine ent (c := bodyOf f36) func36 rfl rfl rfl fun cx => ?_
 obtain ⟨h1, h⟩ | ⟨h1, h⟩ := ite_some h
 · exact tt 12 [(1, .reg [] [(1, .one (.int .i64 (a0.length : Int))), (3, .one (.int .i64 (a1.length : Int)))]), (2, .br false)] [] [0, 1, 5] [] 0 [@pf (LenP (α := Str) a0) (lenP _), @pf (LenP (α := Str) a1) (lenP _), pf (ndf h1)] (r06_SameTexts_l1_ok h cx)
 · obtain rfl := Option.some.inj h
   exact rr 10 [(1, .reg [] [(1, .one (.int .i64 (a0.length : Int))), (3, .one (.int .i64 (a1.length : Int)))]), (2, .br true)] [] [] 0 [@pf (LenP (α := Str) a0) (lenP _), @pf (LenP (α := Str) a1) (lenP _), pf (ndt h1)]

noncomputable def r06_SameSchema_O (a0 : Bool) : List O := []
noncomputable def r06_SameSchema_V (a0 : Bool) : V := .one (.bool a0)
noncomputable def r06_SameSchema_J (a0 a1 : Schema) (r : Bool) : Prop := Has prog 19 [.agg (ca a0), .agg (ca a1)] [] (r06_SameSchema_O r) (r06_SameSchema_V r)
noncomputable def r06_SameSchema_l4_K : List Item := stackAt (bodyOf f19) [1, 1, 0, 1, 0, 0, 1, 0, 0, 1, 1, 1, 0, 0] []
noncomputable def r06_SameSchema_l4_S (a0 a1 : Schema) (a2 a3 : Table) (a4 a5 : Int) : St := ⟨[(2, .one (.ptr 0 0)), (3, .one (.ptr 1 0)), (5, .one (.int .i64 a4)), (6, .one (.ptr 2 0)), (7, .one (.ptr 3 0)), (8, .one (.int .i64 a5))], [(0, .var 58 (ca a0)), (1, .var 58 (ca a1)), (2, .var 99 (ca a2)), (3, .var 99 (ca a3))], 4, 134, 0⟩
noncomputable def r06_SameSchema_l4_J (a0 a1 : Schema) (a2 a3 : Table) (a4 a5 : Int) (r : Bool) : Prop := ∀ cx : Cx, AK prog cx r06_SameSchema_l4_K (r06_SameSchema_l4_S a0 a1 a2 a3 a4 a5) (Fin lay f19.results.toList 0 fun o v => o = r06_SameSchema_O r ∧ v = r06_SameSchema_V r)
noncomputable def r06_SameSchema_j3_K : List Item := stackAt (bodyOf f19) [1, 1, 0, 1, 0, 0, 1, 0, 0, 1, 0, 1] []
noncomputable def r06_SameSchema_j3_S (a0 a1 : Schema) (a2 a3 : Table) (a4 : Int) (a5 : Bool) : St := ⟨[(2, .one (.ptr 0 0)), (3, .one (.ptr 1 0)), (5, .one (.int .i64 a4)), (6, .one (.ptr 2 0)), (7, .one (.ptr 3 0)), (115, .one (.bool a5))], [(0, .var 58 (ca a0)), (1, .var 58 (ca a1)), (2, .var 99 (ca a2)), (3, .var 99 (ca a3))], 4, 134, 0⟩
noncomputable def r06_SameSchema_j3_J (a0 a1 : Schema) (a2 a3 : Table) (a4 : Int) (a5 : Bool) (r : Bool) : Prop := ∀ cx : Cx, AK prog cx r06_SameSchema_j3_K (r06_SameSchema_j3_S a0 a1 a2 a3 a4 a5) (Fin lay f19.results.toList 0 fun o v => o = r06_SameSchema_O r ∧ v = r06_SameSchema_V r)
noncomputable def r06_SameSchema_l2_K : List Item := stackAt (bodyOf f19) [1, 1, 0, 1, 0, 0] []
noncomputable def r06_SameSchema_l2_S (a0 a1 : Schema) (a2 : Int) : St := ⟨[(2, .one (.ptr 0 0)), (3, .one (.ptr 1 0)), (5, .one (.int .i64 a2))], [(0, .var 58 (ca a0)), (1, .var 58 (ca a1))], 2, 134, 0⟩
noncomputable def r06_SameSchema_l2_J (a0 a1 : Schema) (a2 : Int) (r : Bool) : Prop := ∀ cx : Cx, AK prog cx r06_SameSchema_l2_K (r06_SameSchema_l2_S a0 a1 a2) (Fin lay f19.results.toList 0 fun o v => o = r06_SameSchema_O r ∧ v = r06_SameSchema_V r)
structure Tab_r06_SameSchema_j3 where
 k : Nat
 r06_SameSchema_l2 : Schema → Schema → Int → Option Bool
 r06_SameSchema_l4 : Schema → Schema → Table → Table → Int → Int → Option Bool
noncomputable def r06_SameSchema_j3_b (T : Tab_r06_SameSchema_j3) (a0 a1 : Schema) (a2 a3 : Table) (a4 : Int) (a5 : Bool) : Option Bool :=
 if a5 = true then (
  some false
 ) else (
  T.r06_SameSchema_l4 a0 a1 a2 a3 a4 0
 )
noncomputable def r06_SameSchema_l2_b (T : Tab_r06_SameSchema_j3) (a0 a1 : Schema) (a2 : Int) : Option Bool :=
 if a2 < (a0.Tables.length : Int) then (
  (idx a0.Tables a2).bind fun x1 =>
  (idx a1.Tables a2).bind fun x2 =>
  if x1.Name = x2.Name then (
   if x1.Rows = x2.Rows then (
    if (x1.Cols.length : Int) = (x2.Cols.length : Int) then (
     (r06_SameTexts T.k x1.Key x2.Key).bind fun r3 =>
     if r3 = true then (
      if x1.Hide = x2.Hide then (
       (r06_SameExprs T.k x1.When x2.When).bind fun r4 =>
       r06_SameSchema_j3_b T a0 a1 x1 x2 a2 (!r4)
      ) else (
       r06_SameSchema_j3_b T a0 a1 x1 x2 a2 true
      )
     ) else (
      r06_SameSchema_j3_b T a0 a1 x1 x2 a2 true
     )
    ) else (
     r06_SameSchema_j3_b T a0 a1 x1 x2 a2 true
    )
   ) else (
    r06_SameSchema_j3_b T a0 a1 x1 x2 a2 true
   )
  ) else (
   r06_SameSchema_j3_b T a0 a1 x1 x2 a2 true
  )
 ) else (
  some true
 )
noncomputable def r06_SameSchema_l4_b (T : Tab_r06_SameSchema_j3) (a0 a1 : Schema) (a2 a3 : Table) (a4 a5 : Int) : Option Bool :=
 if a5 < (a2.Cols.length : Int) then (
  (idx a2.Cols a5).bind fun x1 =>
  (idx a3.Cols a5).bind fun x2 =>
  if ((decide (x1.Name = x2.Name)) && ((decide (x1.Type_ = x2.Type_)) && ((x1.Null == x2.Null) && ((decide (x1.Level = x2.Level)) && true)))) = true then (
   T.r06_SameSchema_l4 a0 a1 a2 a3 a4 (IntKind.i64.wrap (a5 + 1))
  ) else (
   some false
  )
 ) else (
  T.r06_SameSchema_l2 a0 a1 (IntKind.i64.wrap (a4 + 1))
 )
noncomputable def tab_r06_SameSchema_j3 : Nat → Tab_r06_SameSchema_j3
 | 0 => ⟨0, fun _ _ _ => none, fun _ _ _ _ _ _ => none⟩
 | k + 1 => ⟨k + 1, r06_SameSchema_l2_b (tab_r06_SameSchema_j3 k), r06_SameSchema_l4_b (tab_r06_SameSchema_j3 k)⟩
noncomputable def r06_SameSchema_l2 (k : Nat) := (tab_r06_SameSchema_j3 k).r06_SameSchema_l2
noncomputable def r06_SameSchema_l4 (k : Nat) := (tab_r06_SameSchema_j3 k).r06_SameSchema_l4
structure Ok_r06_SameSchema_j3 (m : Nat) : Prop where
 r06_SameSchema_l2 : Sd3 (tab_r06_SameSchema_j3 m).r06_SameSchema_l2 r06_SameSchema_l2_J
 r06_SameSchema_l4 : Sd6 (tab_r06_SameSchema_j3 m).r06_SameSchema_l4 r06_SameSchema_l4_J
theorem r06_SameSchema_j3_okb {m : Nat} (ih : Ok_r06_SameSchema_j3 m) : Sd6 (r06_SameSchema_j3_b (tab_r06_SameSchema_j3 m)) r06_SameSchema_j3_J := by
 intro a0 a1 a2 a3 a4 a5 r h cx
 unfold r06_SameSchema_j3_b at h
 obtain ⟨h1, h⟩ | ⟨h1, h⟩ := ite_some h
 · obtain rfl := Option.some.inj h
   exact rr 5 [(0, .br true)] [] [] 0 [pf (bt h1)]
 · exact tt 6 [(0, .br false)] [] [2, 3, 5, 6, 7, 8] [(0, 0), (1, 1), (2, 2), (3, 3)] 4 [pf (bf h1)] (ih.r06_SameSchema_l4 h cx)
theorem r06_SameSchema_l2_okb {m : Nat} (ih : Ok_r06_SameSchema_j3 m) : Sd3 (r06_SameSchema_l2_b (tab_r06_SameSchema_j3 m)) r06_SameSchema_l2_J := by
 intro a0 a1 a2 r h cx
 unfold r06_SameSchema_l2_b at h
 obtain ⟨h1, h⟩ | ⟨h1, h⟩ := ite_some h
 · obtain ⟨x1, h2, h⟩ := bind_some h
   obtain ⟨x2, h3, h⟩ := bind_some h
   obtain ⟨h4, h⟩ | ⟨h4, h⟩ := ite_some h
   · obtain ⟨h5, h⟩ | ⟨h5, h⟩ := ite_some h
     · obtain ⟨h6, h⟩ | ⟨h6, h⟩ := ite_some h
       · obtain ⟨r3, h7, h⟩ := bs h fun _ => r06_SameTexts_ok
         obtain ⟨h8, h⟩ | ⟨h8, h⟩ := ite_some h
         · obtain ⟨h9, h⟩ | ⟨h9, h⟩ := ite_some h
           · obtain ⟨r4, h10, h⟩ := bs h fun _ => r06_SameExprs_ok
             exact tt 12 [(0, .reg [] [(3, .one (.int .i64 (a0.Tables.length : Int)))]), (1, .br true), (2, .reg [(4, .row (Row.cells x1)), (9, .row (Row.cells x2))] []), (3, .reg [(26, cl [] h7), (41, cl [] h10)] [(5, .bool false), (12, .bool false), (15, .one (.int .i64 (x1.Cols.length : Int))), (18, .one (.int .i64 (x2.Cols.length : Int))), (21, .bool false), (29, .bool false), (36, .bool false)])] [] [2, 3, 5, 6, 7, 115] [(0, 0), (1, 1), (242, 2), (258, 3)] 4 [@pf (LenP (α := Table) a0.Tables) (lenP _), pf (dt h1), pf (inP h2), pf (atP h2), pf (inP h3), pf (atP h3), pf (ndf h4), pf (ndf h5), @pf (LenP (α := Col) x1.Cols) (lenP _), @pf (LenP (α := Col) x2.Cols) (lenP _), pf (ndf h6), pf h7, pf (nbf h8), pf (ndf h9), pf h10] (r06_SameSchema_j3_okb ih h cx)
           · exact tt 12 [(0, .reg [] [(3, .one (.int .i64 (a0.Tables.length : Int)))]), (1, .br true), (2, .reg [(4, .row (Row.cells x1)), (9, .row (Row.cells x2))] []), (3, .reg [(26, cl [] h7)] [(5, .bool false), (12, .bool false), (15, .one (.int .i64 (x1.Cols.length : Int))), (18, .one (.int .i64 (x2.Cols.length : Int))), (21, .bool false), (29, .bool false), (36, .bool true)])] [] [2, 3, 5, 6, 7, 115] [(0, 0), (1, 1), (242, 2), (258, 3)] 4 [@pf (LenP (α := Table) a0.Tables) (lenP _), pf (dt h1), pf (inP h2), pf (atP h2), pf (inP h3), pf (atP h3), pf (ndf h4), pf (ndf h5), @pf (LenP (α := Col) x1.Cols) (lenP _), @pf (LenP (α := Col) x2.Cols) (lenP _), pf (ndf h6), pf h7, pf (nbf h8), pf (ndt h9)] (r06_SameSchema_j3_okb ih h cx)
         · exact tt 12 [(0, .reg [] [(3, .one (.int .i64 (a0.Tables.length : Int)))]), (1, .br true), (2, .reg [(4, .row (Row.cells x1)), (9, .row (Row.cells x2))] []), (3, .reg [(26, cl [] h7)] [(5, .bool false), (12, .bool false), (15, .one (.int .i64 (x1.Cols.length : Int))), (18, .one (.int .i64 (x2.Cols.length : Int))), (21, .bool false), (29, .bool true)])] [] [2, 3, 5, 6, 7, 115] [(0, 0), (1, 1), (242, 2), (258, 3)] 4 [@pf (LenP (α := Table) a0.Tables) (lenP _), pf (dt h1), pf (inP h2), pf (atP h2), pf (inP h3), pf (atP h3), pf (ndf h4), pf (ndf h5), @pf (LenP (α := Col) x1.Cols) (lenP _), @pf (LenP (α := Col) x2.Cols) (lenP _), pf (ndf h6), pf h7, pf (nbt h8)] (r06_SameSchema_j3_okb ih h cx)
       · exact tt 12 [(0, .reg [] [(3, .one (.int .i64 (a0.Tables.length : Int)))]), (1, .br true), (2, .reg [(4, .row (Row.cells x1)), (9, .row (Row.cells x2))] []), (3, .reg [] [(5, .bool false), (12, .bool false), (15, .one (.int .i64 (x1.Cols.length : Int))), (18, .one (.int .i64 (x2.Cols.length : Int))), (21, .bool true)])] [] [2, 3, 5, 6, 7, 115] [(0, 0), (1, 1), (242, 2), (258, 3)] 4 [@pf (LenP (α := Table) a0.Tables) (lenP _), pf (dt h1), pf (inP h2), pf (atP h2), pf (inP h3), pf (atP h3), pf (ndf h4), pf (ndf h5), @pf (LenP (α := Col) x1.Cols) (lenP _), @pf (LenP (α := Col) x2.Cols) (lenP _), pf (ndt h6)] (r06_SameSchema_j3_okb ih h cx)
     · exact tt 12 [(0, .reg [] [(3, .one (.int .i64 (a0.Tables.length : Int)))]), (1, .br true), (2, .reg [(4, .row (Row.cells x1)), (9, .row (Row.cells x2))] []), (3, .reg [] [(5, .bool false), (12, .bool true)])] [] [2, 3, 5, 6, 7, 115] [(0, 0), (1, 1), (242, 2), (258, 3)] 4 [@pf (LenP (α := Table) a0.Tables) (lenP _), pf (dt h1), pf (inP h2), pf (atP h2), pf (inP h3), pf (atP h3), pf (ndf h4), pf (ndt h5)] (r06_SameSchema_j3_okb ih h cx)
   · exact tt 12 [(0, .reg [] [(3, .one (.int .i64 (a0.Tables.length : Int)))]), (1, .br true), (2, .reg [(4, .row (Row.cells x1)), (9, .row (Row.cells x2))] []), (3, .reg [] [(5, .bool true)])] [] [2, 3, 5, 6, 7, 115] [(0, 0), (1, 1), (242, 2), (258, 3)] 4 [@pf (LenP (α := Table) a0.Tables) (lenP _), pf (dt h1), pf (inP h2), pf (atP h2), pf (inP h3), pf (atP h3), pf (ndt h4)] (r06_SameSchema_j3_okb ih h cx)
 · obtain rfl := Option.some.inj h
   exact rr 9 [(0, .reg [] [(3, .one (.int .i64 (a0.Tables.length : Int)))]), (1, .br false)] [] [] 0 [@pf (LenP (α := Table) a0.Tables) (lenP _), pf (df h1)]
theorem r06_SameSchema_l4_okb {m : Nat} (ih : Ok_r06_SameSchema_j3 m) : Sd6 (r06_SameSchema_l4_b (tab_r06_SameSchema_j3 m)) r06_SameSchema_l4_J := by
 intro a0 a1 a2 a3 a4 a5 r h cx
 unfold r06_SameSchema_l4_b at h
 obtain ⟨h1, h⟩ | ⟨h1, h⟩ := ite_some h
 · obtain ⟨x1, h2, h⟩ := bind_some h
   obtain ⟨x2, h3, h⟩ := bind_some h
   obtain ⟨h4, h⟩ | ⟨h4, h⟩ := ite_some h
   · exact tt 14 [(0, .reg [] [(3, .one (.int .i64 (a2.Cols.length : Int)))]), (1, .br true), (2, .reg [(4, .row (Row.cells x1)), (9, .row (Row.cells x2))] []), (3, .br false)] [] [2, 3, 5, 6, 7, 8] [(0, 0), (1, 1), (2, 2), (3, 3)] 4 [@pf (LenP (α := Col) a2.Cols) (lenP _), pf (dt h1), pf (inP h2), pf (atP h2), pf (inP h3), pf (atP h3), pf (nbf h4)] (ih.r06_SameSchema_l4 h cx)
   · obtain rfl := Option.some.inj h
     exact rr 14 [(0, .reg [] [(3, .one (.int .i64 (a2.Cols.length : Int)))]), (1, .br true), (2, .reg [(4, .row (Row.cells x1)), (9, .row (Row.cells x2))] []), (3, .br true)] [] [] 0 [@pf (LenP (α := Col) a2.Cols) (lenP _), pf (dt h1), pf (inP h2), pf (atP h2), pf (inP h3), pf (atP h3), pf (nbt h4)]
 · exact tt 8 [(0, .reg [] [(3, .one (.int .i64 (a2.Cols.length : Int)))]), (1, .br false)] [] [2, 3, 5] [(0, 0), (1, 1)] 2 [@pf (LenP (α := Col) a2.Cols) (lenP _), pf (df h1)] (ih.r06_SameSchema_l2 h cx)
theorem ok_r06_SameSchema_j3 : ∀ m, Ok_r06_SameSchema_j3 m
 | 0 => ⟨(fun h => nomatch (show none = some _ from h)), (fun h => nomatch (show none = some _ from h))⟩
 | m + 1 => ⟨r06_SameSchema_l2_okb (ok_r06_SameSchema_j3 m), r06_SameSchema_l4_okb (ok_r06_SameSchema_j3 m)⟩
theorem r06_SameSchema_l2_ok {k : Nat} : Sd3 (r06_SameSchema_l2 k) r06_SameSchema_l2_J := (ok_r06_SameSchema_j3 k).r06_SameSchema_l2
theorem r06_SameSchema_l4_ok {k : Nat} : Sd6 (r06_SameSchema_l4 k) r06_SameSchema_l4_J := (ok_r06_SameSchema_j3 k).r06_SameSchema_l4

noncomputable def r06_SameSchema_j1_K : List Item := stackAt (bodyOf f19) [1, 0, 1] []
noncomputable def r06_SameSchema_j1_S (a0 a1 : Schema) (a2 : Bool) : St := ⟨[(2, .one (.ptr 0 0)), (3, .one (.ptr 1 0)), (54, .one (.bool a2))], [(0, .var 58 (ca a0)), (1, .var 58 (ca a1))], 2, 134, 0⟩
noncomputable def r06_SameSchema_j1_J (a0 a1 : Schema) (a2 : Bool) (r : Bool) : Prop := ∀ cx : Cx, AK prog cx r06_SameSchema_j1_K (r06_SameSchema_j1_S a0 a1 a2) (Fin lay f19.results.toList 0 fun o v => o = r06_SameSchema_O r ∧ v = r06_SameSchema_V r)
noncomputable def r06_SameSchema_j1 (k : Nat) (a0 a1 : Schema) (a2 : Bool) : Option Bool :=
 if a2 = true then (
  some false
 ) else (
  r06_SameSchema_l2 k a0 a1 0
 )
theorem r06_SameSchema_j1_ok {k : Nat} : Sd3 (r06_SameSchema_j1 k) r06_SameSchema_j1_J := by
 intro a0 a1 a2 r h cx
 unfold r06_SameSchema_j1 at h
 obtain ⟨h1, h⟩ | ⟨h1, h⟩ := ite_some h
 · obtain rfl := Option.some.inj h
   exact rr 5 [(0, .br true)] [] [] 0 [pf (bt h1)]
 · exact tt 7 [(0, .br false)] [] [2, 3, 5] [(0, 0), (1, 1)] 2 [pf (bf h1)] (r06_SameSchema_l2_ok h cx)

noncomputable def r06_SameSchema (k : Nat) (a0 a1 : Schema) : Option Bool :=
 (r06_SameTexts k a0.Levels a1.Levels).bind fun r1 =>
 if r1 = true then (
  (r06_SamePairs k a0.Edges a1.Edges).bind fun r2 =>
  if r2 = true then (
   (r06_SamePairs k a0.Channels a1.Channels).bind fun r3 =>
   if r3 = true then (
    (r06_SamePairs k a0.Principals a1.Principals).bind fun r4 =>
    if r4 = true then (
     if a0.Limit = a1.Limit then (
      r06_SameSchema_j1 k a0 a1 (!(decide ((a0.Tables.length : Int) = (a1.Tables.length : Int))))
     ) else (
      r06_SameSchema_j1 k a0 a1 true
     )
    ) else (
     r06_SameSchema_j1 k a0 a1 true
    )
   ) else (
    r06_SameSchema_j1 k a0 a1 true
   )
  ) else (
   r06_SameSchema_j1 k a0 a1 true
  )
 ) else (
  r06_SameSchema_j1 k a0 a1 true
 )
theorem r06_SameSchema_ok {k : Nat} : Sd2 (r06_SameSchema k) r06_SameSchema_J := by
 intro a0 a1 r h
 unfold r06_SameSchema at h
 refine ent (c := bodyOf f19) func19 rfl rfl rfl fun cx => ?_
 obtain ⟨r1, h1, h⟩ := bs h fun _ => r06_SameTexts_ok
 obtain ⟨h2, h⟩ | ⟨h2, h⟩ := ite_some h
 · obtain ⟨r2, h3, h⟩ := bs h fun _ => r06_SamePairs_ok
   obtain ⟨h4, h⟩ | ⟨h4, h⟩ := ite_some h
   · obtain ⟨r3, h5, h⟩ := bs h fun _ => r06_SamePairs_ok
     obtain ⟨h6, h⟩ | ⟨h6, h⟩ := ite_some h
     · obtain ⟨r4, h7, h⟩ := bs h fun _ => r06_SamePairs_ok
       obtain ⟨h8, h⟩ | ⟨h8, h⟩ := ite_some h
       · obtain ⟨h9, h⟩ | ⟨h9, h⟩ := ite_some h
         · exact tt 5 [(1, .reg [(4, cl [] h1), (11, cl [] h3), (19, cl [] h5), (27, cl [] h7)] [(6, .bool false), (14, .bool false), (22, .bool false), (30, .bool false), (37, .bool false), (40, .one (.int .i64 (a0.Tables.length : Int))), (43, .one (.int .i64 (a1.Tables.length : Int)))])] [] [2, 3, 54] [(0, 0), (16, 1)] 2 [pf h1, pf (nbf h2), pf h3, pf (nbf h4), pf h5, pf (nbf h6), pf h7, pf (nbf h8), pf (ndf h9), @pf (LenP (α := Table) a0.Tables) (lenP _), @pf (LenP (α := Table) a1.Tables) (lenP _)] (r06_SameSchema_j1_ok h cx)
         · exact tt 5 [(1, .reg [(4, cl [] h1), (11, cl [] h3), (19, cl [] h5), (27, cl [] h7)] [(6, .bool false), (14, .bool false), (22, .bool false), (30, .bool false), (37, .bool true)])] [] [2, 3, 54] [(0, 0), (16, 1)] 2 [pf h1, pf (nbf h2), pf h3, pf (nbf h4), pf h5, pf (nbf h6), pf h7, pf (nbf h8), pf (ndt h9)] (r06_SameSchema_j1_ok h cx)
       · exact tt 5 [(1, .reg [(4, cl [] h1), (11, cl [] h3), (19, cl [] h5), (27, cl [] h7)] [(6, .bool false), (14, .bool false), (22, .bool false), (30, .bool true)])] [] [2, 3, 54] [(0, 0), (16, 1)] 2 [pf h1, pf (nbf h2), pf h3, pf (nbf h4), pf h5, pf (nbf h6), pf h7, pf (nbt h8)] (r06_SameSchema_j1_ok h cx)
     · exact tt 5 [(1, .reg [(4, cl [] h1), (11, cl [] h3), (19, cl [] h5)] [(6, .bool false), (14, .bool false), (22, .bool true)])] [] [2, 3, 54] [(0, 0), (16, 1)] 2 [pf h1, pf (nbf h2), pf h3, pf (nbf h4), pf h5, pf (nbt h6)] (r06_SameSchema_j1_ok h cx)
   · exact tt 5 [(1, .reg [(4, cl [] h1), (11, cl [] h3)] [(6, .bool false), (14, .bool true)])] [] [2, 3, 54] [(0, 0), (16, 1)] 2 [pf h1, pf (nbf h2), pf h3, pf (nbt h4)] (r06_SameSchema_j1_ok h cx)
 · exact tt 5 [(1, .reg [(4, cl [] h1)] [(6, .bool true)])] [] [2, 3, 54] [(0, 0), (16, 1)] 2 [pf h1, pf (nbt h2)] (r06_SameSchema_j1_ok h cx)

noncomputable def r06_P_names_O (a0 : PT) (a1 : List Str) : List O := [.var 74 (ca a0)]
noncomputable def r06_P_names_V (a0 : PT) (a1 : List Str) : V := .one (.c (.sl 1 (Row.rows (α := Str) a1)))
noncomputable def r06_P_names_J (a0 : PT) (r : (PT × (List Str))) : Prop := Has prog 72 [.one (.ptr 0 0)] [.var 74 (ca a0)] (r06_P_names_O r.1 r.2) (r06_P_names_V r.1 r.2)
noncomputable def r06_P_names_l1_K : List Item := stackAt (bodyOf f72) [1, 1, 0, 0, 0] []
noncomputable def r06_P_names_l1_S (a0 : PT) (a1 : List Str) : St := ⟨[(0, .one (.ptr 0 0)), (3, .one (.own 1 (Row.rows (α := Str) a1) 1))], [(0, .var 74 (ca a0)), (1, .row 9 1)], 2, 15, 1⟩
noncomputable def r06_P_names_l1_J (a0 : PT) (a1 : List Str) (r : (PT × (List Str))) : Prop := ∀ cx : Cx, AK prog cx r06_P_names_l1_K (r06_P_names_l1_S a0 a1) (Fin lay f72.results.toList 1 fun o v => o = r06_P_names_O r.1 r.2 ∧ v = r06_P_names_V r.1 r.2)
structure Tab_r06_P_names_l1 where
 k : Nat
 r06_P_names_l1 : PT → (List Str) → Option (PT × (List Str))
noncomputable def r06_P_names_l1_b (T : Tab_r06_P_names_l1) (a0 : PT) (a1 : List Str) : Option (PT × (List Str)) :=
 (r06_P_take a0 s_x2c).bind fun (r1, r2) =>
 if r2 = true then (
  (r06_P_name T.k r1).bind fun (r3, r4) =>
  chk (CapOk 16 a1 [r4]) <|
  T.r06_P_names_l1 r3 (a1 ++ [r4])
 ) else (
  some (r1, a1)
 )
noncomputable def tab_r06_P_names_l1 : Nat → Tab_r06_P_names_l1
 | 0 => ⟨0, fun _ _ => none⟩
 | k + 1 => ⟨k + 1, r06_P_names_l1_b (tab_r06_P_names_l1 k)⟩
noncomputable def r06_P_names_l1 (k : Nat) := (tab_r06_P_names_l1 k).r06_P_names_l1
structure Ok_r06_P_names_l1 (m : Nat) : Prop where
 r06_P_names_l1 : Sd2 (tab_r06_P_names_l1 m).r06_P_names_l1 r06_P_names_l1_J
theorem r06_P_names_l1_okb {m : Nat} (ih : Ok_r06_P_names_l1 m) : Sd2 (r06_P_names_l1_b (tab_r06_P_names_l1 m)) r06_P_names_l1_J := by
 intro a0 a1 r h cx
 unfold r06_P_names_l1_b at h
 obtain ⟨⟨r1, r2⟩, h1, h⟩ := bs h fun _ => r06_P_take_ok
 obtain ⟨h2, h⟩ | ⟨h2, h⟩ := ite_some h
 · obtain ⟨⟨r3, r4⟩, h3, h⟩ := bs h fun _ => r06_P_name_ok
   obtain ⟨h4, h⟩ := chk_some h
   exact tt 9 [(0, .reg [(1, cl [0] h1)] []), (1, .br true), (2, .reg [(2, cl [0] h3)] [(3, .one (.own 1 (Row.rows (α := Str) [r4]) 82)), (4, .one (.own 1 (Row.rows (α := Str) (a1 ++ [r4])) 98))])] [] [0, 3] [(0, 0), (98, 1)] 2 [pf h1, pf (bt h2), pf h3, @pf (BldP (α := Str) [r4] 82) (bldP _ _), @pf (AppP (α := Str) a1 [r4] 98) (appP _ _ _), pf (cap1 h4), pf (cap2 h4)] (ih.r06_P_names_l1 h cx)
 · obtain rfl := Option.some.inj h
   exact rr 9 [(0, .reg [(1, cl [0] h1)] []), (1, .br false)] [] [(0, 0)] 1 [pf h1, pf (bf h2)]
theorem ok_r06_P_names_l1 : ∀ m, Ok_r06_P_names_l1 m
 | 0 => ⟨(fun h => nomatch (show none = some _ from h))⟩
 | m + 1 => ⟨r06_P_names_l1_okb (ok_r06_P_names_l1 m)⟩
theorem r06_P_names_l1_ok {k : Nat} : Sd2 (r06_P_names_l1 k) r06_P_names_l1_J := (ok_r06_P_names_l1 k).r06_P_names_l1

noncomputable def r06_P_names (k : Nat) (a0 : PT) : Option (PT × (List Str)) :=
 (r06_P_name k a0).bind fun (r1, r2) =>
 r06_P_names_l1 k r1 [r2]
theorem r06_P_names_ok {k : Nat} : Sd1 (r06_P_names k) r06_P_names_J := by
 intro a0 r h
 unfold r06_P_names at h
 refine ent (c := bodyOf f72) func72 rfl rfl rfl fun cx => ?_
 obtain ⟨⟨r1, r2⟩, h1, h⟩ := bs h fun _ => r06_P_name_ok
 exact tt 7 [(1, .reg [(1, cl [0] h1)] [(2, .one (.own 1 (Row.rows (α := Str) [r2]) 49))])] [] [0, 3] [(0, 0), (49, 1)] 2 [pf h1, @pf (BldP (α := Str) [r2] 49) (bldP _ _)] (r06_P_names_l1_ok h cx)

noncomputable def r06_P_ty_O (a0 : PT) (a1 : Int) : List O := [.var 74 (ca a0)]
noncomputable def r06_P_ty_V (a0 : PT) (a1 : Int) : V := .one (.int .i64 a1)
noncomputable def r06_P_ty_J (a0 : PT) (r : (PT × Int)) : Prop := Has prog 106 [.one (.ptr 0 0)] [.var 74 (ca a0)] (r06_P_ty_O r.1 r.2) (r06_P_ty_V r.1 r.2)
noncomputable def r06_P_ty (a0 : PT) : Option (PT × Int) :=
 (r06_P_take a0 s_int).bind fun (r1, r2) =>
 if r2 = true then (
  some (r1, 2)
 ) else (
  (r06_P_take r1 s_bool).bind fun (r3, r4) =>
  if r4 = true then (
   some (r3, 1)
  ) else (
   (r06_P_take r3 s_text).bind fun (r5, r6) =>
   if r6 = true then (
    some (r5, 3)
   ) else (
    (r06_P_bad r5 10).bind fun r7 =>
    some (r7, 0)
   )
  )
 )
theorem r06_P_ty_ok : Sd1 r06_P_ty r06_P_ty_J := by
 intro a0 r h
 unfold r06_P_ty at h
 refine ent (c := bodyOf f106) func106 rfl rfl rfl fun cx => ?_
 obtain ⟨⟨r1, r2⟩, h1, h⟩ := bs h fun _ => r06_P_take_ok
 obtain ⟨h2, h⟩ | ⟨h2, h⟩ := ite_some h
 · obtain rfl := Option.some.inj h
   exact rr 10 [(1, .reg [(1, cl [0] h1)] []), (2, .br true)] [] [(0, 0)] 1 [pf h1, pf (bt h2)]
 · obtain ⟨⟨r3, r4⟩, h3, h⟩ := bs h fun _ => r06_P_take_ok
   obtain ⟨h4, h⟩ | ⟨h4, h⟩ := ite_some h
   · obtain rfl := Option.some.inj h
     exact rr 15 [(1, .reg [(1, cl [0] h1)] []), (2, .br false), (3, .reg [(1, cl [0] h3)] []), (4, .br true)] [] [(0, 0)] 1 [pf h1, pf (bf h2), pf h3, pf (bt h4)]
   · obtain ⟨⟨r5, r6⟩, h5, h⟩ := bs h fun _ => r06_P_take_ok
     obtain ⟨h6, h⟩ | ⟨h6, h⟩ := ite_some h
     · obtain rfl := Option.some.inj h
       exact rr 20 [(1, .reg [(1, cl [0] h1)] []), (2, .br false), (3, .reg [(1, cl [0] h3)] []), (4, .br false), (5, .reg [(1, cl [0] h5)] []), (6, .br true)] [] [(0, 0)] 1 [pf h1, pf (bf h2), pf h3, pf (bf h4), pf h5, pf (bt h6)]
     · obtain ⟨r7, h7, h⟩ := bs h fun _ => r06_P_bad_ok
       obtain rfl := Option.some.inj h
       exact rr 23 [(1, .reg [(1, cl [0] h1)] []), (2, .br false), (3, .reg [(1, cl [0] h3)] []), (4, .br false), (5, .reg [(1, cl [0] h5)] []), (6, .br false), (7, .reg [(1, cl [0] h7)] [])] [] [(0, 0)] 1 [pf h1, pf (bf h2), pf h3, pf (bf h4), pf h5, pf (bf h6), pf h7]

noncomputable def r06_P_table_O (a0 : PT) (a1 : Table) : List O := [.var 74 (ca a0)]
noncomputable def r06_P_table_V (a0 : PT) (a1 : Table) : V := .agg (ca a1)
noncomputable def r06_P_table_J (a0 : PT) (r : (PT × Table)) : Prop := Has prog 74 [.one (.ptr 0 0)] [.var 74 (ca a0)] (r06_P_table_O r.1 r.2) (r06_P_table_V r.1 r.2)
noncomputable def r06_P_table_l1_K : List Item := stackAt (bodyOf f74) [1, 1, 1, 1, 1, 1, 0, 0, 0] []
noncomputable def r06_P_table_l1_S (a0 : PT) (a1 a2 : Str) (a3 : List Col) (a4 : Bool) : St := ⟨[(0, .one (.ptr 0 0)), (2, .one (.ptr 1 0)), (3, .one (.ptr 2 0)), (4, .one (.bool a4))], [(0, .var 74 (ca a0)), (1, .var 99 [.str [], .str [], .nil 4, .nil 1, .str [], .nil 6]), (2, .var 99 [.str a1, .str a2, .own 4 (Row.rows (α := Col) a3) 3, .nil 1, .str [], .nil 6]), (3, .row 101 4)], 4, 60, 1⟩
noncomputable def r06_P_table_l1_J (a0 : PT) (a1 a2 : Str) (a3 : List Col) (a4 : Bool) (r : (PT × Table)) : Prop := ∀ cx : Cx, AK prog cx r06_P_table_l1_K (r06_P_table_l1_S a0 a1 a2 a3 a4) (Fin lay f74.results.toList 1 fun o v => o = r06_P_table_O r.1 r.2 ∧ v = r06_P_table_V r.1 r.2)
structure Tab_r06_P_table_l1 where
 k : Nat
 r06_P_table_l1 : PT → Str → Str → (List Col) → Bool → Option (PT × Table)
noncomputable def r06_P_table_l1_b (T : Tab_r06_P_table_l1) (a0 : PT) (a1 a2 : Str) (a3 : List Col) (a4 : Bool) : Option (PT × Table) :=
 if a4 = true then (
  (r06_P_name T.k a0).bind fun (r1, r2) =>
  (r06_P_ty r1).bind fun (r3, r4) =>
  (r06_P_take r3 s_null).bind fun (r5, r6) =>
  (r06_P_name T.k r5).bind fun (r7, r8) =>
  chk (CapOk 48 a3 [(Col.mk r2 r4 r6 r8)]) <|
  (r06_P_take r7 s_x2c).bind fun (r9, r10) =>
  T.r06_P_table_l1 r9 a1 a2 (a3 ++ [(Col.mk r2 r4 r6 r8)]) r10
 ) else (
  (r06_P_must a0 s_x29).bind fun r1 =>
  (r06_P_take r1 s_key).bind fun (r2, r3) =>
  if r3 = true then (
   (r06_P_must r2 s_x28).bind fun r4 =>
   (r06_P_names T.k r4).bind fun (r5, r6) =>
   (r06_P_must r5 s_x29).bind fun r7 =>
   (r06_P_take r7 s_hide).bind fun (r8, r9) =>
   if r9 = true then (
    (r06_P_name T.k r8).bind fun (r10, r11) =>
    (r06_P_must r10 s_when).bind fun r12 =>
    (r06_P_Expr T.k r12).bind fun (r13, r14) =>
    some (r13, (Table.mk a1 a2 a3 r6 r11 [r14]))
   ) else (
    some (r8, (Table.mk a1 a2 a3 r6 [] []))
   )
  ) else (
   (r06_P_take r2 s_hide).bind fun (r4, r5) =>
   if r5 = true then (
    (r06_P_name T.k r4).bind fun (r6, r7) =>
    (r06_P_must r6 s_when).bind fun r8 =>
    (r06_P_Expr T.k r8).bind fun (r9, r10) =>
    some (r9, (Table.mk a1 a2 a3 [] r7 [r10]))
   ) else (
    some (r4, (Table.mk a1 a2 a3 [] [] []))
   )
  )
 )
noncomputable def tab_r06_P_table_l1 : Nat → Tab_r06_P_table_l1
 | 0 => ⟨0, fun _ _ _ _ _ => none⟩
 | k + 1 => ⟨k + 1, r06_P_table_l1_b (tab_r06_P_table_l1 k)⟩
noncomputable def r06_P_table_l1 (k : Nat) := (tab_r06_P_table_l1 k).r06_P_table_l1
structure Ok_r06_P_table_l1 (m : Nat) : Prop where
 r06_P_table_l1 : Sd5 (tab_r06_P_table_l1 m).r06_P_table_l1 r06_P_table_l1_J
theorem r06_P_table_l1_okb {m : Nat} (ih : Ok_r06_P_table_l1 m) : Sd5 (r06_P_table_l1_b (tab_r06_P_table_l1 m)) r06_P_table_l1_J := by
 intro a0 a1 a2 a3 a4 r h cx
 unfold r06_P_table_l1_b at h
 obtain ⟨h1, h⟩ | ⟨h1, h⟩ := ite_some h
 · obtain ⟨⟨r1, r2⟩, h2, h⟩ := bs h fun _ => r06_P_name_ok
   obtain ⟨⟨r3, r4⟩, h3, h⟩ := bs h fun _ => r06_P_ty_ok
   obtain ⟨⟨r5, r6⟩, h4, h⟩ := bs h fun _ => r06_P_take_ok
   obtain ⟨⟨r7, r8⟩, h5, h⟩ := bs h fun _ => r06_P_name_ok
   obtain ⟨h6, h⟩ := chk_some h
   obtain ⟨⟨r9, r10⟩, h7, h⟩ := bs h fun _ => r06_P_take_ok
   exact tt 19 [(1, .br true), (2, .reg [(1, cl [0] h2)] []), (3, .reg [(1, cl [0] h3)] []), (4, .reg [(1, cl [0] h4)] []), (5, .reg [(1, cl [0] h5)] []), (6, .reg [] [(3, .one (.own 4 (Row.rows (α := Col) [(Col.mk r2 r4 r6 r8)]) 340)), (4, .one (.own 4 (Row.rows (α := Col) (a3 ++ [(Col.mk r2 r4 r6 r8)])) 356))]), (7, .reg [(1, cl [0] h7)] [])] [] [0, 2, 3, 4] [(0, 0), (1, 1), (2, 2), (356, 3)] 4 [pf (bt h1), pf h2, pf h3, pf h4, pf h5, @pf (BldP (α := Col) [(Col.mk r2 r4 r6 r8)] 340) (bldP _ _), @pf (AppP (α := Col) a3 [(Col.mk r2 r4 r6 r8)] 356) (appP _ _ _), pf (cap1 h6), pf (cap2 h6), pf h7] (ih.r06_P_table_l1 h cx)
 · obtain ⟨r1, h2, h⟩ := bs h fun _ => r06_P_must_ok
   obtain ⟨⟨r2, r3⟩, h3, h⟩ := bs h fun _ => r06_P_take_ok
   obtain ⟨h4, h⟩ | ⟨h4, h⟩ := ite_some h
   · obtain ⟨r4, h5, h⟩ := bs h fun _ => r06_P_must_ok
     obtain ⟨⟨r5, r6⟩, h6, h⟩ := bs h fun _ => r06_P_names_ok
     obtain ⟨r7, h7, h⟩ := bs h fun _ => r06_P_must_ok
     obtain ⟨⟨r8, r9⟩, h8, h⟩ := bs h fun _ => r06_P_take_ok
     obtain ⟨h9, h⟩ | ⟨h9, h⟩ := ite_some h
     · obtain ⟨⟨r10, r11⟩, h10, h⟩ := bs h fun _ => r06_P_name_ok
       obtain ⟨r12, h11, h⟩ := bs h fun _ => r06_P_must_ok
       obtain ⟨⟨r13, r14⟩, h12, h⟩ := bs h fun _ => r06_P_Expr_ok
       obtain rfl := Option.some.inj h
       exact rr 29 [(1, .br false), (2, .reg [(1, cl [0] h2)] []), (3, .reg [(1, cl [0] h3)] []), (4, .br true), (5, .reg [(1, cl [0] h5)] []), (6, .reg [(1, cl [0] h6)] []), (7, .reg [(1, cl [0] h7)] []), (8, .reg [(1, cl [0] h8)] []), (9, .br true), (10, .reg [(1, cl [0] h10)] []), (11, .reg [(1, cl [0] h11)] []), (12, .reg [(1, cl [0] h12)] [(2, .one (.own 6 (Row.rows (α := Expr) [r14]) 372))])] [] [(0, 0)] 1 [pf (bf h1), pf h2, pf h3, pf (bt h4), pf h5, pf h6, pf h7, pf h8, pf (bt h9), pf h10, pf h11, pf h12, @pf (BldP (α := Expr) [r14] 372) (bldP _ _)]
     · obtain rfl := Option.some.inj h
       exact rr 25 [(1, .br false), (2, .reg [(1, cl [0] h2)] []), (3, .reg [(1, cl [0] h3)] []), (4, .br true), (5, .reg [(1, cl [0] h5)] []), (6, .reg [(1, cl [0] h6)] []), (7, .reg [(1, cl [0] h7)] []), (8, .reg [(1, cl [0] h8)] []), (9, .br false)] [] [(0, 0)] 1 [pf (bf h1), pf h2, pf h3, pf (bt h4), pf h5, pf h6, pf h7, pf h8, pf (bf h9)]
   · obtain ⟨⟨r4, r5⟩, h5, h⟩ := bs h fun _ => r06_P_take_ok
     obtain ⟨h6, h⟩ | ⟨h6, h⟩ := ite_some h
     · obtain ⟨⟨r6, r7⟩, h7, h⟩ := bs h fun _ => r06_P_name_ok
       obtain ⟨r8, h8, h⟩ := bs h fun _ => r06_P_must_ok
       obtain ⟨⟨r9, r10⟩, h9, h⟩ := bs h fun _ => r06_P_Expr_ok
       obtain rfl := Option.some.inj h
       exact rr 25 [(1, .br false), (2, .reg [(1, cl [0] h2)] []), (3, .reg [(1, cl [0] h3)] []), (4, .br false), (5, .reg [(1, cl [0] h5)] []), (6, .br true), (7, .reg [(1, cl [0] h7)] []), (8, .reg [(1, cl [0] h8)] []), (9, .reg [(1, cl [0] h9)] [(2, .one (.own 6 (Row.rows (α := Expr) [r10]) 244))])] [] [(0, 0)] 1 [pf (bf h1), pf h2, pf h3, pf (bf h4), pf h5, pf (bt h6), pf h7, pf h8, pf h9, @pf (BldP (α := Expr) [r10] 244) (bldP _ _)]
     · obtain rfl := Option.some.inj h
       exact rr 21 [(1, .br false), (2, .reg [(1, cl [0] h2)] []), (3, .reg [(1, cl [0] h3)] []), (4, .br false), (5, .reg [(1, cl [0] h5)] []), (6, .br false)] [] [(0, 0)] 1 [pf (bf h1), pf h2, pf h3, pf (bf h4), pf h5, pf (bf h6)]
theorem ok_r06_P_table_l1 : ∀ m, Ok_r06_P_table_l1 m
 | 0 => ⟨(fun h => nomatch (show none = some _ from h))⟩
 | m + 1 => ⟨r06_P_table_l1_okb (ok_r06_P_table_l1 m)⟩
theorem r06_P_table_l1_ok {k : Nat} : Sd5 (r06_P_table_l1 k) r06_P_table_l1_J := (ok_r06_P_table_l1 k).r06_P_table_l1

noncomputable def r06_P_table (k : Nat) (a0 : PT) : Option (PT × Table) :=
 (r06_P_name k a0).bind fun (r1, r2) =>
 (r06_P_must r1 s_rows).bind fun r3 =>
 (r06_P_name k r3).bind fun (r4, r5) =>
 (r06_P_must r4 s_x28).bind fun r6 =>
 r06_P_table_l1 k r6 r2 r5 [] true
theorem r06_P_table_ok {k : Nat} : Sd1 (r06_P_table k) r06_P_table_J := by
 intro a0 r h
 unfold r06_P_table at h
 refine ent (c := bodyOf f74) func74 rfl rfl rfl fun cx => ?_
 obtain ⟨⟨r1, r2⟩, h1, h⟩ := bs h fun _ => r06_P_name_ok
 obtain ⟨r3, h2, h⟩ := bs h fun _ => r06_P_must_ok
 obtain ⟨⟨r4, r5⟩, h3, h⟩ := bs h fun _ => r06_P_name_ok
 obtain ⟨r6, h4, h⟩ := bs h fun _ => r06_P_must_ok
 exact tt 15 [(1, .reg [(1, cl [0] h1)] []), (2, .reg [(1, cl [0] h2)] []), (3, .reg [(1, cl [0] h3)] []), (4, .reg [(1, cl [0] h4)] [])] [.cellOwn 65 2 241 101] [0, 2, 3, 4] [(0, 0), (1, 1), (65, 2), (241, 3)] 4 [pf h1, pf h2, pf h3, pf h4] (r06_P_table_l1_ok h cx)

noncomputable def r06_P_Schema_O (a0 : PT) (a1 : Schema) : List O := [.var 74 (ca a0)]
noncomputable def r06_P_Schema_V (a0 : PT) (a1 : Schema) : V := .agg (ca a1)
noncomputable def r06_P_Schema_J (a0 : PT) (r : (PT × Schema)) : Prop := Has prog 40 [.one (.ptr 0 0)] [.var 74 (ca a0)] (r06_P_Schema_O r.1 r.2) (r06_P_Schema_V r.1 r.2)
noncomputable def r06_P_Schema_l4_K : List Item := stackAt (bodyOf f40) [1, 1, 0, 0, 0, 1, 0, 0, 1, 1, 1, 0, 1, 1, 0, 0] []
noncomputable def r06_P_Schema_l4_S (a0 : PT) (a1 : List Str) (a2 : List Pair) (a3 : List Table) (a4 a5 : List Pair) (a6 : Int) (a7 : Str) (a8 : Bool) : St := ⟨[(0, .one (.ptr 0 0)), (2, .one (.ptr 1 0)), (3, .one (.ptr 2 0)), (4, .one (.str a7)), (5, .one (.bool a8))], [(0, .var 74 (ca a0)), (1, .var 58 [.nil 1, .nil 2, .nil 6, .nil 2, .nil 2, .int .i64 0]), (2, .var 58 [.own 1 (Row.rows (α := Str) a1) 3, .own 2 (Row.rows (α := Pair) a2) 4, .own 6 (Row.rows (α := Table) a3) 5, .own 2 (Row.rows (α := Pair) a4) 6, .own 2 (Row.rows (α := Pair) a5) 7, .int .i64 a6]), (3, .row 9 1), (4, .row 126 2), (5, .row 99 6), (6, .row 126 2), (7, .row 126 2)], 8, 102, 1⟩
noncomputable def r06_P_Schema_l4_J (a0 : PT) (a1 : List Str) (a2 : List Pair) (a3 : List Table) (a4 a5 : List Pair) (a6 : Int) (a7 : Str) (a8 : Bool) (r : (PT × Schema)) : Prop := ∀ cx : Cx, AK prog cx r06_P_Schema_l4_K (r06_P_Schema_l4_S a0 a1 a2 a3 a4 a5 a6 a7 a8) (Fin lay f40.results.toList 1 fun o v => o = r06_P_Schema_O r.1 r.2 ∧ v = r06_P_Schema_V r.1 r.2)
noncomputable def r06_P_Schema_j3_K : List Item := stackAt (bodyOf f40) [1, 1, 0, 0, 0, 1, 0, 1] []
noncomputable def r06_P_Schema_j3_S (a0 : PT) (a1 : List Str) (a2 : List Pair) (a3 : List Table) (a4 a5 : List Pair) (a6 : Int) : St := ⟨[(0, .one (.ptr 0 0)), (2, .one (.ptr 1 0)), (3, .one (.ptr 2 0))], [(0, .var 74 (ca a0)), (1, .var 58 [.nil 1, .nil 2, .nil 6, .nil 2, .nil 2, .int .i64 0]), (2, .var 58 [.own 1 (Row.rows (α := Str) a1) 3, .own 2 (Row.rows (α := Pair) a2) 4, .own 6 (Row.rows (α := Table) a3) 5, .own 2 (Row.rows (α := Pair) a4) 6, .own 2 (Row.rows (α := Pair) a5) 7, .int .i64 a6]), (3, .row 9 1), (4, .row 126 2), (5, .row 99 6), (6, .row 126 2), (7, .row 126 2)], 8, 102, 1⟩
noncomputable def r06_P_Schema_j3_J (a0 : PT) (a1 : List Str) (a2 : List Pair) (a3 : List Table) (a4 a5 : List Pair) (a6 : Int) (r : (PT × Schema)) : Prop := ∀ cx : Cx, AK prog cx r06_P_Schema_j3_K (r06_P_Schema_j3_S a0 a1 a2 a3 a4 a5 a6) (Fin lay f40.results.toList 1 fun o v => o = r06_P_Schema_O r.1 r.2 ∧ v = r06_P_Schema_V r.1 r.2)
noncomputable def r06_P_Schema_j2_K : List Item := stackAt (bodyOf f40) [1, 1, 0, 0, 0, 0, 1] []
noncomputable def r06_P_Schema_j2_S (a0 : PT) (a1 : List Str) (a2 : List Pair) (a3 : List Table) (a4 a5 : List Pair) (a6 : Int) (a7 : Bool) : St := ⟨[(0, .one (.ptr 0 0)), (2, .one (.ptr 1 0)), (3, .one (.ptr 2 0)), (28, .one (.bool a7))], [(0, .var 74 (ca a0)), (1, .var 58 [.nil 1, .nil 2, .nil 6, .nil 2, .nil 2, .int .i64 0]), (2, .var 58 [.own 1 (Row.rows (α := Str) a1) 3, .own 2 (Row.rows (α := Pair) a2) 4, .own 6 (Row.rows (α := Table) a3) 5, .own 2 (Row.rows (α := Pair) a4) 6, .own 2 (Row.rows (α := Pair) a5) 7, .int .i64 a6]), (3, .row 9 1), (4, .row 126 2), (5, .row 99 6), (6, .row 126 2), (7, .row 126 2)], 8, 102, 1⟩
noncomputable def r06_P_Schema_j2_J (a0 : PT) (a1 : List Str) (a2 : List Pair) (a3 : List Table) (a4 a5 : List Pair) (a6 : Int) (a7 : Bool) (r : (PT × Schema)) : Prop := ∀ cx : Cx, AK prog cx r06_P_Schema_j2_K (r06_P_Schema_j2_S a0 a1 a2 a3 a4 a5 a6 a7) (Fin lay f40.results.toList 1 fun o v => o = r06_P_Schema_O r.1 r.2 ∧ v = r06_P_Schema_V r.1 r.2)
noncomputable def r06_P_Schema_l1_K : List Item := stackAt (bodyOf f40) [1, 1, 0, 0, 0] []
noncomputable def r06_P_Schema_l1_S (a0 : PT) (a1 : List Str) (a2 : List Pair) (a3 : List Table) (a4 a5 : List Pair) (a6 : Int) : St := ⟨[(0, .one (.ptr 0 0)), (2, .one (.ptr 1 0)), (3, .one (.ptr 2 0))], [(0, .var 74 (ca a0)), (1, .var 58 [.nil 1, .nil 2, .nil 6, .nil 2, .nil 2, .int .i64 0]), (2, .var 58 [.own 1 (Row.rows (α := Str) a1) 3, .own 2 (Row.rows (α := Pair) a2) 4, .own 6 (Row.rows (α := Table) a3) 5, .own 2 (Row.rows (α := Pair) a4) 6, .own 2 (Row.rows (α := Pair) a5) 7, .int .i64 a6]), (3, .row 9 1), (4, .row 126 2), (5, .row 99 6), (6, .row 126 2), (7, .row 126 2)], 8, 102, 1⟩
noncomputable def r06_P_Schema_l1_J (a0 : PT) (a1 : List Str) (a2 : List Pair) (a3 : List Table) (a4 a5 : List Pair) (a6 : Int) (r : (PT × Schema)) : Prop := ∀ cx : Cx, AK prog cx r06_P_Schema_l1_K (r06_P_Schema_l1_S a0 a1 a2 a3 a4 a5 a6) (Fin lay f40.results.toList 1 fun o v => o = r06_P_Schema_O r.1 r.2 ∧ v = r06_P_Schema_V r.1 r.2)
structure Tab_r06_P_Schema_j2 where
 k : Nat
 r06_P_Schema_l1 : PT → (List Str) → (List Pair) → (List Table) → (List Pair) → (List Pair) → Int → Option (PT × Schema)
 r06_P_Schema_l4 : PT → (List Str) → (List Pair) → (List Table) → (List Pair) → (List Pair) → Int → Str → Bool → Option (PT × Schema)
noncomputable def r06_P_Schema_j3_b (T : Tab_r06_P_Schema_j2) (a0 : PT) (a1 : List Str) (a2 : List Pair) (a3 : List Table) (a4 a5 : List Pair) (a6 : Int) : Option (PT × Schema) :=
 (r06_P_must a0 s_x3b).bind fun r1 =>
 T.r06_P_Schema_l1 r1 a1 a2 a3 a4 a5 a6
noncomputable def r06_P_Schema_j2_b (T : Tab_r06_P_Schema_j2) (a0 : PT) (a1 : List Str) (a2 : List Pair) (a3 : List Table) (a4 a5 : List Pair) (a6 : Int) (a7 : Bool) : Option (PT × Schema) :=
 if a7 = true then (
  (r06_P_take a0 s_levels).bind fun (r1, r2) =>
  if r2 = true then (
   (r06_P_names T.k r1).bind fun (r3, r4) =>
   chk (CapOk 16 a1 r4) <|
   r06_P_Schema_j3_b T r3 (a1 ++ r4) a2 a3 a4 a5 a6
  ) else (
   (r06_P_take r1 s_order).bind fun (r3, r4) =>
   if r4 = true then (
    (r06_P_name T.k r3).bind fun (r5, r6) =>
    T.r06_P_Schema_l4 r5 a1 a2 a3 a4 a5 a6 r6 true
   ) else (
    (r06_P_take r3 s_table).bind fun (r5, r6) =>
    if r6 = true then (
     (r06_P_table T.k r5).bind fun (r7, r8) =>
     chk (CapOk 120 a3 [r8]) <|
     r06_P_Schema_j3_b T r7 a1 a2 (a3 ++ [r8]) a4 a5 a6
    ) else (
     (r06_P_take r5 s_channel).bind fun (r7, r8) =>
     if r8 = true then (
      (r06_P_name T.k r7).bind fun (r9, r10) =>
      (r06_P_name T.k r9).bind fun (r11, r12) =>
      chk (CapOk 32 a4 [(Pair.mk r10 r12)]) <|
      r06_P_Schema_j3_b T r11 a1 a2 a3 (a4 ++ [(Pair.mk r10 r12)]) a5 a6
     ) else (
      (r06_P_take r7 s_principal).bind fun (r9, r10) =>
      if r10 = true then (
       (r06_P_name T.k r9).bind fun (r11, r12) =>
       (r06_P_name T.k r11).bind fun (r13, r14) =>
       chk (CapOk 32 a5 [(Pair.mk r12 r14)]) <|
       r06_P_Schema_j3_b T r13 a1 a2 a3 a4 (a5 ++ [(Pair.mk r12 r14)]) a6
      ) else (
       (r06_P_take r9 s_limit).bind fun (r11, r12) =>
       if r12 = true then (
        (r06_P_int r11).bind fun (r13, r14) =>
        r06_P_Schema_j3_b T r13 a1 a2 a3 a4 a5 r14
       ) else (
        (r06_P_bad r11 10).bind fun r13 =>
        r06_P_Schema_j3_b T r13 a1 a2 a3 a4 a5 a6
       )
      )
     )
    )
   )
  )
 ) else (
  some (a0, (Schema.mk a1 a2 a3 a4 a5 a6))
 )
noncomputable def r06_P_Schema_l1_b (T : Tab_r06_P_Schema_j2) (a0 : PT) (a1 : List Str) (a2 : List Pair) (a3 : List Table) (a4 a5 : List Pair) (a6 : Int) : Option (PT × Schema) :=
 if a0.E = 0 then (
  (idx a0.T a0.I).bind fun x1 =>
  r06_P_Schema_j2_b T a0 a1 a2 a3 a4 a5 a6 (!(decide (x1.Kind = 0)))
 ) else (
  r06_P_Schema_j2_b T a0 a1 a2 a3 a4 a5 a6 false
 )
noncomputable def r06_P_Schema_l4_b (T : Tab_r06_P_Schema_j2) (a0 : PT) (a1 : List Str) (a2 : List Pair) (a3 : List Table) (a4 a5 : List Pair) (a6 : Int) (a7 : Str) (a8 : Bool) : Option (PT × Schema) :=
 if a8 = true then (
  (r06_P_must a0 s_x3c).bind fun r1 =>
  (r06_P_name T.k r1).bind fun (r2, r3) =>
  chk (CapOk 32 a2 [(Pair.mk a7 r3)]) <|
  (r06_P_is r2 s_x3c).bind fun r4 =>
  T.r06_P_Schema_l4 r2 a1 (a2 ++ [(Pair.mk a7 r3)]) a3 a4 a5 a6 r3 r4
 ) else (
  r06_P_Schema_j3_b T a0 a1 a2 a3 a4 a5 a6
 )
noncomputable def tab_r06_P_Schema_j2 : Nat → Tab_r06_P_Schema_j2
 | 0 => ⟨0, fun _ _ _ _ _ _ _ => none, fun _ _ _ _ _ _ _ _ _ => none⟩
 | k + 1 => ⟨k + 1, r06_P_Schema_l1_b (tab_r06_P_Schema_j2 k), r06_P_Schema_l4_b (tab_r06_P_Schema_j2 k)⟩
noncomputable def r06_P_Schema_l1 (k : Nat) := (tab_r06_P_Schema_j2 k).r06_P_Schema_l1
noncomputable def r06_P_Schema_l4 (k : Nat) := (tab_r06_P_Schema_j2 k).r06_P_Schema_l4
structure Ok_r06_P_Schema_j2 (m : Nat) : Prop where
 r06_P_Schema_l1 : Sd7 (tab_r06_P_Schema_j2 m).r06_P_Schema_l1 r06_P_Schema_l1_J
 r06_P_Schema_l4 : Sd9 (tab_r06_P_Schema_j2 m).r06_P_Schema_l4 r06_P_Schema_l4_J
theorem r06_P_Schema_j3_okb {m : Nat} (ih : Ok_r06_P_Schema_j2 m) : Sd7 (r06_P_Schema_j3_b (tab_r06_P_Schema_j2 m)) r06_P_Schema_j3_J := by
 intro a0 a1 a2 a3 a4 a5 a6 r h cx
 unfold r06_P_Schema_j3_b at h
 obtain ⟨r1, h1, h⟩ := bs h fun _ => r06_P_must_ok
 exact tt 3 [(0, .reg [(1, cl [0] h1)] [])] [] [0, 2, 3] [(0, 0), (1, 1), (2, 2), (3, 3), (4, 4), (5, 5), (6, 6), (7, 7)] 8 [pf h1] (ih.r06_P_Schema_l1 h cx)
theorem r06_P_Schema_j2_okb {m : Nat} (ih : Ok_r06_P_Schema_j2 m) : Sd8 (r06_P_Schema_j2_b (tab_r06_P_Schema_j2 m)) r06_P_Schema_j2_J := by
 intro a0 a1 a2 a3 a4 a5 a6 a7 r h cx
 unfold r06_P_Schema_j2_b at h
 obtain ⟨h1, h⟩ | ⟨h1, h⟩ := ite_some h
 · obtain ⟨⟨r1, r2⟩, h2, h⟩ := bs h fun _ => r06_P_take_ok
   obtain ⟨h3, h⟩ | ⟨h3, h⟩ := ite_some h
   · obtain ⟨⟨r3, r4⟩, h4, h⟩ := bs h fun _ => r06_P_names_ok
     obtain ⟨h5, h⟩ := chk_some h
     exact tt 8 [(0, .br true), (1, .reg [(1, cl [0] h2)] []), (2, .br true), (3, .reg [(3, cl [0] h4)] [(4, .one (.own 1 (Row.rows (α := Str) (a1 ++ r4)) 104))])] [] [0, 2, 3] [(0, 0), (1, 1), (2, 2), (104, 3), (4, 4), (5, 5), (6, 6), (7, 7)] 8 [pf (bt h1), pf h2, pf (bt h3), pf h4, @pf (AppP (α := Str) a1 r4 104) (appP _ _ _), pf (cap1 h5), pf (cap2 h5)] (r06_P_Schema_j3_okb ih h cx)
   · obtain ⟨⟨r3, r4⟩, h4, h⟩ := bs h fun _ => r06_P_take_ok
     obtain ⟨h5, h⟩ | ⟨h5, h⟩ := ite_some h
     · obtain ⟨⟨r5, r6⟩, h6, h⟩ := bs h fun _ => r06_P_name_ok
       exact tt 16 [(0, .br true), (1, .reg [(1, cl [0] h2)] []), (2, .br false), (3, .reg [(1, cl [0] h4)] []), (4, .br true), (5, .reg [(1, cl [0] h6)] [])] [] [0, 2, 3, 4, 5] [(0, 0), (1, 1), (2, 2), (3, 3), (4, 4), (5, 5), (6, 6), (7, 7)] 8 [pf (bt h1), pf h2, pf (bf h3), pf h4, pf (bt h5), pf h6] (ih.r06_P_Schema_l4 h cx)
     · obtain ⟨⟨r5, r6⟩, h6, h⟩ := bs h fun _ => r06_P_take_ok
       obtain ⟨h7, h⟩ | ⟨h7, h⟩ := ite_some h
       · obtain ⟨⟨r7, r8⟩, h8, h⟩ := bs h fun _ => r06_P_table_ok
         obtain ⟨h9, h⟩ := chk_some h
         exact tt 14 [(0, .br true), (1, .reg [(1, cl [0] h2)] []), (2, .br false), (3, .reg [(1, cl [0] h4)] []), (4, .br false), (5, .reg [(1, cl [0] h6)] []), (6, .br true), (7, .reg [(3, cl [0] h8)] [(4, .one (.own 6 (Row.rows (α := Table) [r8]) 168)), (5, .one (.own 6 (Row.rows (α := Table) (a3 ++ [r8])) 184))])] [] [0, 2, 3] [(0, 0), (1, 1), (2, 2), (3, 3), (4, 4), (184, 5), (6, 6), (7, 7)] 8 [pf (bt h1), pf h2, pf (bf h3), pf h4, pf (bf h5), pf h6, pf (bt h7), pf h8, @pf (BldP (α := Table) [r8] 168) (bldP _ _), @pf (AppP (α := Table) a3 [r8] 184) (appP _ _ _), pf (cap1 h9), pf (cap2 h9)] (r06_P_Schema_j3_okb ih h cx)
       · obtain ⟨⟨r7, r8⟩, h8, h⟩ := bs h fun _ => r06_P_take_ok
         obtain ⟨h9, h⟩ | ⟨h9, h⟩ := ite_some h
         · obtain ⟨⟨r9, r10⟩, h10, h⟩ := bs h fun _ => r06_P_name_ok
           obtain ⟨⟨r11, r12⟩, h11, h⟩ := bs h fun _ => r06_P_name_ok
           obtain ⟨h12, h⟩ := chk_some h
           exact tt 19 [(0, .br true), (1, .reg [(1, cl [0] h2)] []), (2, .br false), (3, .reg [(1, cl [0] h4)] []), (4, .br false), (5, .reg [(1, cl [0] h6)] []), (6, .br false), (7, .reg [(1, cl [0] h8)] []), (8, .br true), (9, .reg [(1, cl [0] h10)] []), (10, .reg [(4, cl [0] h11)] [(6, .one (.own 2 (Row.rows (α := Pair) [(Pair.mk r10 r12)]) 280)), (7, .one (.own 2 (Row.rows (α := Pair) (a4 ++ [(Pair.mk r10 r12)])) 296))])] [] [0, 2, 3] [(0, 0), (1, 1), (2, 2), (3, 3), (4, 4), (5, 5), (296, 6), (7, 7)] 8 [pf (bt h1), pf h2, pf (bf h3), pf h4, pf (bf h5), pf h6, pf (bf h7), pf h8, pf (bt h9), pf h10, pf h11, @pf (BldP (α := Pair) [(Pair.mk r10 r12)] 280) (bldP _ _), @pf (AppP (α := Pair) a4 [(Pair.mk r10 r12)] 296) (appP _ _ _), pf (cap1 h12), pf (cap2 h12)] (r06_P_Schema_j3_okb ih h cx)
         · obtain ⟨⟨r9, r10⟩, h10, h⟩ := bs h fun _ => r06_P_take_ok
           obtain ⟨h11, h⟩ | ⟨h11, h⟩ := ite_some h
           · obtain ⟨⟨r11, r12⟩, h12, h⟩ := bs h fun _ => r06_P_name_ok
             obtain ⟨⟨r13, r14⟩, h13, h⟩ := bs h fun _ => r06_P_name_ok
             obtain ⟨h14, h⟩ := chk_some h
             exact tt 22 [(0, .br true), (1, .reg [(1, cl [0] h2)] []), (2, .br false), (3, .reg [(1, cl [0] h4)] []), (4, .br false), (5, .reg [(1, cl [0] h6)] []), (6, .br false), (7, .reg [(1, cl [0] h8)] []), (8, .br false), (9, .reg [(1, cl [0] h10)] []), (10, .br true), (11, .reg [(1, cl [0] h12)] []), (12, .reg [(4, cl [0] h13)] [(6, .one (.own 2 (Row.rows (α := Pair) [(Pair.mk r12 r14)]) 312)), (7, .one (.own 2 (Row.rows (α := Pair) (a5 ++ [(Pair.mk r12 r14)])) 328))])] [] [0, 2, 3] [(0, 0), (1, 1), (2, 2), (3, 3), (4, 4), (5, 5), (6, 6), (328, 7)] 8 [pf (bt h1), pf h2, pf (bf h3), pf h4, pf (bf h5), pf h6, pf (bf h7), pf h8, pf (bf h9), pf h10, pf (bt h11), pf h12, pf h13, @pf (BldP (α := Pair) [(Pair.mk r12 r14)] 312) (bldP _ _), @pf (AppP (α := Pair) a5 [(Pair.mk r12 r14)] 328) (appP _ _ _), pf (cap1 h14), pf (cap2 h14)] (r06_P_Schema_j3_okb ih h cx)
           · obtain ⟨⟨r11, r12⟩, h12, h⟩ := bs h fun _ => r06_P_take_ok
             obtain ⟨h13, h⟩ | ⟨h13, h⟩ := ite_some h
             · obtain ⟨⟨r13, r14⟩, h14, h⟩ := bs h fun _ => r06_P_int_ok
               exact tt 23 [(0, .br true), (1, .reg [(1, cl [0] h2)] []), (2, .br false), (3, .reg [(1, cl [0] h4)] []), (4, .br false), (5, .reg [(1, cl [0] h6)] []), (6, .br false), (7, .reg [(1, cl [0] h8)] []), (8, .br false), (9, .reg [(1, cl [0] h10)] []), (10, .br false), (11, .reg [(1, cl [0] h12)] []), (12, .br true), (13, .reg [(1, cl [0] h14)] [])] [] [0, 2, 3] [(0, 0), (1, 1), (2, 2), (3, 3), (4, 4), (5, 5), (6, 6), (7, 7)] 8 [pf (bt h1), pf h2, pf (bf h3), pf h4, pf (bf h5), pf h6, pf (bf h7), pf h8, pf (bf h9), pf h10, pf (bf h11), pf h12, pf (bt h13), pf h14] (r06_P_Schema_j3_okb ih h cx)
             · obtain ⟨r13, h14, h⟩ := bs h fun _ => r06_P_bad_ok
               exact tt 23 [(0, .br true), (1, .reg [(1, cl [0] h2)] []), (2, .br false), (3, .reg [(1, cl [0] h4)] []), (4, .br false), (5, .reg [(1, cl [0] h6)] []), (6, .br false), (7, .reg [(1, cl [0] h8)] []), (8, .br false), (9, .reg [(1, cl [0] h10)] []), (10, .br false), (11, .reg [(1, cl [0] h12)] []), (12, .br false), (13, .reg [(1, cl [0] h14)] [])] [] [0, 2, 3] [(0, 0), (1, 1), (2, 2), (3, 3), (4, 4), (5, 5), (6, 6), (7, 7)] 8 [pf (bt h1), pf h2, pf (bf h3), pf h4, pf (bf h5), pf h6, pf (bf h7), pf h8, pf (bf h9), pf h10, pf (bf h11), pf h12, pf (bf h13), pf h14] (r06_P_Schema_j3_okb ih h cx)
 · obtain rfl := Option.some.inj h
   exact rr 6 [(0, .br false)] [] [(0, 0)] 1 [pf (bf h1)]
theorem r06_P_Schema_l1_okb {m : Nat} (ih : Ok_r06_P_Schema_j2 m) : Sd7 (r06_P_Schema_l1_b (tab_r06_P_Schema_j2 m)) r06_P_Schema_l1_J := by
 intro a0 a1 a2 a3 a4 a5 a6 r h cx
 unfold r06_P_Schema_l1_b at h
 obtain ⟨h1, h⟩ | ⟨h1, h⟩ := ite_some h
 · obtain ⟨x1, h2, h⟩ := bind_some h
   exact tt 3 [(0, .reg [(16, .row (Row.cells x1))] [(5, .bool true)])] [] [0, 2, 3, 28] [(0, 0), (1, 1), (2, 2), (3, 3), (4, 4), (5, 5), (6, 6), (7, 7)] 8 [pf (dt h1), pf (inP h2), pf (atP h2)] (r06_P_Schema_j2_okb ih h cx)
 · exact tt 3 [(0, .reg [] [(5, .bool false)])] [] [0, 2, 3, 28] [(0, 0), (1, 1), (2, 2), (3, 3), (4, 4), (5, 5), (6, 6), (7, 7)] 8 [pf (df h1)] (r06_P_Schema_j2_okb ih h cx)
theorem r06_P_Schema_l4_okb {m : Nat} (ih : Ok_r06_P_Schema_j2 m) : Sd9 (r06_P_Schema_l4_b (tab_r06_P_Schema_j2 m)) r06_P_Schema_l4_J := by
 intro a0 a1 a2 a3 a4 a5 a6 a7 a8 r h cx
 unfold r06_P_Schema_l4_b at h
 obtain ⟨h1, h⟩ | ⟨h1, h⟩ := ite_some h
 · obtain ⟨r1, h2, h⟩ := bs h fun _ => r06_P_must_ok
   obtain ⟨⟨r2, r3⟩, h3, h⟩ := bs h fun _ => r06_P_name_ok
   obtain ⟨h4, h⟩ := chk_some h
   obtain ⟨r4, h5, h⟩ := bs h fun _ => r06_P_is_ok
   exact tt 17 [(1, .br true), (2, .reg [(1, cl [0] h2)] []), (3, .reg [(1, cl [0] h3)] []), (4, .reg [] [(5, .one (.own 2 (Row.rows (α := Pair) [(Pair.mk a7 r3)]) 184)), (6, .one (.own 2 (Row.rows (α := Pair) (a2 ++ [(Pair.mk a7 r3)])) 200))]), (6, .reg [(1, cl [0] h5 [0])] [])] [] [0, 2, 3, 4, 5] [(0, 0), (1, 1), (2, 2), (3, 3), (200, 4), (5, 5), (6, 6), (7, 7)] 8 [pf (bt h1), pf h2, pf h3, @pf (BldP (α := Pair) [(Pair.mk a7 r3)] 184) (bldP _ _), @pf (AppP (α := Pair) a2 [(Pair.mk a7 r3)] 200) (appP _ _ _), pf (cap1 h4), pf (cap2 h4), pf h5, @pf (SameO (.var 74 (ca r2))) rfl] (ih.r06_P_Schema_l4 h cx)
 · exact tt 5 [(1, .br false)] [] [0, 2, 3] [(0, 0), (1, 1), (2, 2), (3, 3), (4, 4), (5, 5), (6, 6), (7, 7)] 8 [pf (bf h1)] (r06_P_Schema_j3_okb ih h cx)
theorem ok_r06_P_Schema_j2 : ∀ m, Ok_r06_P_Schema_j2 m
 | 0 => ⟨(fun h => nomatch (show none = some _ from h)), (fun h => nomatch (show none = some _ from h))⟩
 | m + 1 => ⟨r06_P_Schema_l1_okb (ok_r06_P_Schema_j2 m), r06_P_Schema_l4_okb (ok_r06_P_Schema_j2 m)⟩
theorem r06_P_Schema_l1_ok {k : Nat} : Sd7 (r06_P_Schema_l1 k) r06_P_Schema_l1_J := (ok_r06_P_Schema_j2 k).r06_P_Schema_l1
theorem r06_P_Schema_l4_ok {k : Nat} : Sd9 (r06_P_Schema_l4 k) r06_P_Schema_l4_J := (ok_r06_P_Schema_j2 k).r06_P_Schema_l4

noncomputable def r06_P_Schema (k : Nat) (a0 : PT) : Option (PT × Schema) :=
 r06_P_Schema_l1 k a0 [] [] [] [] [] 0
theorem r06_P_Schema_ok {k : Nat} : Sd1 (r06_P_Schema k) r06_P_Schema_J := by
 intro a0 r h
 unfold r06_P_Schema at h
 refine ent (c := bodyOf f40) func40 rfl rfl rfl fun cx => ?_
 exact tt 7 [] [.cellOwn 33 0 65 9, .cellOwn 33 1 66 126, .cellOwn 33 2 67 99, .cellOwn 33 3 68 126, .cellOwn 33 4 69 126] [0, 2, 3] [(0, 0), (1, 1), (33, 2), (65, 3), (66, 4), (67, 5), (68, 6), (69, 7)] 8 [] (r06_P_Schema_l1_ok h cx)

noncomputable def r06_Schema_O (a0 : Schema) (a1 a2 : Int) : List O := []
noncomputable def r06_Schema_V (a0 : Schema) (a1 a2 : Int) : V := .tup [.agg (ca a0), .one (.int .i64 a1), .one (.int .i64 a2)]
noncomputable def r06_Schema_J (a0 : Str) (r : (Schema × Int × Int)) : Prop := Has prog 18 [.one (.str a0)] [] (r06_Schema_O r.1 r.2.1 r.2.2) (r06_Schema_V r.1 r.2.1 r.2.2)
noncomputable def r06_Schema (k : Nat) (a0 : Str) : Option (Schema × Int × Int) :=
 (r06_New k a0 1).bind fun r1 =>
 if r1.E = 0 then (
  (r06_P_Schema k r1).bind fun (r2, r3) =>
  (r06_P_End r2).bind fun (r4, r5, r6) =>
  if r6 = 0 then (
   some (r3, r5, r6)
  ) else (
   some ((Schema.mk [] [] [] [] [] 0), r5, r6)
  )
 ) else (
  some ((Schema.mk [] [] [] [] [] 0), r1.At, r1.E)
 )
theorem r06_Schema_ok {k : Nat} : Sd1 (r06_Schema k) r06_Schema_J := by
 intro a0 r h
 unfold r06_Schema at h
 refine ent (c := bodyOf f18) func18 rfl rfl rfl fun cx => ?_
 obtain ⟨r1, h1, h⟩ := bs h fun _ => r06_New_ok
 obtain ⟨h2, h⟩ | ⟨h2, h⟩ := ite_some h
 · obtain ⟨⟨r2, r3⟩, h3, h⟩ := bs h fun _ => r06_P_Schema_ok
   obtain ⟨⟨r4, r5, r6⟩, h4, h⟩ := bs h fun _ => r06_P_End_ok
   obtain ⟨h5, h⟩ | ⟨h5, h⟩ := ite_some h
   · obtain rfl := Option.some.inj h
     exact rr 22 [(1, .reg [(1, cl [] h1)] []), (3, .br false), (4, .reg [(1, cl [64] h3)] []), (5, .reg [(1, cl [64] h4)] []), (7, .br false)] [] [] 0 [pf h1, pf (ndf h2), pf h3, pf h4, pf (ndf h5)]
   · obtain rfl := Option.some.inj h
     exact rr 22 [(1, .reg [(1, cl [] h1)] []), (3, .br false), (4, .reg [(1, cl [64] h3)] []), (5, .reg [(1, cl [64] h4)] []), (7, .br true)] [] [] 0 [pf h1, pf (ndf h2), pf h3, pf h4, pf (ndt h5)]
 · obtain rfl := Option.some.inj h
   exact rr 12 [(1, .reg [(1, cl [] h1)] []), (3, .br true)] [] [] 0 [pf h1, pf (ndt h2)]

noncomputable def sp_edges_O (a0 : Parser) (a1 : List Pair) : List O := [.var 105 (ca a0)]
noncomputable def sp_edges_V (a0 : Parser) (a1 : List Pair) : V := .one (.c (.sl 2 (Row.rows (α := Pair) a1)))
noncomputable def sp_edges_J (a0 : Parser) (r : (Parser × (List Pair))) : Prop := Has prog 67 [.one (.ptr 0 0)] [.var 105 (ca a0)] (sp_edges_O r.1 r.2) (sp_edges_V r.1 r.2)
noncomputable def sp_edges_l1_K : List Item := stackAt (bodyOf f67) [1, 1, 1, 0, 1, 0, 0] []
noncomputable def sp_edges_l1_S (a0 : Parser) (a1 : Str) (a2 : List Pair) (a3 : Bool) : St := ⟨[(0, .one (.ptr 0 0)), (3, .one (.str a1)), (4, .one (.own 2 (Row.rows (α := Pair) a2) 1)), (5, .one (.bool a3))], [(0, .var 105 (ca a0)), (1, .row 126 2)], 2, 24, 1⟩
noncomputable def sp_edges_l1_J (a0 : Parser) (a1 : Str) (a2 : List Pair) (a3 : Bool) (r : (Parser × (List Pair))) : Prop := ∀ cx : Cx, AK prog cx sp_edges_l1_K (sp_edges_l1_S a0 a1 a2 a3) (Fin lay f67.results.toList 1 fun o v => o = sp_edges_O r.1 r.2 ∧ v = sp_edges_V r.1 r.2)
structure Tab_sp_edges_l1 where
 k : Nat
 sp_edges_l1 : Parser → Str → (List Pair) → Bool → Option (Parser × (List Pair))
noncomputable def sp_edges_l1_b (T : Tab_sp_edges_l1) (a0 : Parser) (a1 : Str) (a2 : List Pair) (a3 : Bool) : Option (Parser × (List Pair)) :=
 if a3 = true then (
  (sp_need a0 s_x3c).bind fun r1 =>
  (sp_name r1).bind fun (r2, r3) =>
  chk (CapOk 32 a2 [(Pair.mk a1 r3)]) <|
  (sp_sees r2 4 s_x3c).bind fun r4 =>
  T.sp_edges_l1 r2 r3 (a2 ++ [(Pair.mk a1 r3)]) r4
 ) else (
  some (a0, a2)
 )
noncomputable def tab_sp_edges_l1 : Nat → Tab_sp_edges_l1
 | 0 => ⟨0, fun _ _ _ _ => none⟩
 | k + 1 => ⟨k + 1, sp_edges_l1_b (tab_sp_edges_l1 k)⟩
noncomputable def sp_edges_l1 (k : Nat) := (tab_sp_edges_l1 k).sp_edges_l1
structure Ok_sp_edges_l1 (m : Nat) : Prop where
 sp_edges_l1 : Sd4 (tab_sp_edges_l1 m).sp_edges_l1 sp_edges_l1_J
theorem sp_edges_l1_okb {m : Nat} (ih : Ok_sp_edges_l1 m) : Sd4 (sp_edges_l1_b (tab_sp_edges_l1 m)) sp_edges_l1_J := by
 intro a0 a1 a2 a3 r h cx
 unfold sp_edges_l1_b at h
 obtain ⟨h1, h⟩ | ⟨h1, h⟩ := ite_some h
 · obtain ⟨r1, h2, h⟩ := bs h fun _ => sp_need_ok
   obtain ⟨⟨r2, r3⟩, h3, h⟩ := bs h fun _ => sp_name_ok
   obtain ⟨h4, h⟩ := chk_some h
   obtain ⟨r4, h5, h⟩ := bs h fun _ => sp_sees_ok
   exact tt 17 [(1, .br true), (2, .reg [(1, cl [0] h2)] []), (3, .reg [(1, cl [0] h3)] []), (4, .reg [] [(4, .one (.own 2 (Row.rows (α := Pair) [(Pair.mk a1 r3)]) 162)), (5, .one (.own 2 (Row.rows (α := Pair) (a2 ++ [(Pair.mk a1 r3)])) 178))]), (6, .reg [(1, cl [0] h5 [0])] [])] [] [0, 3, 4, 5] [(0, 0), (178, 1)] 2 [pf (bt h1), pf h2, pf h3, @pf (BldP (α := Pair) [(Pair.mk a1 r3)] 162) (bldP _ _), @pf (AppP (α := Pair) a2 [(Pair.mk a1 r3)] 178) (appP _ _ _), pf (cap1 h4), pf (cap2 h4), pf h5, @pf (SameO (.var 105 (ca r2))) rfl] (ih.sp_edges_l1 h cx)
 · obtain rfl := Option.some.inj h
   exact rr 9 [(1, .br false)] [] [(0, 0)] 1 [pf (bf h1)]
theorem ok_sp_edges_l1 : ∀ m, Ok_sp_edges_l1 m
 | 0 => ⟨(fun h => nomatch (show none = some _ from h))⟩
 | m + 1 => ⟨sp_edges_l1_okb (ok_sp_edges_l1 m)⟩
theorem sp_edges_l1_ok {k : Nat} : Sd4 (sp_edges_l1 k) sp_edges_l1_J := (ok_sp_edges_l1 k).sp_edges_l1

noncomputable def sp_edges (k : Nat) (a0 : Parser) : Option (Parser × (List Pair)) :=
 (sp_name a0).bind fun (r1, r2) =>
 sp_edges_l1 k r1 r2 [] true
theorem sp_edges_ok {k : Nat} : Sd1 (sp_edges k) sp_edges_J := by
 intro a0 r h
 unfold sp_edges at h
 refine ent (c := bodyOf f67) func67 rfl rfl rfl fun cx => ?_
 obtain ⟨⟨r1, r2⟩, h1, h⟩ := bs h fun _ => sp_name_ok
 exact tt 11 [(1, .reg [(1, cl [0] h1)] [])] [.slotOwn 4 97 126] [0, 3, 4, 5] [(0, 0), (97, 1)] 2 [pf h1] (sp_edges_l1_ok h cx)

noncomputable def sp_pair_O (a0 : Parser) (a1 : Pair) : List O := [.var 105 (ca a0)]
noncomputable def sp_pair_V (a0 : Parser) (a1 : Pair) : V := .agg (ca a1)
noncomputable def sp_pair_J (a0 : Parser) (r : (Parser × Pair)) : Prop := Has prog 69 [.one (.ptr 0 0)] [.var 105 (ca a0)] (sp_pair_O r.1 r.2) (sp_pair_V r.1 r.2)
noncomputable def sp_pair (a0 : Parser) : Option (Parser × Pair) :=
 (sp_name a0).bind fun (r1, r2) =>
 (sp_name r1).bind fun (r3, r4) =>
 some (r3, (Pair.mk r2 r4))
theorem sp_pair_ok : Sd1 sp_pair sp_pair_J := by
 intro a0 r h
 unfold sp_pair at h
 refine ent (c := bodyOf f69) func69 rfl rfl rfl fun cx => ?_
 obtain ⟨⟨r1, r2⟩, h1, h⟩ := bs h fun _ => sp_name_ok
 obtain ⟨⟨r3, r4⟩, h2, h⟩ := bs h fun _ => sp_name_ok
 obtain rfl := Option.some.inj h
 exact rr 8 [(1, .reg [(1, cl [0] h1)] []), (2, .reg [(2, cl [0] h2)] [])] [] [(0, 0)] 1 [pf h1, pf h2]

noncomputable def sp_col_O (a0 : Parser) (a1 : Col) : List O := [.var 105 (ca a0)]
noncomputable def sp_col_V (a0 : Parser) (a1 : Col) : V := .agg (ca a1)
noncomputable def sp_col_J (a0 : Parser) (r : (Parser × Col)) : Prop := Has prog 104 [.one (.ptr 0 0)] [.var 105 (ca a0)] (sp_col_O r.1 r.2) (sp_col_V r.1 r.2)
noncomputable def sp_col (a0 : Parser) : Option (Parser × Col) :=
 (sp_name a0).bind fun (r1, r2) =>
 (sp_typed r1).bind fun (r3, r4) =>
 (sp_word r3 s_null).bind fun (r5, r6) =>
 (sp_name r5).bind fun (r7, r8) =>
 some (r7, (Col.mk r2 r4 r6 r8))
theorem sp_col_ok : Sd1 sp_col sp_col_J := by
 intro a0 r h
 unfold sp_col at h
 refine ent (c := bodyOf f104) func104 rfl rfl rfl fun cx => ?_
 obtain ⟨⟨r1, r2⟩, h1, h⟩ := bs h fun _ => sp_name_ok
 obtain ⟨⟨r3, r4⟩, h2, h⟩ := bs h fun _ => sp_typed_ok
 obtain ⟨⟨r5, r6⟩, h3, h⟩ := bs h fun _ => sp_word_ok
 obtain ⟨⟨r7, r8⟩, h4, h⟩ := bs h fun _ => sp_name_ok
 obtain rfl := Option.some.inj h
 exact rr 14 [(1, .reg [(1, cl [0] h1)] []), (2, .reg [(1, cl [0] h2)] []), (3, .reg [(1, cl [0] h3)] []), (4, .reg [(1, cl [0] h4)] [])] [] [(0, 0)] 1 [pf h1, pf h2, pf h3, pf h4]

noncomputable def syntax_list_l_O (a0 : Parser) (a1 : List Col) : List O := [.var 105 (ca a0)]
noncomputable def syntax_list_l_V (a0 : Parser) (a1 : List Col) : V := .one (.c (.sl 4 (Row.rows (α := Col) a1)))
noncomputable def syntax_list_l_J (a0 : Parser) (r : (Parser × (List Col))) : Prop := Has prog 103 [.one (.ptr 0 0), .one (.fn 104 [.ptr 0 0] [])] [.var 105 (ca a0)] (syntax_list_l_O r.1 r.2) (syntax_list_l_V r.1 r.2)
noncomputable def syntax_list_l_l1_K : List Item := stackAt (bodyOf f103) [1, 1, 0, 0, 0] []
noncomputable def syntax_list_l_l1_S (a0 : Parser) (a1 : List Col) : St := ⟨[(0, .one (.ptr 0 0)), (1, .one (.fn 104 [.ptr 0 0] [])), (5, .one (.own 4 (Row.rows (α := Col) a1) 1))], [(0, .var 105 (ca a0)), (1, .row 101 4)], 2, 17, 1⟩
noncomputable def syntax_list_l_l1_J (a0 : Parser) (a1 : List Col) (r : (Parser × (List Col))) : Prop := ∀ cx : Cx, AK prog cx syntax_list_l_l1_K (syntax_list_l_l1_S a0 a1) (Fin lay f103.results.toList 1 fun o v => o = syntax_list_l_O r.1 r.2 ∧ v = syntax_list_l_V r.1 r.2)
structure Tab_syntax_list_l_l1 where
 k : Nat
 syntax_list_l_l1 : Parser → (List Col) → Option (Parser × (List Col))
noncomputable def syntax_list_l_l1_b (T : Tab_syntax_list_l_l1) (a0 : Parser) (a1 : List Col) : Option (Parser × (List Col)) :=
 (sp_mark a0 s_x2c).bind fun (r1, r2) =>
 if r2 = true then (
  (sp_col r1).bind fun (r3, r4) =>
  chk (CapOk 48 a1 [r4]) <|
  T.syntax_list_l_l1 r3 (a1 ++ [r4])
 ) else (
  some (r1, a1)
 )
noncomputable def tab_syntax_list_l_l1 : Nat → Tab_syntax_list_l_l1
 | 0 => ⟨0, fun _ _ => none⟩
 | k + 1 => ⟨k + 1, syntax_list_l_l1_b (tab_syntax_list_l_l1 k)⟩
noncomputable def syntax_list_l_l1 (k : Nat) := (tab_syntax_list_l_l1 k).syntax_list_l_l1
structure Ok_syntax_list_l_l1 (m : Nat) : Prop where
 syntax_list_l_l1 : Sd2 (tab_syntax_list_l_l1 m).syntax_list_l_l1 syntax_list_l_l1_J
theorem syntax_list_l_l1_okb {m : Nat} (ih : Ok_syntax_list_l_l1 m) : Sd2 (syntax_list_l_l1_b (tab_syntax_list_l_l1 m)) syntax_list_l_l1_J := by
 intro a0 a1 r h cx
 unfold syntax_list_l_l1_b at h
 obtain ⟨⟨r1, r2⟩, h1, h⟩ := bs h fun _ => sp_mark_ok
 obtain ⟨h2, h⟩ | ⟨h2, h⟩ := ite_some h
 · obtain ⟨⟨r3, r4⟩, h3, h⟩ := bs h fun _ => sp_col_ok
   obtain ⟨h4, h⟩ := chk_some h
   exact tt 9 [(0, .reg [(1, cl [0] h1)] []), (1, .br true), (2, .reg [(2, cl [0] h3)] [(3, .one (.own 4 (Row.rows (α := Col) [r4]) 82)), (4, .one (.own 4 (Row.rows (α := Col) (a1 ++ [r4])) 98))])] [] [0, 1, 5] [(0, 0), (98, 1)] 2 [pf h1, pf (bt h2), pf h3, @pf (BldP (α := Col) [r4] 82) (bldP _ _), @pf (AppP (α := Col) a1 [r4] 98) (appP _ _ _), pf (cap1 h4), pf (cap2 h4)] (ih.syntax_list_l_l1 h cx)
 · obtain rfl := Option.some.inj h
   exact rr 9 [(0, .reg [(1, cl [0] h1)] []), (1, .br false)] [] [(0, 0)] 1 [pf h1, pf (bf h2)]
theorem ok_syntax_list_l_l1 : ∀ m, Ok_syntax_list_l_l1 m
 | 0 => ⟨(fun h => nomatch (show none = some _ from h))⟩
 | m + 1 => ⟨syntax_list_l_l1_okb (ok_syntax_list_l_l1 m)⟩
theorem syntax_list_l_l1_ok {k : Nat} : Sd2 (syntax_list_l_l1 k) syntax_list_l_l1_J := (ok_syntax_list_l_l1 k).syntax_list_l_l1

noncomputable def syntax_list_l (k : Nat) (a0 : Parser) : Option (Parser × (List Col)) :=
 (sp_col a0).bind fun (r1, r2) =>
 syntax_list_l_l1 k r1 [r2]
theorem syntax_list_l_ok {k : Nat} : Sd1 (syntax_list_l k) syntax_list_l_J := by
 intro a0 r h
 unfold syntax_list_l at h
 refine ent (c := bodyOf f103) func103 rfl rfl rfl fun cx => ?_
 obtain ⟨⟨r1, r2⟩, h1, h⟩ := bs h fun _ => sp_col_ok
 exact tt 7 [(1, .reg [(1, cl [0] h1)] [(2, .one (.own 4 (Row.rows (α := Col) [r2]) 49))])] [] [0, 1, 5] [(0, 0), (49, 1)] 2 [pf h1, @pf (BldP (α := Col) [r2] 49) (bldP _ _)] (syntax_list_l_l1_ok h cx)

noncomputable def sp_table_O (a0 : Parser) (a1 : Table) : List O := [.var 105 (ca a0)]
noncomputable def sp_table_V (a0 : Parser) (a1 : Table) : V := .agg (ca a1)
noncomputable def sp_table_J (a0 : Parser) (r : (Parser × Table)) : Prop := Has prog 68 [.one (.ptr 0 0)] [.var 105 (ca a0)] (sp_table_O r.1 r.2) (sp_table_V r.1 r.2)
noncomputable def sp_table (k : Nat) (a0 : Parser) : Option (Parser × Table) :=
 (sp_name a0).bind fun (r1, r2) =>
 (sp_must r1 s_rows).bind fun r3 =>
 (sp_name r3).bind fun (r4, r5) =>
 (sp_need r4 s_x28).bind fun r6 =>
 (syntax_list_l k r6).bind fun (r7, r8) =>
 (sp_need r7 s_x29).bind fun r9 =>
 (sp_word r9 s_key).bind fun (r10, r11) =>
 if r11 = true then (
  (sp_need r10 s_x28).bind fun r12 =>
  (syntax_list_g k r12).bind fun (r13, r14) =>
  (sp_need r13 s_x29).bind fun r15 =>
  (sp_word r15 s_hide).bind fun (r16, r17) =>
  if r17 = true then (
   (sp_name r16).bind fun (r18, r19) =>
   (sp_must r18 s_when).bind fun r20 =>
   (sp_expr k r20).bind fun (r21, r22) =>
   some (r21, (Table.mk r2 r5 r8 r14 r19 [r22]))
  ) else (
   some (r16, (Table.mk r2 r5 r8 r14 [] []))
  )
 ) else (
  (sp_word r10 s_hide).bind fun (r12, r13) =>
  if r13 = true then (
   (sp_name r12).bind fun (r14, r15) =>
   (sp_must r14 s_when).bind fun r16 =>
   (sp_expr k r16).bind fun (r17, r18) =>
   some (r17, (Table.mk r2 r5 r8 [] r15 [r18]))
  ) else (
   some (r12, (Table.mk r2 r5 r8 [] [] []))
  )
 )
theorem sp_table_ok {k : Nat} : Sd1 (sp_table k) sp_table_J := by
 intro a0 r h
 unfold sp_table at h
 refine ent (c := bodyOf f68) func68 rfl rfl rfl fun cx => ?_
 obtain ⟨⟨r1, r2⟩, h1, h⟩ := bs h fun _ => sp_name_ok
 obtain ⟨r3, h2, h⟩ := bs h fun _ => sp_must_ok
 obtain ⟨⟨r4, r5⟩, h3, h⟩ := bs h fun _ => sp_name_ok
 obtain ⟨r6, h4, h⟩ := bs h fun _ => sp_need_ok
 obtain ⟨⟨r7, r8⟩, h5, h⟩ := bs h fun _ => syntax_list_l_ok
 obtain ⟨r9, h6, h⟩ := bs h fun _ => sp_need_ok
 obtain ⟨⟨r10, r11⟩, h7, h⟩ := bs h fun _ => sp_word_ok
 obtain ⟨h8, h⟩ | ⟨h8, h⟩ := ite_some h
 · obtain ⟨r12, h9, h⟩ := bs h fun _ => sp_need_ok
   obtain ⟨⟨r13, r14⟩, h10, h⟩ := bs h fun _ => syntax_list_g_ok
   obtain ⟨r15, h11, h⟩ := bs h fun _ => sp_need_ok
   obtain ⟨⟨r16, r17⟩, h12, h⟩ := bs h fun _ => sp_word_ok
   obtain ⟨h13, h⟩ | ⟨h13, h⟩ := ite_some h
   · obtain ⟨⟨r18, r19⟩, h14, h⟩ := bs h fun _ => sp_name_ok
     obtain ⟨r20, h15, h⟩ := bs h fun _ => sp_must_ok
     obtain ⟨⟨r21, r22⟩, h16, h⟩ := bs h fun _ => sp_expr_ok
     obtain rfl := Option.some.inj h
     exact rr 36 [(1, .reg [(1, cl [0] h1)] []), (2, .reg [(1, cl [0] h2)] []), (3, .reg [(1, cl [0] h3)] []), (4, .reg [(1, cl [0] h4)] []), (5, .reg [(3, cl [0] h5)] []), (6, .reg [(1, cl [0] h6)] []), (7, .reg [(1, cl [0] h7)] []), (8, .br true), (9, .reg [(1, cl [0] h9)] []), (10, .reg [(3, cl [0] h10)] []), (11, .reg [(1, cl [0] h11)] []), (12, .reg [(1, cl [0] h12)] []), (13, .br true), (14, .reg [(1, cl [0] h14)] []), (15, .reg [(1, cl [0] h15)] []), (16, .reg [(1, cl [0] h16)] [(2, .one (.own 6 (Row.rows (α := Expr) [r22]) 705))])] [] [(0, 0)] 1 [pf h1, pf h2, pf h3, pf h4, pf h5, pf h6, pf h7, pf (bt h8), pf h9, pf h10, pf h11, pf h12, pf (bt h13), pf h14, pf h15, pf h16, @pf (BldP (α := Expr) [r22] 705) (bldP _ _)]
   · obtain rfl := Option.some.inj h
     exact rr 32 [(1, .reg [(1, cl [0] h1)] []), (2, .reg [(1, cl [0] h2)] []), (3, .reg [(1, cl [0] h3)] []), (4, .reg [(1, cl [0] h4)] []), (5, .reg [(3, cl [0] h5)] []), (6, .reg [(1, cl [0] h6)] []), (7, .reg [(1, cl [0] h7)] []), (8, .br true), (9, .reg [(1, cl [0] h9)] []), (10, .reg [(3, cl [0] h10)] []), (11, .reg [(1, cl [0] h11)] []), (12, .reg [(1, cl [0] h12)] []), (13, .br false)] [] [(0, 0)] 1 [pf h1, pf h2, pf h3, pf h4, pf h5, pf h6, pf h7, pf (bt h8), pf h9, pf h10, pf h11, pf h12, pf (bf h13)]
 · obtain ⟨⟨r12, r13⟩, h9, h⟩ := bs h fun _ => sp_word_ok
   obtain ⟨h10, h⟩ | ⟨h10, h⟩ := ite_some h
   · obtain ⟨⟨r14, r15⟩, h11, h⟩ := bs h fun _ => sp_name_ok
     obtain ⟨r16, h12, h⟩ := bs h fun _ => sp_must_ok
     obtain ⟨⟨r17, r18⟩, h13, h⟩ := bs h fun _ => sp_expr_ok
     obtain rfl := Option.some.inj h
     exact rr 32 [(1, .reg [(1, cl [0] h1)] []), (2, .reg [(1, cl [0] h2)] []), (3, .reg [(1, cl [0] h3)] []), (4, .reg [(1, cl [0] h4)] []), (5, .reg [(3, cl [0] h5)] []), (6, .reg [(1, cl [0] h6)] []), (7, .reg [(1, cl [0] h7)] []), (8, .br false), (9, .reg [(1, cl [0] h9)] []), (10, .br true), (11, .reg [(1, cl [0] h11)] []), (12, .reg [(1, cl [0] h12)] []), (13, .reg [(1, cl [0] h13)] [(2, .one (.own 6 (Row.rows (α := Expr) [r18]) 545))])] [] [(0, 0)] 1 [pf h1, pf h2, pf h3, pf h4, pf h5, pf h6, pf h7, pf (bf h8), pf h9, pf (bt h10), pf h11, pf h12, pf h13, @pf (BldP (α := Expr) [r18] 545) (bldP _ _)]
   · obtain rfl := Option.some.inj h
     exact rr 28 [(1, .reg [(1, cl [0] h1)] []), (2, .reg [(1, cl [0] h2)] []), (3, .reg [(1, cl [0] h3)] []), (4, .reg [(1, cl [0] h4)] []), (5, .reg [(3, cl [0] h5)] []), (6, .reg [(1, cl [0] h6)] []), (7, .reg [(1, cl [0] h7)] []), (8, .br false), (9, .reg [(1, cl [0] h9)] []), (10, .br false)] [] [(0, 0)] 1 [pf h1, pf h2, pf h3, pf h4, pf h5, pf h6, pf h7, pf (bf h8), pf h9, pf (bf h10)]

noncomputable def sp_schema_O (a0 : Parser) (a1 : Schema) : List O := [.var 105 (ca a0)]
noncomputable def sp_schema_V (a0 : Parser) (a1 : Schema) : V := .agg (ca a1)
noncomputable def sp_schema_J (a0 : Parser) (r : (Parser × Schema)) : Prop := Has prog 39 [.one (.ptr 0 0)] [.var 105 (ca a0)] (sp_schema_O r.1 r.2) (sp_schema_V r.1 r.2)
noncomputable def sp_schema_j3_K : List Item := stackAt (bodyOf f39) [1, 1, 0, 0, 0, 1, 0, 1] []
noncomputable def sp_schema_j3_S (a0 : Parser) (a1 : List Str) (a2 : List Pair) (a3 : List Table) (a4 a5 : List Pair) (a6 : Int) : St := ⟨[(0, .one (.ptr 0 0)), (2, .one (.ptr 1 0)), (3, .one (.ptr 2 0))], [(0, .var 105 (ca a0)), (1, .var 58 [.nil 1, .nil 2, .nil 6, .nil 2, .nil 2, .int .i64 0]), (2, .var 58 [.own 1 (Row.rows (α := Str) a1) 3, .own 2 (Row.rows (α := Pair) a2) 4, .own 6 (Row.rows (α := Table) a3) 5, .own 2 (Row.rows (α := Pair) a4) 6, .own 2 (Row.rows (α := Pair) a5) 7, .int .i64 a6]), (3, .row 9 1), (4, .row 126 2), (5, .row 99 6), (6, .row 126 2), (7, .row 126 2)], 8, 76, 1⟩
noncomputable def sp_schema_j3_J (a0 : Parser) (a1 : List Str) (a2 : List Pair) (a3 : List Table) (a4 a5 : List Pair) (a6 : Int) (r : (Parser × Schema)) : Prop := ∀ cx : Cx, AK prog cx sp_schema_j3_K (sp_schema_j3_S a0 a1 a2 a3 a4 a5 a6) (Fin lay f39.results.toList 1 fun o v => o = sp_schema_O r.1 r.2 ∧ v = sp_schema_V r.1 r.2)
noncomputable def sp_schema_j2_K : List Item := stackAt (bodyOf f39) [1, 1, 0, 0, 0, 0, 1] []
noncomputable def sp_schema_j2_S (a0 : Parser) (a1 : List Str) (a2 : List Pair) (a3 : List Table) (a4 a5 : List Pair) (a6 : Int) (a7 : Bool) : St := ⟨[(0, .one (.ptr 0 0)), (2, .one (.ptr 1 0)), (3, .one (.ptr 2 0)), (14, .one (.bool a7))], [(0, .var 105 (ca a0)), (1, .var 58 [.nil 1, .nil 2, .nil 6, .nil 2, .nil 2, .int .i64 0]), (2, .var 58 [.own 1 (Row.rows (α := Str) a1) 3, .own 2 (Row.rows (α := Pair) a2) 4, .own 6 (Row.rows (α := Table) a3) 5, .own 2 (Row.rows (α := Pair) a4) 6, .own 2 (Row.rows (α := Pair) a5) 7, .int .i64 a6]), (3, .row 9 1), (4, .row 126 2), (5, .row 99 6), (6, .row 126 2), (7, .row 126 2)], 8, 76, 1⟩
noncomputable def sp_schema_j2_J (a0 : Parser) (a1 : List Str) (a2 : List Pair) (a3 : List Table) (a4 a5 : List Pair) (a6 : Int) (a7 : Bool) (r : (Parser × Schema)) : Prop := ∀ cx : Cx, AK prog cx sp_schema_j2_K (sp_schema_j2_S a0 a1 a2 a3 a4 a5 a6 a7) (Fin lay f39.results.toList 1 fun o v => o = sp_schema_O r.1 r.2 ∧ v = sp_schema_V r.1 r.2)
noncomputable def sp_schema_l1_K : List Item := stackAt (bodyOf f39) [1, 1, 0, 0, 0] []
noncomputable def sp_schema_l1_S (a0 : Parser) (a1 : List Str) (a2 : List Pair) (a3 : List Table) (a4 a5 : List Pair) (a6 : Int) : St := ⟨[(0, .one (.ptr 0 0)), (2, .one (.ptr 1 0)), (3, .one (.ptr 2 0))], [(0, .var 105 (ca a0)), (1, .var 58 [.nil 1, .nil 2, .nil 6, .nil 2, .nil 2, .int .i64 0]), (2, .var 58 [.own 1 (Row.rows (α := Str) a1) 3, .own 2 (Row.rows (α := Pair) a2) 4, .own 6 (Row.rows (α := Table) a3) 5, .own 2 (Row.rows (α := Pair) a4) 6, .own 2 (Row.rows (α := Pair) a5) 7, .int .i64 a6]), (3, .row 9 1), (4, .row 126 2), (5, .row 99 6), (6, .row 126 2), (7, .row 126 2)], 8, 76, 1⟩
noncomputable def sp_schema_l1_J (a0 : Parser) (a1 : List Str) (a2 : List Pair) (a3 : List Table) (a4 a5 : List Pair) (a6 : Int) (r : (Parser × Schema)) : Prop := ∀ cx : Cx, AK prog cx sp_schema_l1_K (sp_schema_l1_S a0 a1 a2 a3 a4 a5 a6) (Fin lay f39.results.toList 1 fun o v => o = sp_schema_O r.1 r.2 ∧ v = sp_schema_V r.1 r.2)
structure Tab_sp_schema_j2 where
 k : Nat
 sp_schema_l1 : Parser → (List Str) → (List Pair) → (List Table) → (List Pair) → (List Pair) → Int → Option (Parser × Schema)
noncomputable def sp_schema_j3_b (T : Tab_sp_schema_j2) (a0 : Parser) (a1 : List Str) (a2 : List Pair) (a3 : List Table) (a4 a5 : List Pair) (a6 : Int) : Option (Parser × Schema) :=
 (sp_need a0 s_x3b).bind fun r1 =>
 T.sp_schema_l1 r1 a1 a2 a3 a4 a5 a6
noncomputable def sp_schema_j2_b (T : Tab_sp_schema_j2) (a0 : Parser) (a1 : List Str) (a2 : List Pair) (a3 : List Table) (a4 a5 : List Pair) (a6 : Int) (a7 : Bool) : Option (Parser × Schema) :=
 if a7 = true then (
  (sp_word a0 s_levels).bind fun (r1, r2) =>
  if r2 = true then (
   (syntax_list_g T.k r1).bind fun (r3, r4) =>
   chk (CapOk 16 a1 r4) <|
   sp_schema_j3_b T r3 (a1 ++ r4) a2 a3 a4 a5 a6
  ) else (
   (sp_word r1 s_order).bind fun (r3, r4) =>
   if r4 = true then (
    (sp_edges T.k r3).bind fun (r5, r6) =>
    chk (CapOk 32 a2 r6) <|
    sp_schema_j3_b T r5 a1 (a2 ++ r6) a3 a4 a5 a6
   ) else (
    (sp_word r3 s_table).bind fun (r5, r6) =>
    if r6 = true then (
     (sp_table T.k r5).bind fun (r7, r8) =>
     chk (CapOk 120 a3 [r8]) <|
     sp_schema_j3_b T r7 a1 a2 (a3 ++ [r8]) a4 a5 a6
    ) else (
     (sp_word r5 s_channel).bind fun (r7, r8) =>
     if r8 = true then (
      (sp_pair r7).bind fun (r9, r10) =>
      chk (CapOk 32 a4 [r10]) <|
      sp_schema_j3_b T r9 a1 a2 a3 (a4 ++ [r10]) a5 a6
     ) else (
      (sp_word r7 s_principal).bind fun (r9, r10) =>
      if r10 = true then (
       (sp_pair r9).bind fun (r11, r12) =>
       chk (CapOk 32 a5 [r12]) <|
       sp_schema_j3_b T r11 a1 a2 a3 a4 (a5 ++ [r12]) a6
      ) else (
       (sp_word r9 s_limit).bind fun (r11, r12) =>
       if r12 = true then (
        (sp_number r11).bind fun (r13, r14) =>
        sp_schema_j3_b T r13 a1 a2 a3 a4 a5 r14
       ) else (
        (sp_fail r11 10).bind fun r13 =>
        sp_schema_j3_b T r13 a1 a2 a3 a4 a5 a6
       )
      )
     )
    )
   )
  )
 ) else (
  some (a0, (Schema.mk a1 a2 a3 a4 a5 a6))
 )
noncomputable def sp_schema_l1_b (T : Tab_sp_schema_j2) (a0 : Parser) (a1 : List Str) (a2 : List Pair) (a3 : List Table) (a4 a5 : List Pair) (a6 : Int) : Option (Parser × Schema) :=
 if a0.e = 0 then (
  (sp_now a0).bind fun r1 =>
  sp_schema_j2_b T a0 a1 a2 a3 a4 a5 a6 (!(decide (r1.Kind = 0)))
 ) else (
  sp_schema_j2_b T a0 a1 a2 a3 a4 a5 a6 false
 )
noncomputable def tab_sp_schema_j2 : Nat → Tab_sp_schema_j2
 | 0 => ⟨0, fun _ _ _ _ _ _ _ => none⟩
 | k + 1 => ⟨k + 1, sp_schema_l1_b (tab_sp_schema_j2 k)⟩
noncomputable def sp_schema_l1 (k : Nat) := (tab_sp_schema_j2 k).sp_schema_l1
structure Ok_sp_schema_j2 (m : Nat) : Prop where
 sp_schema_l1 : Sd7 (tab_sp_schema_j2 m).sp_schema_l1 sp_schema_l1_J
theorem sp_schema_j3_okb {m : Nat} (ih : Ok_sp_schema_j2 m) : Sd7 (sp_schema_j3_b (tab_sp_schema_j2 m)) sp_schema_j3_J := by
 intro a0 a1 a2 a3 a4 a5 a6 r h cx
 unfold sp_schema_j3_b at h
 obtain ⟨r1, h1, h⟩ := bs h fun _ => sp_need_ok
 exact tt 3 [(0, .reg [(1, cl [0] h1)] [])] [] [0, 2, 3] [(0, 0), (1, 1), (2, 2), (3, 3), (4, 4), (5, 5), (6, 6), (7, 7)] 8 [pf h1] (ih.sp_schema_l1 h cx)
theorem sp_schema_j2_okb {m : Nat} (ih : Ok_sp_schema_j2 m) : Sd8 (sp_schema_j2_b (tab_sp_schema_j2 m)) sp_schema_j2_J := by
 intro a0 a1 a2 a3 a4 a5 a6 a7 r h cx
 unfold sp_schema_j2_b at h
 obtain ⟨h1, h⟩ | ⟨h1, h⟩ := ite_some h
 · obtain ⟨⟨r1, r2⟩, h2, h⟩ := bs h fun _ => sp_word_ok
   obtain ⟨h3, h⟩ | ⟨h3, h⟩ := ite_some h
   · obtain ⟨⟨r3, r4⟩, h4, h⟩ := bs h fun _ => syntax_list_g_ok
     obtain ⟨h5, h⟩ := chk_some h
     exact tt 10 [(0, .br true), (1, .reg [(1, cl [0] h2)] []), (2, .br true), (3, .reg [(5, cl [0] h4)] [(6, .one (.own 1 (Row.rows (α := Str) (a1 ++ r4)) 152))])] [] [0, 2, 3] [(0, 0), (1, 1), (2, 2), (152, 3), (4, 4), (5, 5), (6, 6), (7, 7)] 8 [pf (bt h1), pf h2, pf (bt h3), pf h4, @pf (AppP (α := Str) a1 r4 152) (appP _ _ _), pf (cap1 h5), pf (cap2 h5)] (sp_schema_j3_okb ih h cx)
   · obtain ⟨⟨r3, r4⟩, h4, h⟩ := bs h fun _ => sp_word_ok
     obtain ⟨h5, h⟩ | ⟨h5, h⟩ := ite_some h
     · obtain ⟨⟨r5, r6⟩, h6, h⟩ := bs h fun _ => sp_edges_ok
       obtain ⟨h7, h⟩ := chk_some h
       exact tt 13 [(0, .br true), (1, .reg [(1, cl [0] h2)] []), (2, .br false), (3, .reg [(1, cl [0] h4)] []), (4, .br true), (5, .reg [(3, cl [0] h6)] [(4, .one (.own 2 (Row.rows (α := Pair) (a2 ++ r6)) 168))])] [] [0, 2, 3] [(0, 0), (1, 1), (2, 2), (3, 3), (168, 4), (5, 5), (6, 6), (7, 7)] 8 [pf (bt h1), pf h2, pf (bf h3), pf h4, pf (bt h5), pf h6, @pf (AppP (α := Pair) a2 r6 168) (appP _ _ _), pf (cap1 h7), pf (cap2 h7)] (sp_schema_j3_okb ih h cx)
     · obtain ⟨⟨r5, r6⟩, h6, h⟩ := bs h fun _ => sp_word_ok
       obtain ⟨h7, h⟩ | ⟨h7, h⟩ := ite_some h
       · obtain ⟨⟨r7, r8⟩, h8, h⟩ := bs h fun _ => sp_table_ok
         obtain ⟨h9, h⟩ := chk_some h
         exact tt 16 [(0, .br true), (1, .reg [(1, cl [0] h2)] []), (2, .br false), (3, .reg [(1, cl [0] h4)] []), (4, .br false), (5, .reg [(1, cl [0] h6)] []), (6, .br true), (7, .reg [(3, cl [0] h8)] [(4, .one (.own 6 (Row.rows (α := Table) [r8]) 216)), (5, .one (.own 6 (Row.rows (α := Table) (a3 ++ [r8])) 232))])] [] [0, 2, 3] [(0, 0), (1, 1), (2, 2), (3, 3), (4, 4), (232, 5), (6, 6), (7, 7)] 8 [pf (bt h1), pf h2, pf (bf h3), pf h4, pf (bf h5), pf h6, pf (bt h7), pf h8, @pf (BldP (α := Table) [r8] 216) (bldP _ _), @pf (AppP (α := Table) a3 [r8] 232) (appP _ _ _), pf (cap1 h9), pf (cap2 h9)] (sp_schema_j3_okb ih h cx)
       · obtain ⟨⟨r7, r8⟩, h8, h⟩ := bs h fun _ => sp_word_ok
         obtain ⟨h9, h⟩ | ⟨h9, h⟩ := ite_some h
         · obtain ⟨⟨r9, r10⟩, h10, h⟩ := bs h fun _ => sp_pair_ok
           obtain ⟨h11, h⟩ := chk_some h
           exact tt 19 [(0, .br true), (1, .reg [(1, cl [0] h2)] []), (2, .br false), (3, .reg [(1, cl [0] h4)] []), (4, .br false), (5, .reg [(1, cl [0] h6)] []), (6, .br false), (7, .reg [(1, cl [0] h8)] []), (8, .br true), (9, .reg [(3, cl [0] h10)] [(4, .one (.own 2 (Row.rows (α := Pair) [r10]) 264)), (5, .one (.own 2 (Row.rows (α := Pair) (a4 ++ [r10])) 280))])] [] [0, 2, 3] [(0, 0), (1, 1), (2, 2), (3, 3), (4, 4), (5, 5), (280, 6), (7, 7)] 8 [pf (bt h1), pf h2, pf (bf h3), pf h4, pf (bf h5), pf h6, pf (bf h7), pf h8, pf (bt h9), pf h10, @pf (BldP (α := Pair) [r10] 264) (bldP _ _), @pf (AppP (α := Pair) a4 [r10] 280) (appP _ _ _), pf (cap1 h11), pf (cap2 h11)] (sp_schema_j3_okb ih h cx)
         · obtain ⟨⟨r9, r10⟩, h10, h⟩ := bs h fun _ => sp_word_ok
           obtain ⟨h11, h⟩ | ⟨h11, h⟩ := ite_some h
           · obtain ⟨⟨r11, r12⟩, h12, h⟩ := bs h fun _ => sp_pair_ok
             obtain ⟨h13, h⟩ := chk_some h
             exact tt 22 [(0, .br true), (1, .reg [(1, cl [0] h2)] []), (2, .br false), (3, .reg [(1, cl [0] h4)] []), (4, .br false), (5, .reg [(1, cl [0] h6)] []), (6, .br false), (7, .reg [(1, cl [0] h8)] []), (8, .br false), (9, .reg [(1, cl [0] h10)] []), (10, .br true), (11, .reg [(3, cl [0] h12)] [(4, .one (.own 2 (Row.rows (α := Pair) [r12]) 312)), (5, .one (.own 2 (Row.rows (α := Pair) (a5 ++ [r12])) 328))])] [] [0, 2, 3] [(0, 0), (1, 1), (2, 2), (3, 3), (4, 4), (5, 5), (6, 6), (328, 7)] 8 [pf (bt h1), pf h2, pf (bf h3), pf h4, pf (bf h5), pf h6, pf (bf h7), pf h8, pf (bf h9), pf h10, pf (bt h11), pf h12, @pf (BldP (α := Pair) [r12] 312) (bldP _ _), @pf (AppP (α := Pair) a5 [r12] 328) (appP _ _ _), pf (cap1 h13), pf (cap2 h13)] (sp_schema_j3_okb ih h cx)
           · obtain ⟨⟨r11, r12⟩, h12, h⟩ := bs h fun _ => sp_word_ok
             obtain ⟨h13, h⟩ | ⟨h13, h⟩ := ite_some h
             · obtain ⟨⟨r13, r14⟩, h14, h⟩ := bs h fun _ => sp_number_ok
               exact tt 25 [(0, .br true), (1, .reg [(1, cl [0] h2)] []), (2, .br false), (3, .reg [(1, cl [0] h4)] []), (4, .br false), (5, .reg [(1, cl [0] h6)] []), (6, .br false), (7, .reg [(1, cl [0] h8)] []), (8, .br false), (9, .reg [(1, cl [0] h10)] []), (10, .br false), (11, .reg [(1, cl [0] h12)] []), (12, .br true), (13, .reg [(1, cl [0] h14)] [])] [] [0, 2, 3] [(0, 0), (1, 1), (2, 2), (3, 3), (4, 4), (5, 5), (6, 6), (7, 7)] 8 [pf (bt h1), pf h2, pf (bf h3), pf h4, pf (bf h5), pf h6, pf (bf h7), pf h8, pf (bf h9), pf h10, pf (bf h11), pf h12, pf (bt h13), pf h14] (sp_schema_j3_okb ih h cx)
             · obtain ⟨r13, h14, h⟩ := bs h fun _ => sp_fail_ok
               exact tt 25 [(0, .br true), (1, .reg [(1, cl [0] h2)] []), (2, .br false), (3, .reg [(1, cl [0] h4)] []), (4, .br false), (5, .reg [(1, cl [0] h6)] []), (6, .br false), (7, .reg [(1, cl [0] h8)] []), (8, .br false), (9, .reg [(1, cl [0] h10)] []), (10, .br false), (11, .reg [(1, cl [0] h12)] []), (12, .br false), (13, .reg [(1, cl [0] h14)] [])] [] [0, 2, 3] [(0, 0), (1, 1), (2, 2), (3, 3), (4, 4), (5, 5), (6, 6), (7, 7)] 8 [pf (bt h1), pf h2, pf (bf h3), pf h4, pf (bf h5), pf h6, pf (bf h7), pf h8, pf (bf h9), pf h10, pf (bf h11), pf h12, pf (bf h13), pf h14] (sp_schema_j3_okb ih h cx)
 · obtain rfl := Option.some.inj h
   exact rr 6 [(0, .br false)] [] [(0, 0)] 1 [pf (bf h1)]
theorem sp_schema_l1_okb {m : Nat} (ih : Ok_sp_schema_j2 m) : Sd7 (sp_schema_l1_b (tab_sp_schema_j2 m)) sp_schema_l1_J := by
 intro a0 a1 a2 a3 a4 a5 a6 r h cx
 unfold sp_schema_l1_b at h
 obtain ⟨h1, h⟩ | ⟨h1, h⟩ := ite_some h
 · obtain ⟨r1, h2, h⟩ := bs h fun _ => sp_now_ok
   exact tt 3 [(0, .reg [(7, cl [0] h2 [0])] [(5, .bool true)])] [] [0, 2, 3, 14] [(0, 0), (1, 1), (2, 2), (3, 3), (4, 4), (5, 5), (6, 6), (7, 7)] 8 [pf (dt h1), pf h2, @pf (SameO (.var 105 (ca a0))) rfl] (sp_schema_j2_okb ih h cx)
 · exact tt 3 [(0, .reg [] [(5, .bool false)])] [] [0, 2, 3, 14] [(0, 0), (1, 1), (2, 2), (3, 3), (4, 4), (5, 5), (6, 6), (7, 7)] 8 [pf (df h1)] (sp_schema_j2_okb ih h cx)
theorem ok_sp_schema_j2 : ∀ m, Ok_sp_schema_j2 m
 | 0 => ⟨(fun h => nomatch (show none = some _ from h))⟩
 | m + 1 => ⟨sp_schema_l1_okb (ok_sp_schema_j2 m)⟩
theorem sp_schema_l1_ok {k : Nat} : Sd7 (sp_schema_l1 k) sp_schema_l1_J := (ok_sp_schema_j2 k).sp_schema_l1

noncomputable def sp_schema (k : Nat) (a0 : Parser) : Option (Parser × Schema) :=
 sp_schema_l1 k a0 [] [] [] [] [] 0
theorem sp_schema_ok {k : Nat} : Sd1 (sp_schema k) sp_schema_J := by
 intro a0 r h
 unfold sp_schema at h
 refine ent (c := bodyOf f39) func39 rfl rfl rfl fun cx => ?_
 exact tt 7 [] [.cellOwn 17 0 33 9, .cellOwn 17 1 34 126, .cellOwn 17 2 35 99, .cellOwn 17 3 36 126, .cellOwn 17 4 37 126] [0, 2, 3] [(0, 0), (1, 1), (17, 2), (33, 3), (34, 4), (35, 5), (36, 6), (37, 7)] 8 [] (sp_schema_l1_ok h cx)

noncomputable def syntax_Schema_1_O (a0 : Parser) (a1 : Schema) : List O := [.var 105 (ca a0)]
noncomputable def syntax_Schema_1_V (a0 : Parser) (a1 : Schema) : V := .agg (ca a1)
noncomputable def syntax_Schema_1_J (a0 : Parser) (r : (Parser × Schema)) : Prop := Has prog 38 [.one (.ptr 0 0)] [.var 105 (ca a0)] (syntax_Schema_1_O r.1 r.2) (syntax_Schema_1_V r.1 r.2)
noncomputable def syntax_Schema_1 (k : Nat) (a0 : Parser) : Option (Parser × Schema) :=
 (sp_schema k a0).bind fun (r1, r2) =>
 some (r1, r2)
theorem syntax_Schema_1_ok {k : Nat} : Sd1 (syntax_Schema_1 k) syntax_Schema_1_J := by
 intro a0 r h
 unfold syntax_Schema_1 at h
 refine ent (c := bodyOf f38) func38 rfl rfl rfl fun cx => ?_
 obtain ⟨⟨r1, r2⟩, h1, h⟩ := bs h fun _ => sp_schema_ok
 obtain rfl := Option.some.inj h
 exact rr 6 [(1, .reg [(1, cl [0] h1)] [])] [] [(0, 0)] 1 [pf h1]

noncomputable def syntax_read_a_O (a0 : Schema) (a1 a2 : Int) : List O := []
noncomputable def syntax_read_a_V (a0 : Schema) (a1 a2 : Int) : V := .tup [.agg (ca a0), .one (.int .i64 a1), .one (.int .i64 a2)]
noncomputable def syntax_read_a_J (a0 : Str) (a1 : Int) (r : (Schema × Int × Int)) : Prop := Has prog 37 [.one (.str a0), .one (.int .i64 a1), .one (.fn 38 [] [])] [] (syntax_read_a_O r.1 r.2.1 r.2.2) (syntax_read_a_V r.1 r.2.1 r.2.2)
noncomputable def syntax_read_a (k : Nat) (a0 : Str) (a1 : Int) : Option (Schema × Int × Int) :=
 (token_Scan k a0).bind fun (r1, r2, r3) =>
 if r3 = 0 then (
  (syntax_Schema_1 k (Parser.mk r1 0 a1 0 0)).bind fun (r4, r5) =>
  (sp_now r4).bind fun r6 =>
  if r6.Kind = 0 then (
   if r4.e = 0 then (
    some (r5, 0, 0)
   ) else (
    some ((Schema.mk [] [] [] [] [] 0), r4.at_, r4.e)
   )
  ) else (
   (sp_fail r4 10).bind fun r7 =>
   if r7.e = 0 then (
    some (r5, 0, 0)
   ) else (
    some ((Schema.mk [] [] [] [] [] 0), r7.at_, r7.e)
   )
  )
 ) else (
  some ((Schema.mk [] [] [] [] [] 0), r2, r3)
 )
theorem syntax_read_a_ok {k : Nat} : Sd2 (syntax_read_a k) syntax_read_a_J := by
 intro a0 a1 r h
 unfold syntax_read_a at h
 refine ent (c := bodyOf f37) func37 rfl rfl rfl fun cx => ?_
 obtain ⟨⟨r1, r2, r3⟩, h1, h⟩ := bs h fun _ => token_Scan_ok
 obtain ⟨h2, h⟩ | ⟨h2, h⟩ := ite_some h
 · obtain ⟨⟨r4, r5⟩, h3, h⟩ := bs h fun _ => syntax_Schema_1_ok
   obtain ⟨r6, h4, h⟩ := bs h fun _ => sp_now_ok
   obtain ⟨h5, h⟩ | ⟨h5, h⟩ := ite_some h
   · obtain ⟨h6, h⟩ | ⟨h6, h⟩ := ite_some h
     · obtain rfl := Option.some.inj h
       exact rr 29 [(2, .reg [(1, cl [] h1)] []), (4, .br false), (6, .reg [(2, cl [288] h3)] []), (7, .reg [(1, cl [288] h4 [0])] []), (8, .br false), (10, .br false)] [] [] 0 [pf h1, pf (ndf h2), pf h3, pf h4, @pf (SameO (.var 105 (ca r4))) rfl, pf (ndf h5), pf (ndf h6)]
     · obtain rfl := Option.some.inj h
       exact rr 28 [(2, .reg [(1, cl [] h1)] []), (4, .br false), (6, .reg [(2, cl [288] h3)] []), (7, .reg [(1, cl [288] h4 [0])] []), (8, .br false), (10, .br true)] [] [] 0 [pf h1, pf (ndf h2), pf h3, pf h4, @pf (SameO (.var 105 (ca r4))) rfl, pf (ndf h5), pf (ndt h6)]
   · obtain ⟨r7, h6, h⟩ := bs h fun _ => sp_fail_ok
     obtain ⟨h7, h⟩ | ⟨h7, h⟩ := ite_some h
     · obtain rfl := Option.some.inj h
       exact rr 29 [(2, .reg [(1, cl [] h1)] []), (4, .br false), (6, .reg [(2, cl [288] h3)] []), (7, .reg [(1, cl [288] h4 [0])] []), (8, .br true), (9, .reg [(1, cl [288] h6)] []), (11, .br false)] [] [] 0 [pf h1, pf (ndf h2), pf h3, pf h4, @pf (SameO (.var 105 (ca r4))) rfl, pf (ndt h5), pf h6, pf (ndf h7)]
     · obtain rfl := Option.some.inj h
       exact rr 28 [(2, .reg [(1, cl [] h1)] []), (4, .br false), (6, .reg [(2, cl [288] h3)] []), (7, .reg [(1, cl [288] h4 [0])] []), (8, .br true), (9, .reg [(1, cl [288] h6)] []), (11, .br true)] [] [] 0 [pf h1, pf (ndf h2), pf h3, pf h4, @pf (SameO (.var 105 (ca r4))) rfl, pf (ndt h5), pf h6, pf (ndt h7)]
 · obtain rfl := Option.some.inj h
   exact rr 14 [(2, .reg [(1, cl [] h1)] []), (4, .br true)] [] [] 0 [pf h1, pf (ndt h2)]

noncomputable def syntax_Schema_O (a0 : Schema) (a1 a2 : Int) : List O := []
noncomputable def syntax_Schema_V (a0 : Schema) (a1 a2 : Int) : V := .tup [.agg (ca a0), .one (.int .i64 a1), .one (.int .i64 a2)]
noncomputable def syntax_Schema_J (a0 : Str) (r : (Schema × Int × Int)) : Prop := Has prog 17 [.one (.str a0)] [] (syntax_Schema_O r.1 r.2.1 r.2.2) (syntax_Schema_V r.1 r.2.1 r.2.2)
noncomputable def syntax_Schema (k : Nat) (a0 : Str) : Option (Schema × Int × Int) :=
 (syntax_read_a k a0 1).bind fun (r1, r2, r3) =>
 some (r1, r2, r3)
theorem syntax_Schema_ok {k : Nat} : Sd1 (syntax_Schema k) syntax_Schema_J := by
 intro a0 r h
 unfold syntax_Schema at h
 refine ent (c := bodyOf f17) func17 rfl rfl rfl fun cx => ?_
 obtain ⟨⟨r1, r2, r3⟩, h1, h⟩ := bs h fun _ => syntax_read_a_ok
 obtain rfl := Option.some.inj h
 exact rr 6 [(1, .reg [(1, cl [] h1)] [])] [] [] 0 [pf h1]

noncomputable def l06_SyntaxSchemas_O (a0 : Bool) : List O := []
noncomputable def l06_SyntaxSchemas_V (a0 : Bool) : V := .one (.bool a0)
noncomputable def l06_SyntaxSchemas_J (a0 : Str) (r : Bool) : Prop := Has prog 6 [.one (.str a0)] [] (l06_SyntaxSchemas_O r) (l06_SyntaxSchemas_V r)
noncomputable def l06_SyntaxSchemas (k : Nat) (a0 : Str) : Option Bool :=
 if 21000 < (a0.length : Int) then (
  (l06_alive k).bind fun r1 =>
  some r1
 ) else (
  (syntax_Schema k a0).bind fun (r1, r2, r3) =>
  (r06_Schema k a0).bind fun (r4, r5, r6) =>
  (r06_SameSchema k r1 r4).bind fun r7 =>
  if r7 = true then (
   if r2 = r5 then (
    if r3 = r6 then (
     (l06_alive k).bind fun r8 =>
     some r8
    ) else (
     some false
    )
   ) else (
    some false
   )
  ) else (
   some false
  )
 )
theorem l06_SyntaxSchemas_ok {k : Nat} : Sd1 (l06_SyntaxSchemas k) l06_SyntaxSchemas_J := by
 intro a0 r h
 unfold l06_SyntaxSchemas at h
 refine ent (c := bodyOf f6) func6 rfl rfl rfl fun cx => ?_
 obtain ⟨h1, h⟩ | ⟨h1, h⟩ := ite_some h
 · obtain ⟨r1, h2, h⟩ := bs h fun _ => l06_alive_ok
   obtain rfl := Option.some.inj h
   exact rr 10 [(2, .br true), (3, .reg [(0, cl [] h2)] [])] [] [] 0 [pf (dt h1), pf h2]
 · obtain ⟨⟨r1, r2, r3⟩, h2, h⟩ := bs h fun _ => syntax_Schema_ok
   obtain ⟨⟨r4, r5, r6⟩, h3, h⟩ := bs h fun _ => r06_Schema_ok
   obtain ⟨r7, h4, h⟩ := bs h fun _ => r06_SameSchema_ok
   obtain ⟨h5, h⟩ | ⟨h5, h⟩ := ite_some h
   · obtain ⟨h6, h⟩ | ⟨h6, h⟩ := ite_some h
     · obtain ⟨h7, h⟩ | ⟨h7, h⟩ := ite_some h
       · obtain ⟨r8, h8, h⟩ := bs h fun _ => l06_alive_ok
         obtain rfl := Option.some.inj h
         exact rr 15 [(2, .br false), (3, .reg [(1, cl [] h2)] []), (4, .reg [(1, cl [] h3)] []), (5, .reg [(2, cl [] h4), (14, cl [] h8)] [(3, .bool true), (8, .bool true), (13, .bool true)])] [] [] 0 [pf (df h1), pf h2, pf h3, pf h4, pf (bt h5), pf (dt h6), pf (dt h7), pf h8]
       · obtain rfl := Option.some.inj h
         exact rr 15 [(2, .br false), (3, .reg [(1, cl [] h2)] []), (4, .reg [(1, cl [] h3)] []), (5, .reg [(2, cl [] h4)] [(3, .bool true), (8, .bool true), (13, .bool false)])] [] [] 0 [pf (df h1), pf h2, pf h3, pf h4, pf (bt h5), pf (dt h6), pf (df h7)]
     · obtain rfl := Option.some.inj h
       exact rr 15 [(2, .br false), (3, .reg [(1, cl [] h2)] []), (4, .reg [(1, cl [] h3)] []), (5, .reg [(2, cl [] h4)] [(3, .bool true), (8, .bool false)])] [] [] 0 [pf (df h1), pf h2, pf h3, pf h4, pf (bt h5), pf (df h6)]
   · obtain rfl := Option.some.inj h
     exact rr 15 [(2, .br false), (3, .reg [(1, cl [] h2)] []), (4, .reg [(1, cl [] h3)] []), (5, .reg [(2, cl [] h4)] [(3, .bool false)])] [] [] 0 [pf (df h1), pf h2, pf h3, pf h4, pf (bf h5)]
end Go.Syn
