/- Part M0 of the model: each function answers as its plain twin in this text says, whenever that twin answers. No other condition. (Printed by a program of this work.) -/
import Derived.Test.YtoioflodpmideaaS
import Derived.Test.YtoioflodpmideaaAbs22
namespace Go.Syn
open Go.Abs Go.Proofs.Try
set_option linter.unusedVariables false
noncomputable def sp_now_O (a0 : Parser) (a1 : Token) : List O := [.var 64 (ca a0)]
noncomputable def sp_now_V (a0 : Parser) (a1 : Token) : V := .agg (ca a1)
noncomputable def sp_now_J (a0 : Parser) (r : Token) : Prop := Has prog 21 [.one (.ptr 0 0)] [.var 64 (ca a0)] (sp_now_O a0 r) (sp_now_V a0 r)
noncomputable def sp_now (a0 : Parser) : Option Token :=
 (idx a0.t a0.i).bind fun x1 =>
 some x1
theorem sp_now_ok : Sd1 sp_now sp_now_J := by
 intro a0 r h
 unfold sp_now at h
 refine ent (c := bodyOf f21) func21 rfl rfl rfl fun cx => ?_
 obtain ⟨x1, h1, h⟩ := bind_some h
 obtain rfl := Option.some.inj h
 exact rr 6 [(1, .reg [(9, .row (Row.cells x1))] [])] [] [(0, 0)] 1 [pf (inP h1), pf (atP h1)]

noncomputable def sp_fail_O (a0 : Parser) : List O := [.var 64 (ca a0)]
noncomputable def sp_fail_V (a0 : Parser) : V := .tup []
noncomputable def sp_fail_J (a0 : Parser) (a1 : Int) (r : Parser) : Prop := Has prog 22 [.one (.ptr 0 0), .one (.int .i64 a1)] [.var 64 (ca a0)] (sp_fail_O r) (sp_fail_V r)
noncomputable def sp_fail (a0 : Parser) (a1 : Int) : Option Parser :=
 if a0.e = 0 then (
  (sp_now a0).bind fun r1 =>
  some (Parser.mk a0.t a0.i a0.deep r1.At a1)
 ) else (
  some a0
 )
theorem sp_fail_ok : Sd2 sp_fail sp_fail_J := by
 intro a0 a1 r h
 unfold sp_fail at h
 refine ent (c := bodyOf f22) func22 rfl rfl rfl fun cx => ?_
 obtain ⟨h1, h⟩ | ⟨h1, h⟩ := ite_some h
 · obtain ⟨r1, h2, h⟩ := bs h fun _ => sp_now_ok
   obtain rfl := Option.some.inj h
   exact rr 5 [(1, .br true), (2, .reg [(4, cl [0] h2 [0])] [])] [] [(0, 0)] 1 [pf (dt h1), pf h2, @pf (SameO (.var 64 (ca a0))) rfl]
 · obtain rfl := Option.some.inj h
   exact rr 5 [(1, .br false)] [] [(0, 0)] 1 [pf (df h1)]

noncomputable def sp_enter_O (a0 : Parser) (a1 : Bool) : List O := [.var 64 (ca a0)]
noncomputable def sp_enter_V (a0 : Parser) (a1 : Bool) : V := .one (.bool a1)
noncomputable def sp_enter_J (a0 : Parser) (r : (Parser × Bool)) : Prop := Has prog 23 [.one (.ptr 0 0)] [.var 64 (ca a0)] (sp_enter_O r.1 r.2) (sp_enter_V r.1 r.2)
noncomputable def sp_enter (a0 : Parser) : Option (Parser × Bool) :=
 if 40 < (IntKind.i64.wrap (a0.deep + 1)) then (
  (sp_fail (Parser.mk a0.t a0.i (IntKind.i64.wrap (a0.deep + 1)) a0.at_ a0.e) 9).bind fun r1 =>
  some (r1, (decide (r1.e = 0)))
 ) else (
  some ((Parser.mk a0.t a0.i (IntKind.i64.wrap (a0.deep + 1)) a0.at_ a0.e), (decide (a0.e = 0)))
 )
theorem sp_enter_ok : Sd1 sp_enter sp_enter_J := by
 intro a0 r h
 unfold sp_enter at h
 refine ent (c := bodyOf f23) func23 rfl rfl rfl fun cx => ?_
 obtain ⟨h1, h⟩ | ⟨h1, h⟩ := ite_some h
 · obtain ⟨r1, h2, h⟩ := bs h fun _ => sp_fail_ok
   obtain rfl := Option.some.inj h
   exact rr 13 [(3, .br true), (4, .reg [(1, cl [0] h2)] [])] [] [(0, 0)] 1 [pf (dt h1), pf h2]
 · obtain rfl := Option.some.inj h
   exact rr 13 [(3, .br false)] [] [(0, 0)] 1 [pf (df h1)]

noncomputable def sp_leave_O (a0 : Parser) : List O := [.var 64 (ca a0)]
noncomputable def sp_leave_V (a0 : Parser) : V := .tup []
noncomputable def sp_leave_J (a0 : Parser) (r : Parser) : Prop := Has prog 28 [.one (.ptr 0 0)] [.var 64 (ca a0)] (sp_leave_O r) (sp_leave_V r)
noncomputable def sp_leave (a0 : Parser) : Option Parser :=
 some (Parser.mk a0.t a0.i (IntKind.i64.wrap (a0.deep - 1)) a0.at_ a0.e)
theorem sp_leave_ok : Sd1 sp_leave sp_leave_J := by
 intro a0 r h
 unfold sp_leave at h
 refine ent (c := bodyOf f28) func28 rfl rfl rfl fun cx => ?_
 obtain rfl := Option.some.inj h
 exact rr 2 [] [] [(0, 0)] 1 []

noncomputable def sp_next_O (a0 : Parser) : List O := [.var 64 (ca a0)]
noncomputable def sp_next_V (a0 : Parser) : V := .tup []
noncomputable def sp_next_J (a0 : Parser) (r : Parser) : Prop := Has prog 42 [.one (.ptr 0 0)] [.var 64 (ca a0)] (sp_next_O r) (sp_next_V r)
noncomputable def sp_next (a0 : Parser) : Option Parser :=
 if a0.i < (IntKind.i64.wrap ((a0.t.length : Int) - 1)) then (
  some (Parser.mk a0.t (IntKind.i64.wrap (a0.i + 1)) a0.deep a0.at_ a0.e)
 ) else (
  some a0
 )
theorem sp_next_ok : Sd1 sp_next sp_next_J := by
 intro a0 r h
 unfold sp_next at h
 refine ent (c := bodyOf f42) func42 rfl rfl rfl fun cx => ?_
 obtain ⟨h1, h⟩ | ⟨h1, h⟩ := ite_some h
 · obtain rfl := Option.some.inj h
   exact rr 5 [(0, .reg [] [(8, .one (.int .i64 (a0.t.length : Int)))]), (1, .br true)] [] [(0, 0)] 1 [@pf (LenP (α := Token) a0.t) (lenP _), pf (dt h1)]
 · obtain rfl := Option.some.inj h
   exact rr 5 [(0, .reg [] [(8, .one (.int .i64 (a0.t.length : Int)))]), (1, .br false)] [] [(0, 0)] 1 [@pf (LenP (α := Token) a0.t) (lenP _), pf (df h1)]

noncomputable def sp_sees_O (a0 : Parser) (a1 : Bool) : List O := [.var 64 (ca a0)]
noncomputable def sp_sees_V (a0 : Parser) (a1 : Bool) : V := .one (.bool a1)
noncomputable def sp_sees_J (a0 : Parser) (a1 : Int) (a2 : Str) (r : Bool) : Prop := Has prog 41 [.one (.ptr 0 0), .one (.int .i64 a1), .one (.str a2)] [.var 64 (ca a0)] (sp_sees_O a0 r) (sp_sees_V a0 r)
noncomputable def sp_sees (a0 : Parser) (a1 : Int) (a2 : Str) : Option Bool :=
 if a0.e = 0 then (
  (sp_now a0).bind fun r1 =>
  if r1.Kind = a1 then (
   (sp_now a0).bind fun r2 =>
   some (decide (r2.Text = a2))
  ) else (
   some false
  )
 ) else (
  some false
 )
theorem sp_sees_ok : Sd3 sp_sees sp_sees_J := by
 intro a0 a1 a2 r h
 unfold sp_sees at h
 refine ent (c := bodyOf f41) func41 rfl rfl rfl fun cx => ?_
 obtain ⟨h1, h⟩ | ⟨h1, h⟩ := ite_some h
 · obtain ⟨r1, h2, h⟩ := bs h fun _ => sp_now_ok
   obtain ⟨h3, h⟩ | ⟨h3, h⟩ := ite_some h
   · obtain ⟨r2, h4, h⟩ := bs h fun _ => sp_now_ok
     obtain rfl := Option.some.inj h
     exact rr 6 [(1, .reg [(7, cl [0] h2 [0]), (14, cl [0] h4 [0])] [(5, .bool true), (12, .bool true)])] [] [(0, 0)] 1 [pf (dt h1), pf h2, @pf (SameO (.var 64 (ca a0))) rfl, pf (dt h3), pf h4, @pf (SameO (.var 64 (ca a0))) rfl]
   · obtain rfl := Option.some.inj h
     exact rr 6 [(1, .reg [(7, cl [0] h2 [0])] [(5, .bool true), (12, .bool false)])] [] [(0, 0)] 1 [pf (dt h1), pf h2, @pf (SameO (.var 64 (ca a0))) rfl, pf (df h3)]
 · obtain rfl := Option.some.inj h
   exact rr 6 [(1, .reg [] [(5, .bool false)])] [] [(0, 0)] 1 [pf (df h1)]

noncomputable def sp_mark_O (a0 : Parser) (a1 : Bool) : List O := [.var 64 (ca a0)]
noncomputable def sp_mark_V (a0 : Parser) (a1 : Bool) : V := .one (.bool a1)
noncomputable def sp_mark_J (a0 : Parser) (a1 : Str) (r : (Parser × Bool)) : Prop := Has prog 44 [.one (.ptr 0 0), .one (.str a1)] [.var 64 (ca a0)] (sp_mark_O r.1 r.2) (sp_mark_V r.1 r.2)
noncomputable def sp_mark (a0 : Parser) (a1 : Str) : Option (Parser × Bool) :=
 (sp_sees a0 4 a1).bind fun r1 =>
 if r1 = true then (
  (sp_next a0).bind fun r2 =>
  some (r2, r1)
 ) else (
  some (a0, r1)
 )
theorem sp_mark_ok : Sd2 sp_mark sp_mark_J := by
 intro a0 a1 r h
 unfold sp_mark at h
 refine ent (c := bodyOf f44) func44 rfl rfl rfl fun cx => ?_
 obtain ⟨r1, h1, h⟩ := bs h fun _ => sp_sees_ok
 obtain ⟨h2, h⟩ | ⟨h2, h⟩ := ite_some h
 · obtain ⟨r2, h3, h⟩ := bs h fun _ => sp_next_ok
   obtain rfl := Option.some.inj h
   exact rr 13 [(1, .reg [(2, cl [0] h1 [0])] []), (3, .br true), (4, .reg [(1, cl [0] h3)] [])] [] [(0, 0)] 1 [pf h1, @pf (SameO (.var 64 (ca a0))) rfl, pf (bt h2), pf h3]
 · obtain rfl := Option.some.inj h
   exact rr 13 [(1, .reg [(2, cl [0] h1 [0])] []), (3, .br false)] [] [(0, 0)] 1 [pf h1, @pf (SameO (.var 64 (ca a0))) rfl, pf (bf h2)]

noncomputable def sp_need_O (a0 : Parser) : List O := [.var 64 (ca a0)]
noncomputable def sp_need_V (a0 : Parser) : V := .tup []
noncomputable def sp_need_J (a0 : Parser) (a1 : Str) (r : Parser) : Prop := Has prog 45 [.one (.ptr 0 0), .one (.str a1)] [.var 64 (ca a0)] (sp_need_O r) (sp_need_V r)
noncomputable def sp_need (a0 : Parser) (a1 : Str) : Option Parser :=
 (sp_mark a0 a1).bind fun (r1, r2) =>
 if r2 = true then (
  some r1
 ) else (
  (sp_fail r1 10).bind fun r3 =>
  some r3
 )
theorem sp_need_ok : Sd2 sp_need sp_need_J := by
 intro a0 a1 r h
 unfold sp_need at h
 refine ent (c := bodyOf f45) func45 rfl rfl rfl fun cx => ?_
 obtain ⟨⟨r1, r2⟩, h1, h⟩ := bs h fun _ => sp_mark_ok
 obtain ⟨h2, h⟩ | ⟨h2, h⟩ := ite_some h
 · obtain rfl := Option.some.inj h
   exact rr 5 [(0, .reg [(2, cl [0] h1)] []), (1, .br false)] [] [(0, 0)] 1 [pf h1, pf (nbf h2)]
 · obtain ⟨r3, h3, h⟩ := bs h fun _ => sp_fail_ok
   obtain rfl := Option.some.inj h
   exact rr 5 [(0, .reg [(2, cl [0] h1)] []), (1, .br true), (2, .reg [(1, cl [0] h3)] [])] [] [(0, 0)] 1 [pf h1, pf (nbt h2), pf h3]

noncomputable def sp_word_O (a0 : Parser) (a1 : Bool) : List O := [.var 64 (ca a0)]
noncomputable def sp_word_V (a0 : Parser) (a1 : Bool) : V := .one (.bool a1)
noncomputable def sp_word_J (a0 : Parser) (a1 : Str) (r : (Parser × Bool)) : Prop := Has prog 27 [.one (.ptr 0 0), .one (.str a1)] [.var 64 (ca a0)] (sp_word_O r.1 r.2) (sp_word_V r.1 r.2)
noncomputable def sp_word (a0 : Parser) (a1 : Str) : Option (Parser × Bool) :=
 (sp_sees a0 1 a1).bind fun r1 =>
 if r1 = true then (
  (sp_next a0).bind fun r2 =>
  some (r2, r1)
 ) else (
  some (a0, r1)
 )
theorem sp_word_ok : Sd2 sp_word sp_word_J := by
 intro a0 a1 r h
 unfold sp_word at h
 refine ent (c := bodyOf f27) func27 rfl rfl rfl fun cx => ?_
 obtain ⟨r1, h1, h⟩ := bs h fun _ => sp_sees_ok
 obtain ⟨h2, h⟩ | ⟨h2, h⟩ := ite_some h
 · obtain ⟨r2, h3, h⟩ := bs h fun _ => sp_next_ok
   obtain rfl := Option.some.inj h
   exact rr 13 [(1, .reg [(2, cl [0] h1 [0])] []), (3, .br true), (4, .reg [(1, cl [0] h3)] [])] [] [(0, 0)] 1 [pf h1, @pf (SameO (.var 64 (ca a0))) rfl, pf (bt h2), pf h3]
 · obtain rfl := Option.some.inj h
   exact rr 13 [(1, .reg [(2, cl [0] h1 [0])] []), (3, .br false)] [] [(0, 0)] 1 [pf h1, @pf (SameO (.var 64 (ca a0))) rfl, pf (bf h2)]

noncomputable def sp_must_O (a0 : Parser) : List O := [.var 64 (ca a0)]
noncomputable def sp_must_V (a0 : Parser) : V := .tup []
noncomputable def sp_must_J (a0 : Parser) (a1 : Str) (r : Parser) : Prop := Has prog 46 [.one (.ptr 0 0), .one (.str a1)] [.var 64 (ca a0)] (sp_must_O r) (sp_must_V r)
noncomputable def sp_must (a0 : Parser) (a1 : Str) : Option Parser :=
 (sp_word a0 a1).bind fun (r1, r2) =>
 if r2 = true then (
  some r1
 ) else (
  (sp_fail r1 10).bind fun r3 =>
  some r3
 )
theorem sp_must_ok : Sd2 sp_must sp_must_J := by
 intro a0 a1 r h
 unfold sp_must at h
 refine ent (c := bodyOf f46) func46 rfl rfl rfl fun cx => ?_
 obtain ⟨⟨r1, r2⟩, h1, h⟩ := bs h fun _ => sp_word_ok
 obtain ⟨h2, h⟩ | ⟨h2, h⟩ := ite_some h
 · obtain rfl := Option.some.inj h
   exact rr 5 [(0, .reg [(2, cl [0] h1)] []), (1, .br false)] [] [(0, 0)] 1 [pf h1, pf (nbf h2)]
 · obtain ⟨r3, h3, h⟩ := bs h fun _ => sp_fail_ok
   obtain rfl := Option.some.inj h
   exact rr 5 [(0, .reg [(2, cl [0] h1)] []), (1, .br true), (2, .reg [(1, cl [0] h3)] [])] [] [(0, 0)] 1 [pf h1, pf (nbt h2), pf h3]

noncomputable def sp_number_O (a0 : Parser) (a1 : Int) : List O := [.var 64 (ca a0)]
noncomputable def sp_number_V (a0 : Parser) (a1 : Int) : V := .one (.int .i64 a1)
noncomputable def sp_number_J (a0 : Parser) (r : (Parser × Int)) : Prop := Has prog 53 [.one (.ptr 0 0)] [.var 64 (ca a0)] (sp_number_O r.1 r.2) (sp_number_V r.1 r.2)
noncomputable def sp_number (a0 : Parser) : Option (Parser × Int) :=
 if a0.e = 0 then (
  (sp_now a0).bind fun r1 =>
  if r1.Kind = 2 then (
   (sp_now a0).bind fun r2 =>
   (sp_next a0).bind fun r3 =>
   some (r3, r2.N)
  ) else (
   (sp_fail a0 10).bind fun r2 =>
   some (r2, 0)
  )
 ) else (
  (sp_fail a0 10).bind fun r1 =>
  some (r1, 0)
 )
theorem sp_number_ok : Sd1 sp_number sp_number_J := by
 intro a0 r h
 unfold sp_number at h
 refine ent (c := bodyOf f53) func53 rfl rfl rfl fun cx => ?_
 obtain ⟨h1, h⟩ | ⟨h1, h⟩ := ite_some h
 · obtain ⟨r1, h2, h⟩ := bs h fun _ => sp_now_ok
   obtain ⟨h3, h⟩ | ⟨h3, h⟩ := ite_some h
   · obtain ⟨r2, h4, h⟩ := bs h fun _ => sp_now_ok
     obtain ⟨r3, h5, h⟩ := bs h fun _ => sp_next_ok
     obtain rfl := Option.some.inj h
     exact rr 15 [(1, .reg [(7, cl [0] h2 [0])] [(5, .bool false)]), (2, .br false), (3, .reg [(1, cl [0] h4 [0])] []), (4, .reg [(1, cl [0] h5)] [])] [] [(0, 0)] 1 [pf (ndf h1), pf h2, @pf (SameO (.var 64 (ca a0))) rfl, pf (ndf h3), pf h4, @pf (SameO (.var 64 (ca a0))) rfl, pf h5]
   · obtain ⟨r2, h4, h⟩ := bs h fun _ => sp_fail_ok
     obtain rfl := Option.some.inj h
     exact rr 12 [(1, .reg [(7, cl [0] h2 [0])] [(5, .bool false)]), (2, .br true), (3, .reg [(1, cl [0] h4)] [])] [] [(0, 0)] 1 [pf (ndf h1), pf h2, @pf (SameO (.var 64 (ca a0))) rfl, pf (ndt h3), pf h4]
 · obtain ⟨r1, h2, h⟩ := bs h fun _ => sp_fail_ok
   obtain rfl := Option.some.inj h
   exact rr 12 [(1, .reg [] [(5, .bool true)]), (3, .reg [(1, cl [0] h2)] [])] [] [(0, 0)] 1 [pf (ndt h1), pf h2]

noncomputable def token_Word_O (a0 : Bool) : List O := []
noncomputable def token_Word_V (a0 : Bool) : V := .one (.bool a0)
noncomputable def token_Word_J (a0 : Str) (r : Bool) : Prop := Has prog 86 [.one (.str a0)] [] (token_Word_O r) (token_Word_V r)
noncomputable def token_Word_j4_K : List Item := stackAt (bodyOf f86) [1, 0, 1, 0, 1, 1, 1, 1, 1, 1, 1] []
noncomputable def token_Word_j4_S (a0 : Str) (a1 : Bool) : St := ⟨[(3, .one (.str a0)), (49, .one (.bool a1))], [], 0, 76, 0⟩
noncomputable def token_Word_j4_J (a0 : Str) (a1 : Bool) (r : Bool) : Prop := ∀ cx : Cx, AK prog cx token_Word_j4_K (token_Word_j4_S a0 a1) (Fin lay f86.results.toList 0 fun o v => o = token_Word_O r ∧ v = token_Word_V r)
noncomputable def token_Word_j4 (a0 : Str) (a1 : Bool) : Option Bool :=
 if a1 = true then (
  some true
 ) else (
  if a0 = s_false then (
   some true
  ) else (
   if a0 = s_bool then (
    some true
   ) else (
    if a0 = s_union then (
     some true
    ) else (
     if a0 = s_update then (
      some true
     ) else (
      if a0 = s_values then (
       some true
      ) else (
       if a0 = s_var then (
        some true
       ) else (
        if a0 = s_visible then (
         some true
        ) else (
         if a0 = s_when then (
          some true
         ) else (
          if a0 = s_where then (
           some true
          ) else (
           if a0 = s_while then (
            some true
           ) else (
            if a0 = s_channel then (
            some true
            ) else (
            if a0 = s_skip then (
            some true
            ) else (
            some false
            )
            )
           )
          )
         )
        )
       )
      )
     )
    )
   )
  )
 )
theorem token_Word_j4_ok : Sd2 token_Word_j4 token_Word_j4_J := by
 intro a0 a1 r h cx
 unfold token_Word_j4 at h
 obtain ⟨h1, h⟩ | ⟨h1, h⟩ := ite_some h
 · obtain rfl := Option.some.inj h
   exact rr 5 [(0, .br true)] [] [] 0 [pf (bt h1)]
 · obtain ⟨h2, h⟩ | ⟨h2, h⟩ := ite_some h
   · obtain rfl := Option.some.inj h
     exact rr 11 [(0, .br false), (2, .br true), (3, .br true)] [] [] 0 [pf (bf h1), pf (dt h2), pf (dt h2)]
   · obtain ⟨h3, h⟩ | ⟨h3, h⟩ := ite_some h
     · obtain rfl := Option.some.inj h
       exact rr 14 [(0, .br false), (2, .br false), (4, .br true), (5, .br true)] [] [] 0 [pf (bf h1), pf (df h2), pf (dt h3), pf (dt h3)]
     · obtain ⟨h4, h⟩ | ⟨h4, h⟩ := ite_some h
       · obtain rfl := Option.some.inj h
         exact rr 17 [(0, .br false), (2, .br false), (4, .br false), (6, .br true), (7, .br true)] [] [] 0 [pf (bf h1), pf (df h2), pf (df h3), pf (dt h4), pf (dt h4)]
       · obtain ⟨h5, h⟩ | ⟨h5, h⟩ := ite_some h
         · obtain rfl := Option.some.inj h
           exact rr 20 [(0, .br false), (2, .br false), (4, .br false), (6, .br false), (8, .br true), (9, .br true)] [] [] 0 [pf (bf h1), pf (df h2), pf (df h3), pf (df h4), pf (dt h5), pf (dt h5)]
         · obtain ⟨h6, h⟩ | ⟨h6, h⟩ := ite_some h
           · obtain rfl := Option.some.inj h
             exact rr 23 [(0, .br false), (2, .br false), (4, .br false), (6, .br false), (8, .br false), (10, .br true), (11, .br true)] [] [] 0 [pf (bf h1), pf (df h2), pf (df h3), pf (df h4), pf (df h5), pf (dt h6), pf (dt h6)]
           · obtain ⟨h7, h⟩ | ⟨h7, h⟩ := ite_some h
             · obtain rfl := Option.some.inj h
               exact rr 26 [(0, .br false), (2, .br false), (4, .br false), (6, .br false), (8, .br false), (10, .br false), (12, .br true), (13, .br true)] [] [] 0 [pf (bf h1), pf (df h2), pf (df h3), pf (df h4), pf (df h5), pf (df h6), pf (dt h7), pf (dt h7)]
             · obtain ⟨h8, h⟩ | ⟨h8, h⟩ := ite_some h
               · obtain rfl := Option.some.inj h
                 exact rr 29 [(0, .br false), (2, .br false), (4, .br false), (6, .br false), (8, .br false), (10, .br false), (12, .br false), (14, .br true), (15, .br true)] [] [] 0 [pf (bf h1), pf (df h2), pf (df h3), pf (df h4), pf (df h5), pf (df h6), pf (df h7), pf (dt h8), pf (dt h8)]
               · obtain ⟨h9, h⟩ | ⟨h9, h⟩ := ite_some h
                 · obtain rfl := Option.some.inj h
                   exact rr 32 [(0, .br false), (2, .br false), (4, .br false), (6, .br false), (8, .br false), (10, .br false), (12, .br false), (14, .br false), (16, .br true), (17, .br true)] [] [] 0 [pf (bf h1), pf (df h2), pf (df h3), pf (df h4), pf (df h5), pf (df h6), pf (df h7), pf (df h8), pf (dt h9), pf (dt h9)]
                 · obtain ⟨h10, h⟩ | ⟨h10, h⟩ := ite_some h
                   · obtain rfl := Option.some.inj h
                     exact rr 35 [(0, .br false), (2, .br false), (4, .br false), (6, .br false), (8, .br false), (10, .br false), (12, .br false), (14, .br false), (16, .br false), (18, .br true), (19, .br true)] [] [] 0 [pf (bf h1), pf (df h2), pf (df h3), pf (df h4), pf (df h5), pf (df h6), pf (df h7), pf (df h8), pf (df h9), pf (dt h10), pf (dt h10)]
                   · obtain ⟨h11, h⟩ | ⟨h11, h⟩ := ite_some h
                     · obtain rfl := Option.some.inj h
                       exact rr 38 [(0, .br false), (2, .br false), (4, .br false), (6, .br false), (8, .br false), (10, .br false), (12, .br false), (14, .br false), (16, .br false), (18, .br false), (20, .br true), (21, .br true)] [] [] 0 [pf (bf h1), pf (df h2), pf (df h3), pf (df h4), pf (df h5), pf (df h6), pf (df h7), pf (df h8), pf (df h9), pf (df h10), pf (dt h11), pf (dt h11)]
                     · obtain ⟨h12, h⟩ | ⟨h12, h⟩ := ite_some h
                       · obtain rfl := Option.some.inj h
                         exact rr 41 [(0, .br false), (2, .br false), (4, .br false), (6, .br false), (8, .br false), (10, .br false), (12, .br false), (14, .br false), (16, .br false), (18, .br false), (20, .br false), (22, .br true), (23, .br true)] [] [] 0 [pf (bf h1), pf (df h2), pf (df h3), pf (df h4), pf (df h5), pf (df h6), pf (df h7), pf (df h8), pf (df h9), pf (df h10), pf (df h11), pf (dt h12), pf (dt h12)]
                       · obtain ⟨h13, h⟩ | ⟨h13, h⟩ := ite_some h
                         · obtain rfl := Option.some.inj h
                           exact rr 41 [(0, .br false), (2, .br false), (4, .br false), (6, .br false), (8, .br false), (10, .br false), (12, .br false), (14, .br false), (16, .br false), (18, .br false), (20, .br false), (22, .br false), (24, .br true)] [] [] 0 [pf (bf h1), pf (df h2), pf (df h3), pf (df h4), pf (df h5), pf (df h6), pf (df h7), pf (df h8), pf (df h9), pf (df h10), pf (df h11), pf (df h12), pf (dt h13)]
                         · obtain rfl := Option.some.inj h
                           exact rr 43 [(0, .br false), (2, .br false), (4, .br false), (6, .br false), (8, .br false), (10, .br false), (12, .br false), (14, .br false), (16, .br false), (18, .br false), (20, .br false), (22, .br false), (24, .br false)] [] [] 0 [pf (bf h1), pf (df h2), pf (df h3), pf (df h4), pf (df h5), pf (df h6), pf (df h7), pf (df h8), pf (df h9), pf (df h10), pf (df h11), pf (df h12), pf (df h13)]

noncomputable def token_Word_j3_K : List Item := stackAt (bodyOf f86) [1, 0, 1, 0, 1, 1, 1, 1, 1] []
noncomputable def token_Word_j3_S (a0 : Str) (a1 : Bool) : St := ⟨[(3, .one (.str a0)), (34, .one (.bool a1))], [], 0, 76, 0⟩
noncomputable def token_Word_j3_J (a0 : Str) (a1 : Bool) (r : Bool) : Prop := ∀ cx : Cx, AK prog cx token_Word_j3_K (token_Word_j3_S a0 a1) (Fin lay f86.results.toList 0 fun o v => o = token_Word_O r ∧ v = token_Word_V r)
noncomputable def token_Word_j3 (a0 : Str) (a1 : Bool) : Option Bool :=
 if a1 = true then (
  some true
 ) else (
  if a0 = s_principal then (
   token_Word_j4 a0 (decide (a0 = s_principal))
  ) else (
   if a0 = s_print then (
    token_Word_j4 a0 (decide (a0 = s_print))
   ) else (
    if a0 = s_proc then (
     token_Word_j4 a0 (decide (a0 = s_proc))
    ) else (
     if a0 = s_raise then (
      token_Word_j4 a0 (decide (a0 = s_raise))
     ) else (
      if a0 = s_rollback then (
       token_Word_j4 a0 (decide (a0 = s_rollback))
      ) else (
       if a0 = s_rows then (
        token_Word_j4 a0 (decide (a0 = s_rows))
       ) else (
        if a0 = s_select then (
         token_Word_j4 a0 (decide (a0 = s_select))
        ) else (
         if a0 = s_set then (
          token_Word_j4 a0 (decide (a0 = s_set))
         ) else (
          if a0 = s_table then (
           token_Word_j4 a0 (decide (a0 = s_table))
          ) else (
           if a0 = s_text then (
            token_Word_j4 a0 (decide (a0 = s_text))
           ) else (
            if a0 = s_then then (
            token_Word_j4 a0 (decide (a0 = s_then))
            ) else (
            if a0 = s_true then (
            token_Word_j4 a0 (decide (a0 = s_true))
            ) else (
            token_Word_j4 a0 (decide (a0 = s_try))
            )
            )
           )
          )
         )
        )
       )
      )
     )
    )
   )
  )
 )
theorem token_Word_j3_ok : Sd2 token_Word_j3 token_Word_j3_J := by
 intro a0 a1 r h cx
 unfold token_Word_j3 at h
 obtain ⟨h1, h⟩ | ⟨h1, h⟩ := ite_some h
 · obtain rfl := Option.some.inj h
   exact rr 5 [(0, .br true)] [] [] 0 [pf (bt h1)]
 · obtain ⟨h2, h⟩ | ⟨h2, h⟩ := ite_some h
   · exact tt 6 [(0, .br false), (2, .br true)] [] [3, 49] [] 0 [pf (bf h1), pf (dt h2)] (token_Word_j4_ok h cx)
   · obtain ⟨h3, h⟩ | ⟨h3, h⟩ := ite_some h
     · exact tt 9 [(0, .br false), (2, .br false), (4, .br true)] [] [3, 49] [] 0 [pf (bf h1), pf (df h2), pf (dt h3)] (token_Word_j4_ok h cx)
     · obtain ⟨h4, h⟩ | ⟨h4, h⟩ := ite_some h
       · exact tt 12 [(0, .br false), (2, .br false), (4, .br false), (6, .br true)] [] [3, 49] [] 0 [pf (bf h1), pf (df h2), pf (df h3), pf (dt h4)] (token_Word_j4_ok h cx)
       · obtain ⟨h5, h⟩ | ⟨h5, h⟩ := ite_some h
         · exact tt 15 [(0, .br false), (2, .br false), (4, .br false), (6, .br false), (8, .br true)] [] [3, 49] [] 0 [pf (bf h1), pf (df h2), pf (df h3), pf (df h4), pf (dt h5)] (token_Word_j4_ok h cx)
         · obtain ⟨h6, h⟩ | ⟨h6, h⟩ := ite_some h
           · exact tt 18 [(0, .br false), (2, .br false), (4, .br false), (6, .br false), (8, .br false), (10, .br true)] [] [3, 49] [] 0 [pf (bf h1), pf (df h2), pf (df h3), pf (df h4), pf (df h5), pf (dt h6)] (token_Word_j4_ok h cx)
           · obtain ⟨h7, h⟩ | ⟨h7, h⟩ := ite_some h
             · exact tt 21 [(0, .br false), (2, .br false), (4, .br false), (6, .br false), (8, .br false), (10, .br false), (12, .br true)] [] [3, 49] [] 0 [pf (bf h1), pf (df h2), pf (df h3), pf (df h4), pf (df h5), pf (df h6), pf (dt h7)] (token_Word_j4_ok h cx)
             · obtain ⟨h8, h⟩ | ⟨h8, h⟩ := ite_some h
               · exact tt 24 [(0, .br false), (2, .br false), (4, .br false), (6, .br false), (8, .br false), (10, .br false), (12, .br false), (14, .br true)] [] [3, 49] [] 0 [pf (bf h1), pf (df h2), pf (df h3), pf (df h4), pf (df h5), pf (df h6), pf (df h7), pf (dt h8)] (token_Word_j4_ok h cx)
               · obtain ⟨h9, h⟩ | ⟨h9, h⟩ := ite_some h
                 · exact tt 27 [(0, .br false), (2, .br false), (4, .br false), (6, .br false), (8, .br false), (10, .br false), (12, .br false), (14, .br false), (16, .br true)] [] [3, 49] [] 0 [pf (bf h1), pf (df h2), pf (df h3), pf (df h4), pf (df h5), pf (df h6), pf (df h7), pf (df h8), pf (dt h9)] (token_Word_j4_ok h cx)
                 · obtain ⟨h10, h⟩ | ⟨h10, h⟩ := ite_some h
                   · exact tt 30 [(0, .br false), (2, .br false), (4, .br false), (6, .br false), (8, .br false), (10, .br false), (12, .br false), (14, .br false), (16, .br false), (18, .br true)] [] [3, 49] [] 0 [pf (bf h1), pf (df h2), pf (df h3), pf (df h4), pf (df h5), pf (df h6), pf (df h7), pf (df h8), pf (df h9), pf (dt h10)] (token_Word_j4_ok h cx)
                   · obtain ⟨h11, h⟩ | ⟨h11, h⟩ := ite_some h
                     · exact tt 33 [(0, .br false), (2, .br false), (4, .br false), (6, .br false), (8, .br false), (10, .br false), (12, .br false), (14, .br false), (16, .br false), (18, .br false), (20, .br true)] [] [3, 49] [] 0 [pf (bf h1), pf (df h2), pf (df h3), pf (df h4), pf (df h5), pf (df h6), pf (df h7), pf (df h8), pf (df h9), pf (df h10), pf (dt h11)] (token_Word_j4_ok h cx)
                     · obtain ⟨h12, h⟩ | ⟨h12, h⟩ := ite_some h
                       · exact tt 36 [(0, .br false), (2, .br false), (4, .br false), (6, .br false), (8, .br false), (10, .br false), (12, .br false), (14, .br false), (16, .br false), (18, .br false), (20, .br false), (22, .br true)] [] [3, 49] [] 0 [pf (bf h1), pf (df h2), pf (df h3), pf (df h4), pf (df h5), pf (df h6), pf (df h7), pf (df h8), pf (df h9), pf (df h10), pf (df h11), pf (dt h12)] (token_Word_j4_ok h cx)
                       · obtain ⟨h13, h⟩ | ⟨h13, h⟩ := ite_some h
                         · exact tt 39 [(0, .br false), (2, .br false), (4, .br false), (6, .br false), (8, .br false), (10, .br false), (12, .br false), (14, .br false), (16, .br false), (18, .br false), (20, .br false), (22, .br false), (24, .br true)] [] [3, 49] [] 0 [pf (bf h1), pf (df h2), pf (df h3), pf (df h4), pf (df h5), pf (df h6), pf (df h7), pf (df h8), pf (df h9), pf (df h10), pf (df h11), pf (df h12), pf (dt h13)] (token_Word_j4_ok h cx)
                         · exact tt 39 [(0, .br false), (2, .br false), (4, .br false), (6, .br false), (8, .br false), (10, .br false), (12, .br false), (14, .br false), (16, .br false), (18, .br false), (20, .br false), (22, .br false), (24, .br false)] [] [3, 49] [] 0 [pf (bf h1), pf (df h2), pf (df h3), pf (df h4), pf (df h5), pf (df h6), pf (df h7), pf (df h8), pf (df h9), pf (df h10), pf (df h11), pf (df h12), pf (df h13)] (token_Word_j4_ok h cx)

noncomputable def token_Word_j2_K : List Item := stackAt (bodyOf f86) [1, 0, 1, 0, 1, 1, 1] []
noncomputable def token_Word_j2_S (a0 : Str) (a1 : Bool) : St := ⟨[(3, .one (.str a0)), (19, .one (.bool a1))], [], 0, 76, 0⟩
noncomputable def token_Word_j2_J (a0 : Str) (a1 : Bool) (r : Bool) : Prop := ∀ cx : Cx, AK prog cx token_Word_j2_K (token_Word_j2_S a0 a1) (Fin lay f86.results.toList 0 fun o v => o = token_Word_O r ∧ v = token_Word_V r)
noncomputable def token_Word_j2 (a0 : Str) (a1 : Bool) : Option Bool :=
 if a1 = true then (
  some true
 ) else (
  if a0 = s_into then (
   token_Word_j3 a0 (decide (a0 = s_into))
  ) else (
   if a0 = s_intersect then (
    token_Word_j3 a0 (decide (a0 = s_intersect))
   ) else (
    if a0 = s_is then (
     token_Word_j3 a0 (decide (a0 = s_is))
    ) else (
     if a0 = s_join then (
      token_Word_j3 a0 (decide (a0 = s_join))
     ) else (
      if a0 = s_key then (
       token_Word_j3 a0 (decide (a0 = s_key))
      ) else (
       if a0 = s_left then (
        token_Word_j3 a0 (decide (a0 = s_left))
       ) else (
        if a0 = s_level then (
         token_Word_j3 a0 (decide (a0 = s_level))
        ) else (
         if a0 = s_levels then (
          token_Word_j3 a0 (decide (a0 = s_levels))
         ) else (
          if a0 = s_limit then (
           token_Word_j3 a0 (decide (a0 = s_limit))
          ) else (
           if a0 = s_not then (
            token_Word_j3 a0 (decide (a0 = s_not))
           ) else (
            if a0 = s_null then (
            token_Word_j3 a0 (decide (a0 = s_null))
            ) else (
            if a0 = s_on then (
            token_Word_j3 a0 (decide (a0 = s_on))
            ) else (
            if a0 = s_or then (
            token_Word_j3 a0 (decide (a0 = s_or))
            ) else (
            token_Word_j3 a0 (decide (a0 = s_order))
            )
            )
            )
           )
          )
         )
        )
       )
      )
     )
    )
   )
  )
 )
theorem token_Word_j2_ok : Sd2 token_Word_j2 token_Word_j2_J := by
 intro a0 a1 r h cx
 unfold token_Word_j2 at h
 obtain ⟨h1, h⟩ | ⟨h1, h⟩ := ite_some h
 · obtain rfl := Option.some.inj h
   exact rr 5 [(0, .br true)] [] [] 0 [pf (bt h1)]
 · obtain ⟨h2, h⟩ | ⟨h2, h⟩ := ite_some h
   · exact tt 6 [(0, .br false), (2, .br true)] [] [3, 34] [] 0 [pf (bf h1), pf (dt h2)] (token_Word_j3_ok h cx)
   · obtain ⟨h3, h⟩ | ⟨h3, h⟩ := ite_some h
     · exact tt 9 [(0, .br false), (2, .br false), (4, .br true)] [] [3, 34] [] 0 [pf (bf h1), pf (df h2), pf (dt h3)] (token_Word_j3_ok h cx)
     · obtain ⟨h4, h⟩ | ⟨h4, h⟩ := ite_some h
       · exact tt 12 [(0, .br false), (2, .br false), (4, .br false), (6, .br true)] [] [3, 34] [] 0 [pf (bf h1), pf (df h2), pf (df h3), pf (dt h4)] (token_Word_j3_ok h cx)
       · obtain ⟨h5, h⟩ | ⟨h5, h⟩ := ite_some h
         · exact tt 15 [(0, .br false), (2, .br false), (4, .br false), (6, .br false), (8, .br true)] [] [3, 34] [] 0 [pf (bf h1), pf (df h2), pf (df h3), pf (df h4), pf (dt h5)] (token_Word_j3_ok h cx)
         · obtain ⟨h6, h⟩ | ⟨h6, h⟩ := ite_some h
           · exact tt 18 [(0, .br false), (2, .br false), (4, .br false), (6, .br false), (8, .br false), (10, .br true)] [] [3, 34] [] 0 [pf (bf h1), pf (df h2), pf (df h3), pf (df h4), pf (df h5), pf (dt h6)] (token_Word_j3_ok h cx)
           · obtain ⟨h7, h⟩ | ⟨h7, h⟩ := ite_some h
             · exact tt 21 [(0, .br false), (2, .br false), (4, .br false), (6, .br false), (8, .br false), (10, .br false), (12, .br true)] [] [3, 34] [] 0 [pf (bf h1), pf (df h2), pf (df h3), pf (df h4), pf (df h5), pf (df h6), pf (dt h7)] (token_Word_j3_ok h cx)
             · obtain ⟨h8, h⟩ | ⟨h8, h⟩ := ite_some h
               · exact tt 24 [(0, .br false), (2, .br false), (4, .br false), (6, .br false), (8, .br false), (10, .br false), (12, .br false), (14, .br true)] [] [3, 34] [] 0 [pf (bf h1), pf (df h2), pf (df h3), pf (df h4), pf (df h5), pf (df h6), pf (df h7), pf (dt h8)] (token_Word_j3_ok h cx)
               · obtain ⟨h9, h⟩ | ⟨h9, h⟩ := ite_some h
                 · exact tt 27 [(0, .br false), (2, .br false), (4, .br false), (6, .br false), (8, .br false), (10, .br false), (12, .br false), (14, .br false), (16, .br true)] [] [3, 34] [] 0 [pf (bf h1), pf (df h2), pf (df h3), pf (df h4), pf (df h5), pf (df h6), pf (df h7), pf (df h8), pf (dt h9)] (token_Word_j3_ok h cx)
                 · obtain ⟨h10, h⟩ | ⟨h10, h⟩ := ite_some h
                   · exact tt 30 [(0, .br false), (2, .br false), (4, .br false), (6, .br false), (8, .br false), (10, .br false), (12, .br false), (14, .br false), (16, .br false), (18, .br true)] [] [3, 34] [] 0 [pf (bf h1), pf (df h2), pf (df h3), pf (df h4), pf (df h5), pf (df h6), pf (df h7), pf (df h8), pf (df h9), pf (dt h10)] (token_Word_j3_ok h cx)
                   · obtain ⟨h11, h⟩ | ⟨h11, h⟩ := ite_some h
                     · exact tt 33 [(0, .br false), (2, .br false), (4, .br false), (6, .br false), (8, .br false), (10, .br false), (12, .br false), (14, .br false), (16, .br false), (18, .br false), (20, .br true)] [] [3, 34] [] 0 [pf (bf h1), pf (df h2), pf (df h3), pf (df h4), pf (df h5), pf (df h6), pf (df h7), pf (df h8), pf (df h9), pf (df h10), pf (dt h11)] (token_Word_j3_ok h cx)
                     · obtain ⟨h12, h⟩ | ⟨h12, h⟩ := ite_some h
                       · exact tt 36 [(0, .br false), (2, .br false), (4, .br false), (6, .br false), (8, .br false), (10, .br false), (12, .br false), (14, .br false), (16, .br false), (18, .br false), (20, .br false), (22, .br true)] [] [3, 34] [] 0 [pf (bf h1), pf (df h2), pf (df h3), pf (df h4), pf (df h5), pf (df h6), pf (df h7), pf (df h8), pf (df h9), pf (df h10), pf (df h11), pf (dt h12)] (token_Word_j3_ok h cx)
                       · obtain ⟨h13, h⟩ | ⟨h13, h⟩ := ite_some h
                         · exact tt 39 [(0, .br false), (2, .br false), (4, .br false), (6, .br false), (8, .br false), (10, .br false), (12, .br false), (14, .br false), (16, .br false), (18, .br false), (20, .br false), (22, .br false), (24, .br true)] [] [3, 34] [] 0 [pf (bf h1), pf (df h2), pf (df h3), pf (df h4), pf (df h5), pf (df h6), pf (df h7), pf (df h8), pf (df h9), pf (df h10), pf (df h11), pf (df h12), pf (dt h13)] (token_Word_j3_ok h cx)
                         · obtain ⟨h14, h⟩ | ⟨h14, h⟩ := ite_some h
                           · exact tt 42 [(0, .br false), (2, .br false), (4, .br false), (6, .br false), (8, .br false), (10, .br false), (12, .br false), (14, .br false), (16, .br false), (18, .br false), (20, .br false), (22, .br false), (24, .br false), (26, .br true)] [] [3, 34] [] 0 [pf (bf h1), pf (df h2), pf (df h3), pf (df h4), pf (df h5), pf (df h6), pf (df h7), pf (df h8), pf (df h9), pf (df h10), pf (df h11), pf (df h12), pf (df h13), pf (dt h14)] (token_Word_j3_ok h cx)
                           · exact tt 42 [(0, .br false), (2, .br false), (4, .br false), (6, .br false), (8, .br false), (10, .br false), (12, .br false), (14, .br false), (16, .br false), (18, .br false), (20, .br false), (22, .br false), (24, .br false), (26, .br false)] [] [3, 34] [] 0 [pf (bf h1), pf (df h2), pf (df h3), pf (df h4), pf (df h5), pf (df h6), pf (df h7), pf (df h8), pf (df h9), pf (df h10), pf (df h11), pf (df h12), pf (df h13), pf (df h14)] (token_Word_j3_ok h cx)

noncomputable def token_Word_j1_K : List Item := stackAt (bodyOf f86) [1, 0, 1, 0, 1] []
noncomputable def token_Word_j1_S (a0 : Str) (a1 : Bool) : St := ⟨[(3, .one (.str a0)), (4, .one (.bool a1))], [], 0, 76, 0⟩
noncomputable def token_Word_j1_J (a0 : Str) (a1 : Bool) (r : Bool) : Prop := ∀ cx : Cx, AK prog cx token_Word_j1_K (token_Word_j1_S a0 a1) (Fin lay f86.results.toList 0 fun o v => o = token_Word_O r ∧ v = token_Word_V r)
noncomputable def token_Word_j1 (a0 : Str) (a1 : Bool) : Option Bool :=
 if a1 = true then (
  some true
 ) else (
  if a0 = s_else then (
   token_Word_j2 a0 (decide (a0 = s_else))
  ) else (
   if a0 = s_end then (
    token_Word_j2 a0 (decide (a0 = s_end))
   ) else (
    if a0 = s_except then (
     token_Word_j2 a0 (decide (a0 = s_except))
    ) else (
     if a0 = s_exists then (
      token_Word_j2 a0 (decide (a0 = s_exists))
     ) else (
      if a0 = s_for then (
       token_Word_j2 a0 (decide (a0 = s_for))
      ) else (
       if a0 = s_from then (
        token_Word_j2 a0 (decide (a0 = s_from))
       ) else (
        if a0 = s_group then (
         token_Word_j2 a0 (decide (a0 = s_group))
        ) else (
         if a0 = s_having then (
          token_Word_j2 a0 (decide (a0 = s_having))
         ) else (
          if a0 = s_hide then (
           token_Word_j2 a0 (decide (a0 = s_hide))
          ) else (
           if a0 = s_if then (
            token_Word_j2 a0 (decide (a0 = s_if))
           ) else (
            if a0 = s_in then (
            token_Word_j2 a0 (decide (a0 = s_in))
            ) else (
            if a0 = s_input then (
            token_Word_j2 a0 (decide (a0 = s_input))
            ) else (
            if a0 = s_insert then (
            token_Word_j2 a0 (decide (a0 = s_insert))
            ) else (
            token_Word_j2 a0 (decide (a0 = s_int))
            )
            )
            )
           )
          )
         )
        )
       )
      )
     )
    )
   )
  )
 )
theorem token_Word_j1_ok : Sd2 token_Word_j1 token_Word_j1_J := by
 intro a0 a1 r h cx
 unfold token_Word_j1 at h
 obtain ⟨h1, h⟩ | ⟨h1, h⟩ := ite_some h
 · obtain rfl := Option.some.inj h
   exact rr 5 [(0, .br true)] [] [] 0 [pf (bt h1)]
 · obtain ⟨h2, h⟩ | ⟨h2, h⟩ := ite_some h
   · exact tt 6 [(0, .br false), (2, .br true)] [] [3, 19] [] 0 [pf (bf h1), pf (dt h2)] (token_Word_j2_ok h cx)
   · obtain ⟨h3, h⟩ | ⟨h3, h⟩ := ite_some h
     · exact tt 9 [(0, .br false), (2, .br false), (4, .br true)] [] [3, 19] [] 0 [pf (bf h1), pf (df h2), pf (dt h3)] (token_Word_j2_ok h cx)
     · obtain ⟨h4, h⟩ | ⟨h4, h⟩ := ite_some h
       · exact tt 12 [(0, .br false), (2, .br false), (4, .br false), (6, .br true)] [] [3, 19] [] 0 [pf (bf h1), pf (df h2), pf (df h3), pf (dt h4)] (token_Word_j2_ok h cx)
       · obtain ⟨h5, h⟩ | ⟨h5, h⟩ := ite_some h
         · exact tt 15 [(0, .br false), (2, .br false), (4, .br false), (6, .br false), (8, .br true)] [] [3, 19] [] 0 [pf (bf h1), pf (df h2), pf (df h3), pf (df h4), pf (dt h5)] (token_Word_j2_ok h cx)
         · obtain ⟨h6, h⟩ | ⟨h6, h⟩ := ite_some h
           · exact tt 18 [(0, .br false), (2, .br false), (4, .br false), (6, .br false), (8, .br false), (10, .br true)] [] [3, 19] [] 0 [pf (bf h1), pf (df h2), pf (df h3), pf (df h4), pf (df h5), pf (dt h6)] (token_Word_j2_ok h cx)
           · obtain ⟨h7, h⟩ | ⟨h7, h⟩ := ite_some h
             · exact tt 21 [(0, .br false), (2, .br false), (4, .br false), (6, .br false), (8, .br false), (10, .br false), (12, .br true)] [] [3, 19] [] 0 [pf (bf h1), pf (df h2), pf (df h3), pf (df h4), pf (df h5), pf (df h6), pf (dt h7)] (token_Word_j2_ok h cx)
             · obtain ⟨h8, h⟩ | ⟨h8, h⟩ := ite_some h
               · exact tt 24 [(0, .br false), (2, .br false), (4, .br false), (6, .br false), (8, .br false), (10, .br false), (12, .br false), (14, .br true)] [] [3, 19] [] 0 [pf (bf h1), pf (df h2), pf (df h3), pf (df h4), pf (df h5), pf (df h6), pf (df h7), pf (dt h8)] (token_Word_j2_ok h cx)
               · obtain ⟨h9, h⟩ | ⟨h9, h⟩ := ite_some h
                 · exact tt 27 [(0, .br false), (2, .br false), (4, .br false), (6, .br false), (8, .br false), (10, .br false), (12, .br false), (14, .br false), (16, .br true)] [] [3, 19] [] 0 [pf (bf h1), pf (df h2), pf (df h3), pf (df h4), pf (df h5), pf (df h6), pf (df h7), pf (df h8), pf (dt h9)] (token_Word_j2_ok h cx)
                 · obtain ⟨h10, h⟩ | ⟨h10, h⟩ := ite_some h
                   · exact tt 30 [(0, .br false), (2, .br false), (4, .br false), (6, .br false), (8, .br false), (10, .br false), (12, .br false), (14, .br false), (16, .br false), (18, .br true)] [] [3, 19] [] 0 [pf (bf h1), pf (df h2), pf (df h3), pf (df h4), pf (df h5), pf (df h6), pf (df h7), pf (df h8), pf (df h9), pf (dt h10)] (token_Word_j2_ok h cx)
                   · obtain ⟨h11, h⟩ | ⟨h11, h⟩ := ite_some h
                     · exact tt 33 [(0, .br false), (2, .br false), (4, .br false), (6, .br false), (8, .br false), (10, .br false), (12, .br false), (14, .br false), (16, .br false), (18, .br false), (20, .br true)] [] [3, 19] [] 0 [pf (bf h1), pf (df h2), pf (df h3), pf (df h4), pf (df h5), pf (df h6), pf (df h7), pf (df h8), pf (df h9), pf (df h10), pf (dt h11)] (token_Word_j2_ok h cx)
                     · obtain ⟨h12, h⟩ | ⟨h12, h⟩ := ite_some h
                       · exact tt 36 [(0, .br false), (2, .br false), (4, .br false), (6, .br false), (8, .br false), (10, .br false), (12, .br false), (14, .br false), (16, .br false), (18, .br false), (20, .br false), (22, .br true)] [] [3, 19] [] 0 [pf (bf h1), pf (df h2), pf (df h3), pf (df h4), pf (df h5), pf (df h6), pf (df h7), pf (df h8), pf (df h9), pf (df h10), pf (df h11), pf (dt h12)] (token_Word_j2_ok h cx)
                       · obtain ⟨h13, h⟩ | ⟨h13, h⟩ := ite_some h
                         · exact tt 39 [(0, .br false), (2, .br false), (4, .br false), (6, .br false), (8, .br false), (10, .br false), (12, .br false), (14, .br false), (16, .br false), (18, .br false), (20, .br false), (22, .br false), (24, .br true)] [] [3, 19] [] 0 [pf (bf h1), pf (df h2), pf (df h3), pf (df h4), pf (df h5), pf (df h6), pf (df h7), pf (df h8), pf (df h9), pf (df h10), pf (df h11), pf (df h12), pf (dt h13)] (token_Word_j2_ok h cx)
                         · obtain ⟨h14, h⟩ | ⟨h14, h⟩ := ite_some h
                           · exact tt 42 [(0, .br false), (2, .br false), (4, .br false), (6, .br false), (8, .br false), (10, .br false), (12, .br false), (14, .br false), (16, .br false), (18, .br false), (20, .br false), (22, .br false), (24, .br false), (26, .br true)] [] [3, 19] [] 0 [pf (bf h1), pf (df h2), pf (df h3), pf (df h4), pf (df h5), pf (df h6), pf (df h7), pf (df h8), pf (df h9), pf (df h10), pf (df h11), pf (df h12), pf (df h13), pf (dt h14)] (token_Word_j2_ok h cx)
                           · exact tt 42 [(0, .br false), (2, .br false), (4, .br false), (6, .br false), (8, .br false), (10, .br false), (12, .br false), (14, .br false), (16, .br false), (18, .br false), (20, .br false), (22, .br false), (24, .br false), (26, .br false)] [] [3, 19] [] 0 [pf (bf h1), pf (df h2), pf (df h3), pf (df h4), pf (df h5), pf (df h6), pf (df h7), pf (df h8), pf (df h9), pf (df h10), pf (df h11), pf (df h12), pf (df h13), pf (df h14)] (token_Word_j2_ok h cx)

noncomputable def token_Word (a0 : Str) : Option Bool :=
 if a0 = s_all then (
  token_Word_j1 a0 (decide (a0 = s_all))
 ) else (
  if a0 = s_and then (
   token_Word_j1 a0 (decide (a0 = s_and))
  ) else (
   if a0 = s_as then (
    token_Word_j1 a0 (decide (a0 = s_as))
   ) else (
    if a0 = s_begin then (
     token_Word_j1 a0 (decide (a0 = s_begin))
    ) else (
     if a0 = s_begins then (
      token_Word_j1 a0 (decide (a0 = s_begins))
     ) else (
      if a0 = s_between then (
       token_Word_j1 a0 (decide (a0 = s_between))
      ) else (
       if a0 = s_by then (
        token_Word_j1 a0 (decide (a0 = s_by))
       ) else (
        if a0 = s_call then (
         token_Word_j1 a0 (decide (a0 = s_call))
        ) else (
         if a0 = s_case then (
          token_Word_j1 a0 (decide (a0 = s_case))
         ) else (
          if a0 = s_catch then (
           token_Word_j1 a0 (decide (a0 = s_catch))
          ) else (
           if a0 = s_commit then (
            token_Word_j1 a0 (decide (a0 = s_commit))
           ) else (
            if a0 = s_delete then (
            token_Word_j1 a0 (decide (a0 = s_delete))
            ) else (
            if a0 = s_desc then (
            token_Word_j1 a0 (decide (a0 = s_desc))
            ) else (
            token_Word_j1 a0 (decide (a0 = s_distinct))
            )
            )
           )
          )
         )
        )
       )
      )
     )
    )
   )
  )
 )
theorem token_Word_ok : Sd1 token_Word token_Word_J := by
 intro a0 r h
 unfold token_Word at h
 refine ent (c := bodyOf f86) func86 rfl rfl rfl fun cx => ?_
 obtain ⟨h1, h⟩ | ⟨h1, h⟩ := ite_some h
 · exact tt 11 [(3, .br true)] [] [3, 4] [] 0 [pf (dt h1)] (token_Word_j1_ok h cx)
 · obtain ⟨h2, h⟩ | ⟨h2, h⟩ := ite_some h
   · exact tt 14 [(3, .br false), (5, .br true)] [] [3, 4] [] 0 [pf (df h1), pf (dt h2)] (token_Word_j1_ok h cx)
   · obtain ⟨h3, h⟩ | ⟨h3, h⟩ := ite_some h
     · exact tt 17 [(3, .br false), (5, .br false), (7, .br true)] [] [3, 4] [] 0 [pf (df h1), pf (df h2), pf (dt h3)] (token_Word_j1_ok h cx)
     · obtain ⟨h4, h⟩ | ⟨h4, h⟩ := ite_some h
       · exact tt 20 [(3, .br false), (5, .br false), (7, .br false), (9, .br true)] [] [3, 4] [] 0 [pf (df h1), pf (df h2), pf (df h3), pf (dt h4)] (token_Word_j1_ok h cx)
       · obtain ⟨h5, h⟩ | ⟨h5, h⟩ := ite_some h
         · exact tt 23 [(3, .br false), (5, .br false), (7, .br false), (9, .br false), (11, .br true)] [] [3, 4] [] 0 [pf (df h1), pf (df h2), pf (df h3), pf (df h4), pf (dt h5)] (token_Word_j1_ok h cx)
         · obtain ⟨h6, h⟩ | ⟨h6, h⟩ := ite_some h
           · exact tt 26 [(3, .br false), (5, .br false), (7, .br false), (9, .br false), (11, .br false), (13, .br true)] [] [3, 4] [] 0 [pf (df h1), pf (df h2), pf (df h3), pf (df h4), pf (df h5), pf (dt h6)] (token_Word_j1_ok h cx)
           · obtain ⟨h7, h⟩ | ⟨h7, h⟩ := ite_some h
             · exact tt 29 [(3, .br false), (5, .br false), (7, .br false), (9, .br false), (11, .br false), (13, .br false), (15, .br true)] [] [3, 4] [] 0 [pf (df h1), pf (df h2), pf (df h3), pf (df h4), pf (df h5), pf (df h6), pf (dt h7)] (token_Word_j1_ok h cx)
             · obtain ⟨h8, h⟩ | ⟨h8, h⟩ := ite_some h
               · exact tt 32 [(3, .br false), (5, .br false), (7, .br false), (9, .br false), (11, .br false), (13, .br false), (15, .br false), (17, .br true)] [] [3, 4] [] 0 [pf (df h1), pf (df h2), pf (df h3), pf (df h4), pf (df h5), pf (df h6), pf (df h7), pf (dt h8)] (token_Word_j1_ok h cx)
               · obtain ⟨h9, h⟩ | ⟨h9, h⟩ := ite_some h
                 · exact tt 35 [(3, .br false), (5, .br false), (7, .br false), (9, .br false), (11, .br false), (13, .br false), (15, .br false), (17, .br false), (19, .br true)] [] [3, 4] [] 0 [pf (df h1), pf (df h2), pf (df h3), pf (df h4), pf (df h5), pf (df h6), pf (df h7), pf (df h8), pf (dt h9)] (token_Word_j1_ok h cx)
                 · obtain ⟨h10, h⟩ | ⟨h10, h⟩ := ite_some h
                   · exact tt 38 [(3, .br false), (5, .br false), (7, .br false), (9, .br false), (11, .br false), (13, .br false), (15, .br false), (17, .br false), (19, .br false), (21, .br true)] [] [3, 4] [] 0 [pf (df h1), pf (df h2), pf (df h3), pf (df h4), pf (df h5), pf (df h6), pf (df h7), pf (df h8), pf (df h9), pf (dt h10)] (token_Word_j1_ok h cx)
                   · obtain ⟨h11, h⟩ | ⟨h11, h⟩ := ite_some h
                     · exact tt 41 [(3, .br false), (5, .br false), (7, .br false), (9, .br false), (11, .br false), (13, .br false), (15, .br false), (17, .br false), (19, .br false), (21, .br false), (23, .br true)] [] [3, 4] [] 0 [pf (df h1), pf (df h2), pf (df h3), pf (df h4), pf (df h5), pf (df h6), pf (df h7), pf (df h8), pf (df h9), pf (df h10), pf (dt h11)] (token_Word_j1_ok h cx)
                     · obtain ⟨h12, h⟩ | ⟨h12, h⟩ := ite_some h
                       · exact tt 44 [(3, .br false), (5, .br false), (7, .br false), (9, .br false), (11, .br false), (13, .br false), (15, .br false), (17, .br false), (19, .br false), (21, .br false), (23, .br false), (25, .br true)] [] [3, 4] [] 0 [pf (df h1), pf (df h2), pf (df h3), pf (df h4), pf (df h5), pf (df h6), pf (df h7), pf (df h8), pf (df h9), pf (df h10), pf (df h11), pf (dt h12)] (token_Word_j1_ok h cx)
                       · obtain ⟨h13, h⟩ | ⟨h13, h⟩ := ite_some h
                         · exact tt 47 [(3, .br false), (5, .br false), (7, .br false), (9, .br false), (11, .br false), (13, .br false), (15, .br false), (17, .br false), (19, .br false), (21, .br false), (23, .br false), (25, .br false), (27, .br true)] [] [3, 4] [] 0 [pf (df h1), pf (df h2), pf (df h3), pf (df h4), pf (df h5), pf (df h6), pf (df h7), pf (df h8), pf (df h9), pf (df h10), pf (df h11), pf (df h12), pf (dt h13)] (token_Word_j1_ok h cx)
                         · exact tt 47 [(3, .br false), (5, .br false), (7, .br false), (9, .br false), (11, .br false), (13, .br false), (15, .br false), (17, .br false), (19, .br false), (21, .br false), (23, .br false), (25, .br false), (27, .br false)] [] [3, 4] [] 0 [pf (df h1), pf (df h2), pf (df h3), pf (df h4), pf (df h5), pf (df h6), pf (df h7), pf (df h8), pf (df h9), pf (df h10), pf (df h11), pf (df h12), pf (df h13)] (token_Word_j1_ok h cx)

noncomputable def sp_named_O (a0 : Parser) (a1 : Bool) : List O := [.var 64 (ca a0)]
noncomputable def sp_named_V (a0 : Parser) (a1 : Bool) : V := .one (.bool a1)
noncomputable def sp_named_J (a0 : Parser) (r : Bool) : Prop := Has prog 72 [.one (.ptr 0 0)] [.var 64 (ca a0)] (sp_named_O a0 r) (sp_named_V a0 r)
noncomputable def sp_named (a0 : Parser) : Option Bool :=
 if a0.e = 0 then (
  (sp_now a0).bind fun r1 =>
  if r1.Kind = 1 then (
   (sp_now a0).bind fun r2 =>
   (token_Word r2.Text).bind fun r3 =>
   some (!r3)
  ) else (
   some false
  )
 ) else (
  some false
 )
theorem sp_named_ok : Sd1 sp_named sp_named_J := by
 intro a0 r h
 unfold sp_named at h
 refine ent (c := bodyOf f72) func72 rfl rfl rfl fun cx => ?_
 obtain ⟨h1, h⟩ | ⟨h1, h⟩ := ite_some h
 · obtain ⟨r1, h2, h⟩ := bs h fun _ => sp_now_ok
   obtain ⟨h3, h⟩ | ⟨h3, h⟩ := ite_some h
   · obtain ⟨r2, h4, h⟩ := bs h fun _ => sp_now_ok
     obtain ⟨r3, h5, h⟩ := bs h fun _ => token_Word_ok
     obtain rfl := Option.some.inj h
     exact rr 6 [(1, .reg [(7, cl [0] h2 [0]), (13, cl [0] h4 [0]), (15, cl [] h5)] [(5, .bool true), (11, .bool true)])] [] [(0, 0)] 1 [pf (dt h1), pf h2, @pf (SameO (.var 64 (ca a0))) rfl, pf (dt h3), pf h4, @pf (SameO (.var 64 (ca a0))) rfl, pf h5]
   · obtain rfl := Option.some.inj h
     exact rr 6 [(1, .reg [(7, cl [0] h2 [0])] [(5, .bool true), (11, .bool false)])] [] [(0, 0)] 1 [pf (dt h1), pf h2, @pf (SameO (.var 64 (ca a0))) rfl, pf (df h3)]
 · obtain rfl := Option.some.inj h
   exact rr 6 [(1, .reg [] [(5, .bool false)])] [] [(0, 0)] 1 [pf (df h1)]

noncomputable def sp_name_O (a0 : Parser) (a1 : Str) : List O := [.var 64 (ca a0)]
noncomputable def sp_name_V (a0 : Parser) (a1 : Str) : V := .one (.str a1)
noncomputable def sp_name_J (a0 : Parser) (r : (Parser × Str)) : Prop := Has prog 55 [.one (.ptr 0 0)] [.var 64 (ca a0)] (sp_name_O r.1 r.2) (sp_name_V r.1 r.2)
noncomputable def sp_name (a0 : Parser) : Option (Parser × Str) :=
 (sp_named a0).bind fun r1 =>
 if r1 = true then (
  (sp_now a0).bind fun r2 =>
  (sp_next a0).bind fun r3 =>
  some (r3, r2.Text)
 ) else (
  (sp_fail a0 10).bind fun r2 =>
  some (r2, [])
 )
theorem sp_name_ok : Sd1 sp_name sp_name_J := by
 intro a0 r h
 unfold sp_name at h
 refine ent (c := bodyOf f55) func55 rfl rfl rfl fun cx => ?_
 obtain ⟨r1, h1, h⟩ := bs h fun _ => sp_named_ok
 obtain ⟨h2, h⟩ | ⟨h2, h⟩ := ite_some h
 · obtain ⟨r2, h3, h⟩ := bs h fun _ => sp_now_ok
   obtain ⟨r3, h4, h⟩ := bs h fun _ => sp_next_ok
   obtain rfl := Option.some.inj h
   exact rr 15 [(1, .reg [(1, cl [0] h1 [0])] []), (2, .br false), (3, .reg [(1, cl [0] h3 [0])] []), (4, .reg [(1, cl [0] h4)] [])] [] [(0, 0)] 1 [pf h1, @pf (SameO (.var 64 (ca a0))) rfl, pf (nbf h2), pf h3, @pf (SameO (.var 64 (ca a0))) rfl, pf h4]
 · obtain ⟨r2, h3, h⟩ := bs h fun _ => sp_fail_ok
   obtain rfl := Option.some.inj h
   exact rr 12 [(1, .reg [(1, cl [0] h1 [0])] []), (2, .br true), (3, .reg [(1, cl [0] h3)] [])] [] [(0, 0)] 1 [pf h1, @pf (SameO (.var 64 (ca a0))) rfl, pf (nbt h2), pf h3]

noncomputable def sp_compared_O (a0 : Parser) (a1 : Expr) : List O := [.var 64 (ca a0)]
noncomputable def sp_compared_V (a0 : Parser) (a1 : Expr) : V := .agg (ca a1)
noncomputable def sp_compared_J (a0 : Parser) (r : (Parser × Expr)) : Prop := Has prog 40 [.one (.ptr 0 0)] [.var 64 (ca a0)] (sp_compared_O r.1 r.2) (sp_compared_V r.1 r.2)
noncomputable def sp_compared_j1_K : List Item := stackAt (bodyOf f40) [1, 1, 1, 0, 1, 0, 1, 1] []
noncomputable def sp_compared_j1_S (a0 : Parser) (a1 : Int) (a2 : List Expr) : St := ⟨[(0, .one (.ptr 0 0)), (2, .one (.ptr 1 0)), (6, .one (.ptr 2 0))], [(0, .var 64 (ca a0)), (1, .var 26 [.int .i64 0, .int .i64 0, .str [], .str [], .nil 6, .nil 10]), (2, .var 26 [.int .i64 9, .int .i64 a1, .str [], .str [], .own 6 (Row.rows (α := Expr) a2) 3, .nil 10]), (3, .row 26 6)], 4, 52, 1⟩
noncomputable def sp_compared_j1_J (a0 : Parser) (a1 : Int) (a2 : List Expr) (r : (Parser × Expr)) : Prop := ∀ cx : Cx, AK prog cx sp_compared_j1_K (sp_compared_j1_S a0 a1 a2) (Fin lay f40.results.toList 1 fun o v => o = sp_compared_O r.1 r.2 ∧ v = sp_compared_V r.1 r.2)
noncomputable def sp_compared_j1 (a0 : Parser) (a1 : Int) (a2 : List Expr) : Option (Parser × Expr) :=
 (sp_must a0 s_null).bind fun r1 =>
 some (r1, (Expr.mk 9 a1 [] [] a2 []))
theorem sp_compared_j1_ok : Sd3 sp_compared_j1 sp_compared_j1_J := by
 intro a0 a1 a2 r h cx
 unfold sp_compared_j1 at h
 obtain ⟨r1, h1, h⟩ := bs h fun _ => sp_must_ok
 obtain rfl := Option.some.inj h
 exact rr 6 [(0, .reg [(1, cl [0] h1)] [])] [] [(0, 0)] 1 [pf h1]

noncomputable def sp_column_O (a0 : Parser) (a1 : Expr) : List O := [.var 64 (ca a0)]
noncomputable def sp_column_V (a0 : Parser) (a1 : Expr) : V := .agg (ca a1)
noncomputable def sp_column_J (a0 : Parser) (r : (Parser × Expr)) : Prop := Has prog 100 [.one (.ptr 0 0)] [.var 64 (ca a0)] (sp_column_O r.1 r.2) (sp_column_V r.1 r.2)
noncomputable def sp_column_j2_K : List Item := stackAt (bodyOf f100) [1, 1, 0, 1, 0, 1, 1] []
noncomputable def sp_column_j2_S (a0 : Parser) (a1 : Str) (a2 : List Expr) : St := ⟨[(0, .one (.ptr 0 0)), (2, .one (.ptr 1 0)), (4, .one (.ptr 2 0))], [(0, .var 64 (ca a0)), (1, .var 26 [.int .i64 0, .int .i64 0, .str [], .str [], .nil 6, .nil 10]), (2, .var 26 [.int .i64 15, .int .i64 0, .str a1, .str [], .own 6 (Row.rows (α := Expr) a2) 3, .nil 10]), (3, .row 26 6)], 4, 37, 1⟩
noncomputable def sp_column_j2_J (a0 : Parser) (a1 : Str) (a2 : List Expr) (r : (Parser × Expr)) : Prop := ∀ cx : Cx, AK prog cx sp_column_j2_K (sp_column_j2_S a0 a1 a2) (Fin lay f100.results.toList 1 fun o v => o = sp_column_O r.1 r.2 ∧ v = sp_column_V r.1 r.2)
noncomputable def sp_column_j2 (a0 : Parser) (a1 : Str) (a2 : List Expr) : Option (Parser × Expr) :=
 (sp_need a0 s_x29).bind fun r1 =>
 some (r1, (Expr.mk 15 0 a1 [] a2 []))
theorem sp_column_j2_ok : Sd3 sp_column_j2 sp_column_j2_J := by
 intro a0 a1 a2 r h cx
 unfold sp_column_j2 at h
 obtain ⟨r1, h1, h⟩ := bs h fun _ => sp_need_ok
 obtain rfl := Option.some.inj h
 exact rr 6 [(0, .reg [(1, cl [0] h1)] [])] [] [(0, 0)] 1 [pf h1]

noncomputable def syntax_gathers_O (a0 : Bool) : List O := []
noncomputable def syntax_gathers_V (a0 : Bool) : V := .one (.bool a0)
noncomputable def syntax_gathers_J (a0 : Str) (r : Bool) : Prop := Has prog 101 [.one (.str a0)] [] (syntax_gathers_O r) (syntax_gathers_V r)
noncomputable def syntax_gathers (a0 : Str) : Option Bool :=
 if a0 = s_count then (
  some true
 ) else (
  if a0 = s_sum then (
   some true
  ) else (
   if a0 = s_min then (
    some true
   ) else (
    if a0 = s_max then (
     some true
    ) else (
     some false
    )
   )
  )
 )
theorem syntax_gathers_ok : Sd1 syntax_gathers syntax_gathers_J := by
 intro a0 r h
 unfold syntax_gathers at h
 refine ent (c := bodyOf f101) func101 rfl rfl rfl fun cx => ?_
 obtain ⟨h1, h⟩ | ⟨h1, h⟩ := ite_some h
 · obtain rfl := Option.some.inj h
   exact rr 24 [(3, .br true), (4, .br true)] [] [] 0 [pf (dt h1), pf (dt h1)]
 · obtain ⟨h2, h⟩ | ⟨h2, h⟩ := ite_some h
   · obtain rfl := Option.some.inj h
     exact rr 24 [(3, .br false), (5, .br true)] [] [] 0 [pf (df h1), pf (dt h2)]
   · obtain ⟨h3, h⟩ | ⟨h3, h⟩ := ite_some h
     · obtain rfl := Option.some.inj h
       exact rr 30 [(3, .br false), (5, .br false), (7, .br true), (8, .br true)] [] [] 0 [pf (df h1), pf (df h2), pf (dt h3), pf (dt h3)]
     · obtain ⟨h4, h⟩ | ⟨h4, h⟩ := ite_some h
       · obtain rfl := Option.some.inj h
         exact rr 30 [(3, .br false), (5, .br false), (7, .br false), (9, .br true)] [] [] 0 [pf (df h1), pf (df h2), pf (df h3), pf (dt h4)]
       · obtain rfl := Option.some.inj h
         exact rr 30 [(3, .br false), (5, .br false), (7, .br false), (9, .br false)] [] [] 0 [pf (df h1), pf (df h2), pf (df h3), pf (df h4)]

noncomputable def syntax_bin_O (a0 : Expr) : List O := []
noncomputable def syntax_bin_V (a0 : Expr) : V := .agg (ca a0)
noncomputable def syntax_bin_J (a0 : Str) (a1 a2 : Expr) (r : Expr) : Prop := Has prog 38 [.one (.str a0), .agg (ca a1), .agg (ca a2)] [] (syntax_bin_O r) (syntax_bin_V r)
noncomputable def syntax_bin (a0 : Str) (a1 a2 : Expr) : Option Expr :=
 some (Expr.mk 10 0 a0 [] [a1, a2] [])
theorem syntax_bin_ok : Sd3 syntax_bin syntax_bin_J := by
 intro a0 a1 a2 r h
 unfold syntax_bin at h
 refine ent (c := bodyOf f38) func38 rfl rfl rfl fun cx => ?_
 obtain rfl := Option.some.inj h
 exact rr 6 [(1, .reg [] [(3, .one (.own 6 (Row.rows (α := Expr) [a1, a2]) 96))])] [] [] 0 [@pf (BldP (α := Expr) [a1, a2] 96) (bldP _ _)]
end Go.Syn
