/- Part M3 of the model: each function answers as its plain twin in this text says, whenever that twin answers. No other condition. (Printed by a program of this work.) -/
import Derived.Test.YtoioflodpmideaaGreatM2
import Derived.Test.YtoioflodpmideaaGreatAbs22
namespace Go.Syn
open Go.Abs Go.Proofs.Tryz
set_option linter.unusedVariables false
noncomputable def syntax_Script_O (a0 : Script) (a1 a2 : Int) : List O := []
noncomputable def syntax_Script_V (a0 : Script) (a1 a2 : Int) : V := .tup [.agg (ca a0), .one (.int .i64 a1), .one (.int .i64 a2)]
noncomputable def syntax_Script_J (a0 : Str) (r : (Script × Int × Int)) : Prop := Has prog 14 [.one (.str a0)] [] (syntax_Script_O r.1 r.2.1 r.2.2) (syntax_Script_V r.1 r.2.1 r.2.2)
noncomputable def syntax_Script (k : Nat) (a0 : Str) : Option (Script × Int × Int) :=
 (syntax_read_t k a0 1).bind fun (r1, r2, r3) =>
 some (r1, r2, r3)
theorem syntax_Script_ok {k : Nat} : Sd1 (syntax_Script k) syntax_Script_J := by
 intro a0 r h
 unfold syntax_Script at h
 refine ent (c := bodyOf f14) func14 rfl rfl rfl fun cx => ?_
 obtain ⟨⟨r1, r2, r3⟩, h1, h⟩ := bs h fun _ => syntax_read_t_ok
 obtain rfl := Option.some.inj h
 exact rr 6 [(1, .reg [(1, cl [] h1)] [])] [] [] 0 [pf h1]

noncomputable def l06_alive_O (a0 : Bool) : List O := []
noncomputable def l06_alive_V (a0 : Bool) : V := .one (.bool a0)
noncomputable def l06_alive_J (r : Bool) : Prop := Has prog 7 [] [] (l06_alive_O r) (l06_alive_V r)
noncomputable def l06_alive (k : Nat) : Option Bool :=
 (syntax_Expr k s_ax20x2bx20bx20x2ax20c).bind fun (r1, r2, r3) =>
 (syntax_Query k s_selectx20ax20asx20xx20fromx20t).bind fun (r4, r5, r6) =>
 (syntax_Script k s_skipx3bx20sipx3b).bind fun (r7, r8, r9) =>
 if (IntKind.i64.wrap (r3 + r6)) = 0 then (
  if r1.Kind = 10 then (
   if r1.S = s_x2b then (
    if (r1.Kids.length : Int) = 2 then (
     (idx r1.Kids 1).bind fun x10 =>
     if x10.S = s_x2a then (
      if r4.Kind = 1 then (
       if r4.Limit = (-1) then (
        if (r4.From.length : Int) = 1 then (
         (idx r4.From 0).bind fun x11 =>
         if x11.As = s_t then (
          if r9 = 10 then (
           some (decide (r8 = 6))
          ) else (
           some false
          )
         ) else (
          some false
         )
        ) else (
         some false
        )
       ) else (
        some false
       )
      ) else (
       some false
      )
     ) else (
      some false
     )
    ) else (
     some false
    )
   ) else (
    some false
   )
  ) else (
   some false
  )
 ) else (
  some false
 )
theorem l06_alive_ok {k : Nat} : Sd0 (l06_alive k) l06_alive_J := by
 intro r h
 unfold l06_alive at h
 refine ent (c := bodyOf f7) func7 rfl rfl rfl fun cx => ?_
 obtain ⟨⟨r1, r2, r3⟩, h1, h⟩ := bs h fun _ => syntax_Expr_ok
 obtain ⟨⟨r4, r5, r6⟩, h2, h⟩ := bs h fun _ => syntax_Query_ok
 obtain ⟨⟨r7, r8, r9⟩, h3, h⟩ := bs h fun _ => syntax_Script_ok
 obtain ⟨h4, h⟩ | ⟨h4, h⟩ := ite_some h
 · obtain ⟨h5, h⟩ | ⟨h5, h⟩ := ite_some h
   · obtain ⟨h6, h⟩ | ⟨h6, h⟩ := ite_some h
     · obtain ⟨h7, h⟩ | ⟨h7, h⟩ := ite_some h
       · obtain ⟨x10, h8, h⟩ := bind_some h
         obtain ⟨h9, h⟩ | ⟨h9, h⟩ := ite_some h
         · obtain ⟨h10, h⟩ | ⟨h10, h⟩ := ite_some h
           · obtain ⟨h11, h⟩ | ⟨h11, h⟩ := ite_some h
             · obtain ⟨h12, h⟩ | ⟨h12, h⟩ := ite_some h
               · obtain ⟨x11, h13, h⟩ := bind_some h
                 obtain ⟨h14, h⟩ | ⟨h14, h⟩ := ite_some h
                 · obtain ⟨h15, h⟩ | ⟨h15, h⟩ := ite_some h
                   · obtain rfl := Option.some.inj h
                     exact rr 12 [(1, .reg [(0, cl [] h1)] []), (2, .reg [(0, cl [] h2)] []), (3, .reg [(0, cl [] h3)] []), (4, .reg [(25, .row (Row.cells x10)), (49, .row (Row.cells x11))] [(4, .bool true), (9, .bool true), (14, .bool true), (17, .one (.int .i64 (r1.Kids.length : Int))), (20, .bool true), (28, .bool true), (33, .bool true), (38, .bool true), (41, .one (.int .i64 (r4.From.length : Int))), (44, .bool true), (52, .bool true), (56, .bool true)])] [] [] 0 [pf h1, pf h2, pf h3, pf (dt h4), pf (dt h5), pf (dt h6), @pf (LenP (α := Expr) r1.Kids) (lenP _), pf (dt h7), pf (inP h8), pf (atP h8), pf (dt h9), pf (dt h10), pf (dt h11), @pf (LenP (α := From) r4.From) (lenP _), pf (dt h12), pf (inP h13), pf (atP h13), pf (dt h14), pf (dt h15)]
                   · obtain rfl := Option.some.inj h
                     exact rr 12 [(1, .reg [(0, cl [] h1)] []), (2, .reg [(0, cl [] h2)] []), (3, .reg [(0, cl [] h3)] []), (4, .reg [(25, .row (Row.cells x10)), (49, .row (Row.cells x11))] [(4, .bool true), (9, .bool true), (14, .bool true), (17, .one (.int .i64 (r1.Kids.length : Int))), (20, .bool true), (28, .bool true), (33, .bool true), (38, .bool true), (41, .one (.int .i64 (r4.From.length : Int))), (44, .bool true), (52, .bool true), (56, .bool false)])] [] [] 0 [pf h1, pf h2, pf h3, pf (dt h4), pf (dt h5), pf (dt h6), @pf (LenP (α := Expr) r1.Kids) (lenP _), pf (dt h7), pf (inP h8), pf (atP h8), pf (dt h9), pf (dt h10), pf (dt h11), @pf (LenP (α := From) r4.From) (lenP _), pf (dt h12), pf (inP h13), pf (atP h13), pf (dt h14), pf (df h15)]
                 · obtain rfl := Option.some.inj h
                   exact rr 12 [(1, .reg [(0, cl [] h1)] []), (2, .reg [(0, cl [] h2)] []), (3, .reg [(0, cl [] h3)] []), (4, .reg [(25, .row (Row.cells x10)), (49, .row (Row.cells x11))] [(4, .bool true), (9, .bool true), (14, .bool true), (17, .one (.int .i64 (r1.Kids.length : Int))), (20, .bool true), (28, .bool true), (33, .bool true), (38, .bool true), (41, .one (.int .i64 (r4.From.length : Int))), (44, .bool true), (52, .bool false)])] [] [] 0 [pf h1, pf h2, pf h3, pf (dt h4), pf (dt h5), pf (dt h6), @pf (LenP (α := Expr) r1.Kids) (lenP _), pf (dt h7), pf (inP h8), pf (atP h8), pf (dt h9), pf (dt h10), pf (dt h11), @pf (LenP (α := From) r4.From) (lenP _), pf (dt h12), pf (inP h13), pf (atP h13), pf (df h14)]
               · obtain rfl := Option.some.inj h
                 exact rr 12 [(1, .reg [(0, cl [] h1)] []), (2, .reg [(0, cl [] h2)] []), (3, .reg [(0, cl [] h3)] []), (4, .reg [(25, .row (Row.cells x10))] [(4, .bool true), (9, .bool true), (14, .bool true), (17, .one (.int .i64 (r1.Kids.length : Int))), (20, .bool true), (28, .bool true), (33, .bool true), (38, .bool true), (41, .one (.int .i64 (r4.From.length : Int))), (44, .bool false)])] [] [] 0 [pf h1, pf h2, pf h3, pf (dt h4), pf (dt h5), pf (dt h6), @pf (LenP (α := Expr) r1.Kids) (lenP _), pf (dt h7), pf (inP h8), pf (atP h8), pf (dt h9), pf (dt h10), pf (dt h11), @pf (LenP (α := From) r4.From) (lenP _), pf (df h12)]
             · obtain rfl := Option.some.inj h
               exact rr 12 [(1, .reg [(0, cl [] h1)] []), (2, .reg [(0, cl [] h2)] []), (3, .reg [(0, cl [] h3)] []), (4, .reg [(25, .row (Row.cells x10))] [(4, .bool true), (9, .bool true), (14, .bool true), (17, .one (.int .i64 (r1.Kids.length : Int))), (20, .bool true), (28, .bool true), (33, .bool true), (38, .bool false)])] [] [] 0 [pf h1, pf h2, pf h3, pf (dt h4), pf (dt h5), pf (dt h6), @pf (LenP (α := Expr) r1.Kids) (lenP _), pf (dt h7), pf (inP h8), pf (atP h8), pf (dt h9), pf (dt h10), pf (df h11)]
           · obtain rfl := Option.some.inj h
             exact rr 12 [(1, .reg [(0, cl [] h1)] []), (2, .reg [(0, cl [] h2)] []), (3, .reg [(0, cl [] h3)] []), (4, .reg [(25, .row (Row.cells x10))] [(4, .bool true), (9, .bool true), (14, .bool true), (17, .one (.int .i64 (r1.Kids.length : Int))), (20, .bool true), (28, .bool true), (33, .bool false)])] [] [] 0 [pf h1, pf h2, pf h3, pf (dt h4), pf (dt h5), pf (dt h6), @pf (LenP (α := Expr) r1.Kids) (lenP _), pf (dt h7), pf (inP h8), pf (atP h8), pf (dt h9), pf (df h10)]
         · obtain rfl := Option.some.inj h
           exact rr 12 [(1, .reg [(0, cl [] h1)] []), (2, .reg [(0, cl [] h2)] []), (3, .reg [(0, cl [] h3)] []), (4, .reg [(25, .row (Row.cells x10))] [(4, .bool true), (9, .bool true), (14, .bool true), (17, .one (.int .i64 (r1.Kids.length : Int))), (20, .bool true), (28, .bool false)])] [] [] 0 [pf h1, pf h2, pf h3, pf (dt h4), pf (dt h5), pf (dt h6), @pf (LenP (α := Expr) r1.Kids) (lenP _), pf (dt h7), pf (inP h8), pf (atP h8), pf (df h9)]
       · obtain rfl := Option.some.inj h
         exact rr 12 [(1, .reg [(0, cl [] h1)] []), (2, .reg [(0, cl [] h2)] []), (3, .reg [(0, cl [] h3)] []), (4, .reg [] [(4, .bool true), (9, .bool true), (14, .bool true), (17, .one (.int .i64 (r1.Kids.length : Int))), (20, .bool false)])] [] [] 0 [pf h1, pf h2, pf h3, pf (dt h4), pf (dt h5), pf (dt h6), @pf (LenP (α := Expr) r1.Kids) (lenP _), pf (df h7)]
     · obtain rfl := Option.some.inj h
       exact rr 12 [(1, .reg [(0, cl [] h1)] []), (2, .reg [(0, cl [] h2)] []), (3, .reg [(0, cl [] h3)] []), (4, .reg [] [(4, .bool true), (9, .bool true), (14, .bool false)])] [] [] 0 [pf h1, pf h2, pf h3, pf (dt h4), pf (dt h5), pf (df h6)]
   · obtain rfl := Option.some.inj h
     exact rr 12 [(1, .reg [(0, cl [] h1)] []), (2, .reg [(0, cl [] h2)] []), (3, .reg [(0, cl [] h3)] []), (4, .reg [] [(4, .bool true), (9, .bool false)])] [] [] 0 [pf h1, pf h2, pf h3, pf (dt h4), pf (df h5)]
 · obtain rfl := Option.some.inj h
   exact rr 12 [(1, .reg [(0, cl [] h1)] []), (2, .reg [(0, cl [] h2)] []), (3, .reg [(0, cl [] h3)] []), (4, .reg [] [(4, .bool false)])] [] [] 0 [pf h1, pf h2, pf h3, pf (df h4)]

noncomputable def r05_digit_O (a0 : Bool) : List O := []
noncomputable def r05_digit_V (a0 : Bool) : V := .one (.bool a0)
noncomputable def r05_digit_J (a0 : UInt8) (r : Bool) : Prop := Has prog 118 [.one (.int .u8 (a0.toNat : Int))] [] (r05_digit_O r) (r05_digit_V r)
noncomputable def r05_digit (a0 : UInt8) : Option Bool :=
 if 48 ≤ (a0.toNat : Int) then (
  some (decide ((a0.toNat : Int) ≤ 57))
 ) else (
  some false
 )
theorem r05_digit_ok : Sd1 r05_digit r05_digit_J := by
 intro a0 r h
 unfold r05_digit at h
 refine ent (c := bodyOf f118) func118 rfl rfl rfl fun cx => ?_
 obtain ⟨h1, h⟩ | ⟨h1, h⟩ := ite_some h
 · obtain rfl := Option.some.inj h
   exact rr 6 [(1, .reg [] [(2, .bool true)])] [] [] 0 [pf (dt h1)]
 · obtain rfl := Option.some.inj h
   exact rr 6 [(1, .reg [] [(2, .bool false)])] [] [] 0 [pf (df h1)]

noncomputable def r05_letter_O (a0 : Bool) : List O := []
noncomputable def r05_letter_V (a0 : Bool) : V := .one (.bool a0)
noncomputable def r05_letter_J (a0 : UInt8) (r : Bool) : Prop := Has prog 117 [.one (.int .u8 (a0.toNat : Int))] [] (r05_letter_O r) (r05_letter_V r)
noncomputable def r05_letter (a0 : UInt8) : Option Bool :=
 if 97 ≤ (a0.toNat : Int) then (
  if (a0.toNat : Int) ≤ 122 then (
   some true
  ) else (
   if 65 ≤ (a0.toNat : Int) then (
    if (a0.toNat : Int) ≤ 90 then (
     some true
    ) else (
     some (decide ((a0.toNat : Int) = 95))
    )
   ) else (
    some (decide ((a0.toNat : Int) = 95))
   )
  )
 ) else (
  if 65 ≤ (a0.toNat : Int) then (
   if (a0.toNat : Int) ≤ 90 then (
    some true
   ) else (
    some (decide ((a0.toNat : Int) = 95))
   )
  ) else (
   some (decide ((a0.toNat : Int) = 95))
  )
 )
theorem r05_letter_ok : Sd1 r05_letter r05_letter_J := by
 intro a0 r h
 unfold r05_letter at h
 refine ent (c := bodyOf f117) func117 rfl rfl rfl fun cx => ?_
 obtain ⟨h1, h⟩ | ⟨h1, h⟩ := ite_some h
 · obtain ⟨h2, h⟩ | ⟨h2, h⟩ := ite_some h
   · obtain rfl := Option.some.inj h
     exact rr 6 [(1, .reg [] [(2, .bool true), (6, .bool true)])] [] [] 0 [pf (dt h1), pf (dt h2)]
   · obtain ⟨h3, h⟩ | ⟨h3, h⟩ := ite_some h
     · obtain ⟨h4, h⟩ | ⟨h4, h⟩ := ite_some h
       · obtain rfl := Option.some.inj h
         exact rr 6 [(1, .reg [] [(2, .bool true), (6, .bool false), (9, .bool true), (14, .bool true)])] [] [] 0 [pf (dt h1), pf (df h2), pf (dt h3), pf (dt h4)]
       · obtain rfl := Option.some.inj h
         exact rr 6 [(1, .reg [] [(2, .bool true), (6, .bool false), (9, .bool true), (14, .bool false)])] [] [] 0 [pf (dt h1), pf (df h2), pf (dt h3), pf (df h4)]
     · obtain rfl := Option.some.inj h
       exact rr 6 [(1, .reg [] [(2, .bool true), (6, .bool false), (9, .bool false)])] [] [] 0 [pf (dt h1), pf (df h2), pf (df h3)]
 · obtain ⟨h2, h⟩ | ⟨h2, h⟩ := ite_some h
   · obtain ⟨h3, h⟩ | ⟨h3, h⟩ := ite_some h
     · obtain rfl := Option.some.inj h
       exact rr 6 [(1, .reg [] [(2, .bool false), (9, .bool true), (14, .bool true)])] [] [] 0 [pf (df h1), pf (dt h2), pf (dt h3)]
     · obtain rfl := Option.some.inj h
       exact rr 6 [(1, .reg [] [(2, .bool false), (9, .bool true), (14, .bool false)])] [] [] 0 [pf (df h1), pf (dt h2), pf (df h3)]
   · obtain rfl := Option.some.inj h
     exact rr 6 [(1, .reg [] [(2, .bool false), (9, .bool false)])] [] [] 0 [pf (df h1), pf (df h2)]

noncomputable def r05_Marks_O (a0 : List Str) : List O := []
noncomputable def r05_Marks_V (a0 : List Str) : V := .one (.c (.sl 1 (Row.rows (α := Str) a0)))
noncomputable def r05_Marks_J (r : ((List Str))) : Prop := Has prog 120 [] [] (r05_Marks_O r) (r05_Marks_V r)
noncomputable def r05_Marks : Option ((List Str)) :=
 some [s_x7cx7c, s_x3cx3e, s_x3cx3d, s_x3ex3d, s_x28, s_x29, s_x2c, s_x3b, s_x2e, s_x2a, s_x2b, s_x2d, s_x2f, s_x25, s_x3d, s_x3c, s_x3e, s_x7b, s_x7d, s_x3a]
theorem r05_Marks_ok : Sd0 r05_Marks r05_Marks_J := by
 intro r h
 unfold r05_Marks at h
 refine ent (c := bodyOf f120) func120 rfl rfl rfl fun cx => ?_
 obtain rfl := Option.some.inj h
 exact rr 6 [(1, .reg [] [(0, .one (.own 1 (Row.rows (α := Str) [s_x7cx7c, s_x3cx3e, s_x3cx3d, s_x3ex3d, s_x28, s_x29, s_x2c, s_x3b, s_x2e, s_x2a, s_x2b, s_x2d, s_x2f, s_x25, s_x3d, s_x3c, s_x3e, s_x7b, s_x7d, s_x3a]) 16))])] [] [] 0 [@pf (BldP (α := Str) [s_x7cx7c, s_x3cx3e, s_x3cx3d, s_x3ex3d, s_x28, s_x29, s_x2c, s_x3b, s_x2e, s_x2a, s_x2b, s_x2d, s_x2f, s_x25, s_x3d, s_x3c, s_x3e, s_x7b, s_x7d, s_x3a] 16) (bldP _ _)]

noncomputable def r05_one_O (a0 : Token) (a1 a2 a3 : Int) : List O := []
noncomputable def r05_one_V (a0 : Token) (a1 a2 a3 : Int) : V := .tup [.agg (ca a0), .one (.int .i64 a1), .one (.int .i64 a2), .one (.int .i64 a3)]
noncomputable def r05_one_J (a0 : Str) (a1 : Int) (r : (Token × Int × Int × Int)) : Prop := Has prog 85 [.one (.str a0), .one (.int .i64 a1)] [] (r05_one_O r.1 r.2.1 r.2.2.1 r.2.2.2) (r05_one_V r.1 r.2.1 r.2.2.1 r.2.2.2)
noncomputable def r05_one_l4_K : List Item := stackAt (bodyOf f85) [1, 1, 1, 0, 1, 0, 1, 1, 1, 1, 1, 1, 0, 1, 0, 0] []
noncomputable def r05_one_l4_S (a0 : Token) (a1 : Str) (a2 a3 : Int) : St := ⟨[(0, .one (.str a1)), (4, .one (.ptr 0 0)), (9, .one (.int .i64 a2)), (11, .one (.ptr 1 0)), (12, .one (.int .i64 a3))], [(0, .var 107 [.int .i64 0, .str [], .int .i64 0, .int .i64 0]), (1, .var 107 (ca a0))], 2, 166, 0⟩
noncomputable def r05_one_l4_J (a0 : Token) (a1 : Str) (a2 a3 : Int) (r : (Token × Int × Int × Int)) : Prop := ∀ cx : Cx, AK prog cx r05_one_l4_K (r05_one_l4_S a0 a1 a2 a3) (Fin lay f85.results.toList 0 fun o v => o = r05_one_O r.1 r.2.1 r.2.2.1 r.2.2.2 ∧ v = r05_one_V r.1 r.2.1 r.2.2.1 r.2.2.2)
structure Tab_r05_one_l4 where
 k : Nat
 r05_one_l4 : Token → Str → Int → Int → Option (Token × Int × Int × Int)
noncomputable def r05_one_l4_b (T : Tab_r05_one_l4) (a0 : Token) (a1 : Str) (a2 a3 : Int) : Option (Token × Int × Int × Int) :=
 if a3 < a2 then (
  chk (0 ≤ a3 ∧ a3 < (a1.length : Int)) <|
  T.r05_one_l4 (Token.mk a0.Kind a0.Text (IntKind.i64.wrap ((IntKind.i64.wrap ((IntKind.i64.wrap (10 * a0.N)) + (IntKind.i64.wrap (byteAt a1 a3)))) - 48)) a0.At) a1 a2 (IntKind.i64.wrap (a3 + 1))
 ) else (
  some (a0, a2, 0, 0)
 )
noncomputable def tab_r05_one_l4 : Nat → Tab_r05_one_l4
 | 0 => ⟨0, fun _ _ _ _ => none⟩
 | k + 1 => ⟨k + 1, r05_one_l4_b (tab_r05_one_l4 k)⟩
noncomputable def r05_one_l4 (k : Nat) := (tab_r05_one_l4 k).r05_one_l4
structure Ok_r05_one_l4 (m : Nat) : Prop where
 r05_one_l4 : Sd4 (tab_r05_one_l4 m).r05_one_l4 r05_one_l4_J
theorem r05_one_l4_okb {m : Nat} (ih : Ok_r05_one_l4 m) : Sd4 (r05_one_l4_b (tab_r05_one_l4 m)) r05_one_l4_J := by
 intro a0 a1 a2 a3 r h cx
 unfold r05_one_l4_b at h
 obtain ⟨h1, h⟩ | ⟨h1, h⟩ := ite_some h
 · obtain ⟨h2, h⟩ := chk_some h
   exact tt 11 [(1, .br true)] [] [0, 4, 9, 11, 12] [(0, 0), (1, 1)] 2 [pf (dt h1), pf h2] (ih.r05_one_l4 h cx)
 · obtain rfl := Option.some.inj h
   exact rr 9 [(1, .br false)] [] [] 0 [pf (df h1)]
theorem ok_r05_one_l4 : ∀ m, Ok_r05_one_l4 m
 | 0 => ⟨(fun h => nomatch (show none = some _ from h))⟩
 | m + 1 => ⟨r05_one_l4_okb (ok_r05_one_l4 m)⟩
theorem r05_one_l4_ok {k : Nat} : Sd4 (r05_one_l4 k) r05_one_l4_J := (ok_r05_one_l4 k).r05_one_l4

noncomputable def r05_one_j3_K : List Item := stackAt (bodyOf f85) [1, 1, 1, 0, 1, 0, 1, 0, 0, 0, 0, 1] []
noncomputable def r05_one_j3_S (a0 : Str) (a1 a2 : Int) (a3 a4 : Bool) : St := ⟨[(0, .one (.str a0)), (1, .one (.int .i64 a1)), (4, .one (.ptr 0 0)), (8, .one (.ptr 1 0)), (9, .one (.int .i64 a2)), (10, .one (.bool a3)), (53, .one (.bool a4))], [(0, .var 107 [.int .i64 0, .str [], .int .i64 0, .int .i64 0]), (1, .var 107 [.int .i64 0, .str [], .int .i64 0, .int .i64 0])], 2, 166, 0⟩
noncomputable def r05_one_j3_J (a0 : Str) (a1 a2 : Int) (a3 a4 : Bool) (r : (Token × Int × Int × Int)) : Prop := ∀ cx : Cx, AK prog cx r05_one_j3_K (r05_one_j3_S a0 a1 a2 a3 a4) (Fin lay f85.results.toList 0 fun o v => o = r05_one_O r.1 r.2.1 r.2.2.1 r.2.2.2 ∧ v = r05_one_V r.1 r.2.1 r.2.2.1 r.2.2.2)
noncomputable def r05_one_l2_K : List Item := stackAt (bodyOf f85) [1, 1, 1, 0, 1, 0, 1, 0, 0, 0] []
noncomputable def r05_one_l2_S (a0 : Str) (a1 a2 : Int) (a3 : Bool) : St := ⟨[(0, .one (.str a0)), (1, .one (.int .i64 a1)), (4, .one (.ptr 0 0)), (8, .one (.ptr 1 0)), (9, .one (.int .i64 a2)), (10, .one (.bool a3))], [(0, .var 107 [.int .i64 0, .str [], .int .i64 0, .int .i64 0]), (1, .var 107 [.int .i64 0, .str [], .int .i64 0, .int .i64 0])], 2, 166, 0⟩
noncomputable def r05_one_l2_J (a0 : Str) (a1 a2 : Int) (a3 : Bool) (r : (Token × Int × Int × Int)) : Prop := ∀ cx : Cx, AK prog cx r05_one_l2_K (r05_one_l2_S a0 a1 a2 a3) (Fin lay f85.results.toList 0 fun o v => o = r05_one_O r.1 r.2.1 r.2.2.1 r.2.2.2 ∧ v = r05_one_V r.1 r.2.1 r.2.2.1 r.2.2.2)
structure Tab_r05_one_j3 where
 k : Nat
 r05_one_l2 : Str → Int → Int → Bool → Option (Token × Int × Int × Int)
noncomputable def r05_one_j3_b (T : Tab_r05_one_j3) (a0 : Str) (a1 a2 : Int) (a3 a4 : Bool) : Option (Token × Int × Int × Int) :=
 if a4 = true then (
  T.r05_one_l2 a0 a1 (IntKind.i64.wrap (a2 + 1)) a3
 ) else (
  chk (0 ≤ a1 ∧ a1 ≤ a2 ∧ a2 ≤ (a0.length : Int)) <|
  if a3 = true then (
   if 30 < (IntKind.i64.wrap (a2 - a1)) then (
    some ((Token.mk 0 [] 0 0), 0, a1, 10)
   ) else (
    some ((Token.mk 1 (sub a0 a1 a2) 0 a1), a2, 0, 0)
   )
  ) else (
   if 18 < (IntKind.i64.wrap (a2 - a1)) then (
    some ((Token.mk 0 [] 0 0), 0, a1, 10)
   ) else (
    r05_one_l4 T.k (Token.mk 2 (sub a0 a1 a2) 0 a1) a0 a2 a1
   )
  )
 )
noncomputable def r05_one_l2_b (T : Tab_r05_one_j3) (a0 : Str) (a1 a2 : Int) (a3 : Bool) : Option (Token × Int × Int × Int) :=
 if a2 < (a0.length : Int) then (
  chk (0 ≤ a2 ∧ a2 < (a0.length : Int)) <|
  (r05_digit (u8At a0 a2)).bind fun r1 =>
  if r1 = true then (
   r05_one_j3_b T a0 a1 a2 a3 true
  ) else (
   if a3 = true then (
    (r05_letter (u8At a0 a2)).bind fun r2 =>
    r05_one_j3_b T a0 a1 a2 a3 r2
   ) else (
    r05_one_j3_b T a0 a1 a2 a3 false
   )
  )
 ) else (
  r05_one_j3_b T a0 a1 a2 a3 false
 )
noncomputable def tab_r05_one_j3 : Nat → Tab_r05_one_j3
 | 0 => ⟨0, fun _ _ _ _ => none⟩
 | k + 1 => ⟨k + 1, r05_one_l2_b (tab_r05_one_j3 k)⟩
noncomputable def r05_one_l2 (k : Nat) := (tab_r05_one_j3 k).r05_one_l2
structure Ok_r05_one_j3 (m : Nat) : Prop where
 r05_one_l2 : Sd4 (tab_r05_one_j3 m).r05_one_l2 r05_one_l2_J
theorem r05_one_j3_okb {m : Nat} (ih : Ok_r05_one_j3 m) : Sd5 (r05_one_j3_b (tab_r05_one_j3 m)) r05_one_j3_J := by
 intro a0 a1 a2 a3 a4 r h cx
 unfold r05_one_j3_b at h
 obtain ⟨h1, h⟩ | ⟨h1, h⟩ := ite_some h
 · exact tt 6 [(0, .br true)] [] [0, 1, 4, 8, 9, 10] [(0, 0), (1, 1)] 2 [pf (bt h1)] (ih.r05_one_l2 h cx)
 · obtain ⟨h2, h⟩ := chk_some h
   obtain ⟨h3, h⟩ | ⟨h3, h⟩ := ite_some h
   · obtain ⟨h4, h⟩ | ⟨h4, h⟩ := ite_some h
     · obtain rfl := Option.some.inj h
       exact rr 16 [(0, .br false), (3, .br true), (5, .br true)] [] [] 0 [pf (bf h1), pf h2, pf (bt h3), pf (dt h4)]
     · obtain rfl := Option.some.inj h
       exact rr 17 [(0, .br false), (3, .br true), (5, .br false)] [] [] 0 [pf (bf h1), pf h2, pf (bt h3), pf (df h4)]
   · obtain ⟨h4, h⟩ | ⟨h4, h⟩ := ite_some h
     · obtain rfl := Option.some.inj h
       exact rr 17 [(0, .br false), (3, .br false), (5, .br true)] [] [] 0 [pf (bf h1), pf h2, pf (bf h3), pf (dt h4)]
     · exact tt 21 [(0, .br false), (3, .br false), (5, .br false)] [] [0, 4, 9, 11, 12] [(0, 0), (98, 1)] 2 [pf (bf h1), pf h2, pf (bf h3), pf (df h4)] (r05_one_l4_ok h cx)
theorem r05_one_l2_okb {m : Nat} (ih : Ok_r05_one_j3 m) : Sd4 (r05_one_l2_b (tab_r05_one_j3 m)) r05_one_l2_J := by
 intro a0 a1 a2 a3 r h cx
 unfold r05_one_l2_b at h
 obtain ⟨h1, h⟩ | ⟨h1, h⟩ := ite_some h
 · obtain ⟨h2, h⟩ := chk_some h
   obtain ⟨r1, h3, h⟩ := bs h fun _ => r05_digit_ok
   obtain ⟨h4, h⟩ | ⟨h4, h⟩ := ite_some h
   · exact tt 3 [(0, .reg [(8, cl [] h3)] [(4, .bool true), (9, .bool true)])] [] [0, 1, 4, 8, 9, 10, 53] [(0, 0), (1, 1)] 2 [pf (dt h1), pf h2, pf h3, pf (bt h4)] (r05_one_j3_okb ih h cx)
   · obtain ⟨h5, h⟩ | ⟨h5, h⟩ := ite_some h
     · obtain ⟨r2, h6, h⟩ := bs h fun _ => r05_letter_ok
       exact tt 3 [(0, .reg [(8, cl [] h3), (15, cl [] h6)] [(4, .bool true), (9, .bool false), (11, .bool true)])] [] [0, 1, 4, 8, 9, 10, 53] [(0, 0), (1, 1)] 2 [pf (dt h1), pf h2, pf h3, pf (bf h4), pf (bt h5), pf h2, pf h6] (r05_one_j3_okb ih h cx)
     · exact tt 3 [(0, .reg [(8, cl [] h3)] [(4, .bool true), (9, .bool false), (11, .bool false)])] [] [0, 1, 4, 8, 9, 10, 53] [(0, 0), (1, 1)] 2 [pf (dt h1), pf h2, pf h3, pf (bf h4), pf (bf h5)] (r05_one_j3_okb ih h cx)
 · exact tt 3 [(0, .reg [] [(4, .bool false)])] [] [0, 1, 4, 8, 9, 10, 53] [(0, 0), (1, 1)] 2 [pf (df h1)] (r05_one_j3_okb ih h cx)
theorem ok_r05_one_j3 : ∀ m, Ok_r05_one_j3 m
 | 0 => ⟨(fun h => nomatch (show none = some _ from h))⟩
 | m + 1 => ⟨r05_one_l2_okb (ok_r05_one_j3 m)⟩
theorem r05_one_l2_ok {k : Nat} : Sd4 (r05_one_l2 k) r05_one_l2_J := (ok_r05_one_j3 k).r05_one_l2

noncomputable def r05_one_j6_K : List Item := stackAt (bodyOf f85) [1, 1, 1, 1, 1, 1, 0, 1, 0, 0, 1, 0, 0, 1] []
noncomputable def r05_one_j6_S (a0 : Str) (a1 : Int) (a2 : List Str) (a3 : Int) (a4 : Bool) : St := ⟨[(0, .one (.str a0)), (1, .one (.int .i64 a1)), (4, .one (.ptr 0 0)), (8, .one (.ptr 1 0)), (17, .one (.c (.sl 1 (Row.rows (α := Str) a2)))), (18, .one (.int .i64 a3)), (150, .one (.bool a4))], [(0, .var 107 [.int .i64 0, .str [], .int .i64 0, .int .i64 0]), (1, .var 107 [.int .i64 0, .str [], .int .i64 0, .int .i64 0])], 2, 166, 0⟩
noncomputable def r05_one_j6_J (a0 : Str) (a1 : Int) (a2 : List Str) (a3 : Int) (a4 : Bool) (r : (Token × Int × Int × Int)) : Prop := ∀ cx : Cx, AK prog cx r05_one_j6_K (r05_one_j6_S a0 a1 a2 a3 a4) (Fin lay f85.results.toList 0 fun o v => o = r05_one_O r.1 r.2.1 r.2.2.1 r.2.2.2 ∧ v = r05_one_V r.1 r.2.1 r.2.2.1 r.2.2.2)
noncomputable def r05_one_l5_K : List Item := stackAt (bodyOf f85) [1, 1, 1, 1, 1, 1, 0, 1, 0, 0] []
noncomputable def r05_one_l5_S (a0 : Str) (a1 : Int) (a2 : List Str) (a3 : Int) : St := ⟨[(0, .one (.str a0)), (1, .one (.int .i64 a1)), (4, .one (.ptr 0 0)), (8, .one (.ptr 1 0)), (17, .one (.c (.sl 1 (Row.rows (α := Str) a2)))), (18, .one (.int .i64 a3))], [(0, .var 107 [.int .i64 0, .str [], .int .i64 0, .int .i64 0]), (1, .var 107 [.int .i64 0, .str [], .int .i64 0, .int .i64 0])], 2, 166, 0⟩
noncomputable def r05_one_l5_J (a0 : Str) (a1 : Int) (a2 : List Str) (a3 : Int) (r : (Token × Int × Int × Int)) : Prop := ∀ cx : Cx, AK prog cx r05_one_l5_K (r05_one_l5_S a0 a1 a2 a3) (Fin lay f85.results.toList 0 fun o v => o = r05_one_O r.1 r.2.1 r.2.2.1 r.2.2.2 ∧ v = r05_one_V r.1 r.2.1 r.2.2.1 r.2.2.2)
structure Tab_r05_one_j6 where
 k : Nat
 r05_one_l5 : Str → Int → (List Str) → Int → Option (Token × Int × Int × Int)
noncomputable def r05_one_j6_b (T : Tab_r05_one_j6) (a0 : Str) (a1 : Int) (a2 : List Str) (a3 : Int) (a4 : Bool) : Option (Token × Int × Int × Int) :=
 if a4 = true then (
  (idx a2 a3).bind fun x1 =>
  some ((Token.mk 4 x1 0 a1), (IntKind.i64.wrap (a1 + (x1.length : Int))), 0, 0)
 ) else (
  T.r05_one_l5 a0 a1 a2 (IntKind.i64.wrap (a3 + 1))
 )
noncomputable def r05_one_l5_b (T : Tab_r05_one_j6) (a0 : Str) (a1 : Int) (a2 : List Str) (a3 : Int) : Option (Token × Int × Int × Int) :=
 if a3 < (a2.length : Int) then (
  (idx a2 a3).bind fun x1 =>
  if (x1.length : Int) ≤ (IntKind.i64.wrap ((a0.length : Int) - a1)) then (
   chk (0 ≤ a1 ∧ a1 ≤ (IntKind.i64.wrap (a1 + (x1.length : Int))) ∧ (IntKind.i64.wrap (a1 + (x1.length : Int))) ≤ (a0.length : Int)) <|
   r05_one_j6_b T a0 a1 a2 a3 (decide ((sub a0 a1 (IntKind.i64.wrap (a1 + (x1.length : Int)))) = x1))
  ) else (
   r05_one_j6_b T a0 a1 a2 a3 false
  )
 ) else (
  some ((Token.mk 0 [] 0 0), 0, a1, 10)
 )
noncomputable def tab_r05_one_j6 : Nat → Tab_r05_one_j6
 | 0 => ⟨0, fun _ _ _ _ => none⟩
 | k + 1 => ⟨k + 1, r05_one_l5_b (tab_r05_one_j6 k)⟩
noncomputable def r05_one_l5 (k : Nat) := (tab_r05_one_j6 k).r05_one_l5
structure Ok_r05_one_j6 (m : Nat) : Prop where
 r05_one_l5 : Sd4 (tab_r05_one_j6 m).r05_one_l5 r05_one_l5_J
theorem r05_one_j6_okb {m : Nat} (ih : Ok_r05_one_j6 m) : Sd5 (r05_one_j6_b (tab_r05_one_j6 m)) r05_one_j6_J := by
 intro a0 a1 a2 a3 a4 r h cx
 unfold r05_one_j6_b at h
 obtain ⟨h1, h⟩ | ⟨h1, h⟩ := ite_some h
 · obtain ⟨x1, h2, h⟩ := bind_some h
   obtain rfl := Option.some.inj h
   exact rr 5 [(0, .br true), (1, .reg [(3, .row (Row.cells x1)), (10, .row (Row.cells x1))] [])] [] [] 0 [pf (bt h1), pf (inP h2), pf (atP h2), pf (inP h2), pf (atP h2)]
 · exact tt 5 [(0, .br false)] [] [0, 1, 4, 8, 17, 18] [(0, 0), (1, 1)] 2 [pf (bf h1)] (ih.r05_one_l5 h cx)
theorem r05_one_l5_okb {m : Nat} (ih : Ok_r05_one_j6 m) : Sd4 (r05_one_l5_b (tab_r05_one_j6 m)) r05_one_l5_J := by
 intro a0 a1 a2 a3 r h cx
 unfold r05_one_l5_b at h
 obtain ⟨h1, h⟩ | ⟨h1, h⟩ := ite_some h
 · obtain ⟨x1, h2, h⟩ := bind_some h
   obtain ⟨h3, h⟩ | ⟨h3, h⟩ := ite_some h
   · obtain ⟨h4, h⟩ := chk_some h
     exact tt 9 [(0, .reg [] [(2, .one (.int .i64 (a2.length : Int)))]), (1, .br true), (2, .reg [(7, .row (Row.cells x1)), (17, .row (Row.cells x1)), (24, .row (Row.cells x1))] [(10, .bool true)])] [] [0, 1, 4, 8, 17, 18, 150] [(0, 0), (1, 1)] 2 [@pf (LenP (α := Str) a2) (lenP _), pf (dt h1), pf (inP h2), pf (atP h2), pf (dt h3), pf (inP h2), pf (atP h2), pf h4, pf (inP h2), pf (atP h2)] (r05_one_j6_okb ih h cx)
   · exact tt 9 [(0, .reg [] [(2, .one (.int .i64 (a2.length : Int)))]), (1, .br true), (2, .reg [(7, .row (Row.cells x1))] [(10, .bool false)])] [] [0, 1, 4, 8, 17, 18, 150] [(0, 0), (1, 1)] 2 [@pf (LenP (α := Str) a2) (lenP _), pf (dt h1), pf (inP h2), pf (atP h2), pf (df h3)] (r05_one_j6_okb ih h cx)
 · obtain rfl := Option.some.inj h
   exact rr 9 [(0, .reg [] [(2, .one (.int .i64 (a2.length : Int)))]), (1, .br false)] [] [] 0 [@pf (LenP (α := Str) a2) (lenP _), pf (df h1)]
theorem ok_r05_one_j6 : ∀ m, Ok_r05_one_j6 m
 | 0 => ⟨(fun h => nomatch (show none = some _ from h))⟩
 | m + 1 => ⟨r05_one_l5_okb (ok_r05_one_j6 m)⟩
theorem r05_one_l5_ok {k : Nat} : Sd4 (r05_one_l5 k) r05_one_l5_J := (ok_r05_one_j6 k).r05_one_l5

noncomputable def r05_text_O (a0 : Int) (a1 : Str) (a2 a3 : Int) : List O := []
noncomputable def r05_text_V (a0 : Int) (a1 : Str) (a2 a3 : Int) : V := .tup [.one (.int .i64 a0), .one (.str a1), .one (.int .i64 a2), .one (.int .i64 a3)]
noncomputable def r05_text_J (a0 : Str) (a1 : Int) (r : (Int × Str × Int × Int)) : Prop := Has prog 119 [.one (.str a0), .one (.int .i64 a1)] [] (r05_text_O r.1 r.2.1 r.2.2.1 r.2.2.2) (r05_text_V r.1 r.2.1 r.2.2.1 r.2.2.2)
noncomputable def r05_text_j4_K : List Item := stackAt (bodyOf f119) [1, 1, 0, 1, 0, 0, 1, 1] []
noncomputable def r05_text_j4_S (a0 : Str) (a1 : Int) (a2 : List UInt8) (a3 : Int) : St := ⟨[(0, .one (.str a0)), (1, .one (.int .i64 a1)), (8, .one (.own 1 (Row.rows (α := UInt8) a2) 0)), (9, .one (.int .i64 a3))], [(0, .row 5 1)], 1, 65, 0⟩
noncomputable def r05_text_j4_J (a0 : Str) (a1 : Int) (a2 : List UInt8) (a3 : Int) (r : (Int × Str × Int × Int)) : Prop := ∀ cx : Cx, AK prog cx r05_text_j4_K (r05_text_j4_S a0 a1 a2 a3) (Fin lay f119.results.toList 0 fun o v => o = r05_text_O r.1 r.2.1 r.2.2.1 r.2.2.2 ∧ v = r05_text_V r.1 r.2.1 r.2.2.1 r.2.2.2)
noncomputable def r05_text_j3_K : List Item := stackAt (bodyOf f119) [1, 1, 0, 1, 0, 0, 1, 0, 0, 1, 1, 0, 1] []
noncomputable def r05_text_j3_S (a0 : Str) (a1 : Int) (a2 : List UInt8) (a3 : Int) (a4 : Bool) : St := ⟨[(0, .one (.str a0)), (1, .one (.int .i64 a1)), (8, .one (.own 1 (Row.rows (α := UInt8) a2) 0)), (9, .one (.int .i64 a3)), (50, .one (.bool a4))], [(0, .row 5 1)], 1, 65, 0⟩
noncomputable def r05_text_j3_J (a0 : Str) (a1 : Int) (a2 : List UInt8) (a3 : Int) (a4 : Bool) (r : (Int × Str × Int × Int)) : Prop := ∀ cx : Cx, AK prog cx r05_text_j3_K (r05_text_j3_S a0 a1 a2 a3 a4) (Fin lay f119.results.toList 0 fun o v => o = r05_text_O r.1 r.2.1 r.2.2.1 r.2.2.2 ∧ v = r05_text_V r.1 r.2.1 r.2.2.1 r.2.2.2)
noncomputable def r05_text_j2_K : List Item := stackAt (bodyOf f119) [1, 1, 0, 1, 0, 0, 1, 0, 0, 0, 1] []
noncomputable def r05_text_j2_S (a0 : Str) (a1 : Int) (a2 : List UInt8) (a3 : Int) (a4 : Bool) : St := ⟨[(0, .one (.str a0)), (1, .one (.int .i64 a1)), (8, .one (.own 1 (Row.rows (α := UInt8) a2) 0)), (9, .one (.int .i64 a3)), (27, .one (.bool a4))], [(0, .row 5 1)], 1, 65, 0⟩
noncomputable def r05_text_j2_J (a0 : Str) (a1 : Int) (a2 : List UInt8) (a3 : Int) (a4 : Bool) (r : (Int × Str × Int × Int)) : Prop := ∀ cx : Cx, AK prog cx r05_text_j2_K (r05_text_j2_S a0 a1 a2 a3 a4) (Fin lay f119.results.toList 0 fun o v => o = r05_text_O r.1 r.2.1 r.2.2.1 r.2.2.2 ∧ v = r05_text_V r.1 r.2.1 r.2.2.1 r.2.2.2)
noncomputable def r05_text_l1_K : List Item := stackAt (bodyOf f119) [1, 1, 0, 1, 0, 0] []
noncomputable def r05_text_l1_S (a0 : Str) (a1 : Int) (a2 : List UInt8) (a3 : Int) : St := ⟨[(0, .one (.str a0)), (1, .one (.int .i64 a1)), (8, .one (.own 1 (Row.rows (α := UInt8) a2) 0)), (9, .one (.int .i64 a3))], [(0, .row 5 1)], 1, 65, 0⟩
noncomputable def r05_text_l1_J (a0 : Str) (a1 : Int) (a2 : List UInt8) (a3 : Int) (r : (Int × Str × Int × Int)) : Prop := ∀ cx : Cx, AK prog cx r05_text_l1_K (r05_text_l1_S a0 a1 a2 a3) (Fin lay f119.results.toList 0 fun o v => o = r05_text_O r.1 r.2.1 r.2.2.1 r.2.2.2 ∧ v = r05_text_V r.1 r.2.1 r.2.2.1 r.2.2.2)
structure Tab_r05_text_j2 where
 k : Nat
 r05_text_l1 : Str → Int → (List UInt8) → Int → Option (Int × Str × Int × Int)
noncomputable def r05_text_j4_b (T : Tab_r05_text_j2) (a0 : Str) (a1 : Int) (a2 : List UInt8) (a3 : Int) : Option (Int × Str × Int × Int) :=
 T.r05_text_l1 a0 a1 a2 (IntKind.i64.wrap (a3 + 1))
noncomputable def r05_text_j3_b (T : Tab_r05_text_j2) (a0 : Str) (a1 : Int) (a2 : List UInt8) (a3 : Int) (a4 : Bool) : Option (Int × Str × Int × Int) :=
 if a4 = true then (
  chk (CapOk 1 a2 [(39 : UInt8)]) <|
  r05_text_j4_b T a0 a1 (a2 ++ [(39 : UInt8)]) (IntKind.i64.wrap (a3 + 1))
 ) else (
  if 1000 < (a2.length : Int) then (
   some (0, [], a1, 10)
  ) else (
   some ((IntKind.i64.wrap (a3 + 1)), a2, 0, 0)
  )
 )
noncomputable def r05_text_j2_b (T : Tab_r05_text_j2) (a0 : Str) (a1 : Int) (a2 : List UInt8) (a3 : Int) (a4 : Bool) : Option (Int × Str × Int × Int) :=
 if a4 = true then (
  some (0, [], a3, 10)
 ) else (
  chk (0 ≤ a3 ∧ a3 < (a0.length : Int)) <|
  if (byteAt a0 a3) = 39 then (
   if (IntKind.i64.wrap (a3 + 1)) < (a0.length : Int) then (
    chk (0 ≤ (IntKind.i64.wrap (a3 + 1)) ∧ (IntKind.i64.wrap (a3 + 1)) < (a0.length : Int)) <|
    r05_text_j3_b T a0 a1 a2 a3 (decide ((byteAt a0 (IntKind.i64.wrap (a3 + 1))) = 39))
   ) else (
    r05_text_j3_b T a0 a1 a2 a3 false
   )
  ) else (
   chk (CapOk 1 a2 [(u8At a0 a3)]) <|
   r05_text_j4_b T a0 a1 (a2 ++ [(u8At a0 a3)]) a3
  )
 )
noncomputable def r05_text_l1_b (T : Tab_r05_text_j2) (a0 : Str) (a1 : Int) (a2 : List UInt8) (a3 : Int) : Option (Int × Str × Int × Int) :=
 if a3 < (a0.length : Int) then (
  chk (0 ≤ a3 ∧ a3 < (a0.length : Int)) <|
  if (byteAt a0 a3) < 32 then (
   r05_text_j2_b T a0 a1 a2 a3 (!(decide ((byteAt a0 a3) = 10)))
  ) else (
   r05_text_j2_b T a0 a1 a2 a3 false
  )
 ) else (
  some (0, [], a1, 10)
 )
noncomputable def tab_r05_text_j2 : Nat → Tab_r05_text_j2
 | 0 => ⟨0, fun _ _ _ _ => none⟩
 | k + 1 => ⟨k + 1, r05_text_l1_b (tab_r05_text_j2 k)⟩
noncomputable def r05_text_l1 (k : Nat) := (tab_r05_text_j2 k).r05_text_l1
structure Ok_r05_text_j2 (m : Nat) : Prop where
 r05_text_l1 : Sd4 (tab_r05_text_j2 m).r05_text_l1 r05_text_l1_J
theorem r05_text_j4_okb {m : Nat} (ih : Ok_r05_text_j2 m) : Sd4 (r05_text_j4_b (tab_r05_text_j2 m)) r05_text_j4_J := by
 intro a0 a1 a2 a3 r h cx
 unfold r05_text_j4_b at h
 exact tt 2 [] [] [0, 1, 8, 9] [(0, 0)] 1 [] (ih.r05_text_l1 h cx)
theorem r05_text_j3_okb {m : Nat} (ih : Ok_r05_text_j2 m) : Sd5 (r05_text_j3_b (tab_r05_text_j2 m)) r05_text_j3_J := by
 intro a0 a1 a2 a3 a4 r h cx
 unfold r05_text_j3_b at h
 obtain ⟨h1, h⟩ | ⟨h1, h⟩ := ite_some h
 · obtain ⟨h2, h⟩ := chk_some h
   exact tt 6 [(0, .br true), (1, .reg [] [(1, .one (.own 1 (Row.rows (α := UInt8) [(39 : UInt8)]) 17)), (2, .one (.own 1 (Row.rows (α := UInt8) (a2 ++ [(39 : UInt8)])) 33))])] [] [0, 1, 8, 9] [(33, 0)] 1 [pf (bt h1), @pf (BldP (α := UInt8) [(39 : UInt8)] 17) (bldP _ _), @pf (AppP (α := UInt8) a2 [(39 : UInt8)] 33) (appP _ _ _), pf (cap1 h2), pf (cap2 h2)] (r05_text_j4_okb ih h cx)
 · obtain ⟨h2, h⟩ | ⟨h2, h⟩ := ite_some h
   · obtain rfl := Option.some.inj h
     exact rr 10 [(0, .br false), (1, .reg [] [(1, .one (.int .i64 (a2.length : Int)))]), (2, .br true)] [] [] 0 [pf (bf h1), @pf (LenP (α := UInt8) a2) (lenP _), pf (dt h2)]
   · obtain rfl := Option.some.inj h
     exact rr 11 [(0, .br false), (1, .reg [] [(1, .one (.int .i64 (a2.length : Int)))]), (2, .br false), (3, .reg [(3, .bytes a2)] [])] [] [] 0 [pf (bf h1), @pf (LenP (α := UInt8) a2) (lenP _), pf (df h2), @pf (RbP a2) (rbP _)]
theorem r05_text_j2_okb {m : Nat} (ih : Ok_r05_text_j2 m) : Sd5 (r05_text_j2_b (tab_r05_text_j2 m)) r05_text_j2_J := by
 intro a0 a1 a2 a3 a4 r h cx
 unfold r05_text_j2_b at h
 obtain ⟨h1, h⟩ | ⟨h1, h⟩ := ite_some h
 · obtain rfl := Option.some.inj h
   exact rr 5 [(0, .br true)] [] [] 0 [pf (bt h1)]
 · obtain ⟨h2, h⟩ := chk_some h
   obtain ⟨h3, h⟩ | ⟨h3, h⟩ := ite_some h
   · obtain ⟨h4, h⟩ | ⟨h4, h⟩ := ite_some h
     · obtain ⟨h5, h⟩ := chk_some h
       exact tt 10 [(0, .br false), (2, .br false), (3, .reg [] [(5, .bool true)])] [] [0, 1, 8, 9, 50] [(0, 0)] 1 [pf (bf h1), pf h2, pf (ndf h3), pf (dt h4), pf h5] (r05_text_j3_okb ih h cx)
     · exact tt 10 [(0, .br false), (2, .br false), (3, .reg [] [(5, .bool false)])] [] [0, 1, 8, 9, 50] [(0, 0)] 1 [pf (bf h1), pf h2, pf (ndf h3), pf (df h4)] (r05_text_j3_okb ih h cx)
   · obtain ⟨h4, h⟩ := chk_some h
     exact tt 9 [(0, .br false), (2, .br true), (3, .reg [] [(4, .one (.own 1 (Row.rows (α := UInt8) [(u8At a0 a3)]) 129)), (5, .one (.own 1 (Row.rows (α := UInt8) (a2 ++ [(u8At a0 a3)])) 145))])] [] [0, 1, 8, 9] [(145, 0)] 1 [pf (bf h1), pf h2, pf (ndt h3), pf h2, @pf (BldP (α := UInt8) [(u8At a0 a3)] 129) (bldP _ _), @pf (AppP (α := UInt8) a2 [(u8At a0 a3)] 145) (appP _ _ _), pf (cap1 h4), pf (cap2 h4)] (r05_text_j4_okb ih h cx)
theorem r05_text_l1_okb {m : Nat} (ih : Ok_r05_text_j2 m) : Sd4 (r05_text_l1_b (tab_r05_text_j2 m)) r05_text_l1_J := by
 intro a0 a1 a2 a3 r h cx
 unfold r05_text_l1_b at h
 obtain ⟨h1, h⟩ | ⟨h1, h⟩ := ite_some h
 · obtain ⟨h2, h⟩ := chk_some h
   obtain ⟨h3, h⟩ | ⟨h3, h⟩ := ite_some h
   · exact tt 10 [(1, .br true), (2, .reg [] [(4, .bool true)])] [] [0, 1, 8, 9, 27] [(0, 0)] 1 [pf (dt h1), pf h2, pf (dt h3), pf h2] (r05_text_j2_okb ih h cx)
   · exact tt 10 [(1, .br true), (2, .reg [] [(4, .bool false)])] [] [0, 1, 8, 9, 27] [(0, 0)] 1 [pf (dt h1), pf h2, pf (df h3)] (r05_text_j2_okb ih h cx)
 · obtain rfl := Option.some.inj h
   exact rr 9 [(1, .br false)] [] [] 0 [pf (df h1)]
theorem ok_r05_text_j2 : ∀ m, Ok_r05_text_j2 m
 | 0 => ⟨(fun h => nomatch (show none = some _ from h))⟩
 | m + 1 => ⟨r05_text_l1_okb (ok_r05_text_j2 m)⟩
theorem r05_text_l1_ok {k : Nat} : Sd4 (r05_text_l1 k) r05_text_l1_J := (ok_r05_text_j2 k).r05_text_l1

noncomputable def r05_text (k : Nat) (a0 : Str) (a1 : Int) : Option (Int × Str × Int × Int) :=
 r05_text_l1 k a0 a1 [] (IntKind.i64.wrap (a1 + 1))
theorem r05_text_ok {k : Nat} : Sd2 (r05_text k) r05_text_J := by
 intro a0 a1 r h
 unfold r05_text at h
 refine ent (c := bodyOf f119) func119 rfl rfl rfl fun cx => ?_
 exact tt 9 [] [.slotOwn 8 128 5] [0, 1, 8, 9] [(128, 0)] 1 [] (r05_text_l1_ok h cx)

noncomputable def r05_one_j1_K : List Item := stackAt (bodyOf f85) [1, 1, 1, 0, 1] []
noncomputable def r05_one_j1_S (a0 : Str) (a1 a2 : Int) (a3 : Bool) : St := ⟨[(0, .one (.str a0)), (1, .one (.int .i64 a1)), (4, .one (.ptr 0 0)), (8, .one (.ptr 1 0)), (9, .one (.int .i64 a2)), (30, .one (.bool a3))], [(0, .var 107 [.int .i64 0, .str [], .int .i64 0, .int .i64 0]), (1, .var 107 [.int .i64 0, .str [], .int .i64 0, .int .i64 0])], 2, 166, 0⟩
noncomputable def r05_one_j1_J (a0 : Str) (a1 a2 : Int) (a3 : Bool) (r : (Token × Int × Int × Int)) : Prop := ∀ cx : Cx, AK prog cx r05_one_j1_K (r05_one_j1_S a0 a1 a2 a3) (Fin lay f85.results.toList 0 fun o v => o = r05_one_O r.1 r.2.1 r.2.2.1 r.2.2.2 ∧ v = r05_one_V r.1 r.2.1 r.2.2.1 r.2.2.2)
noncomputable def r05_one_j1 (k : Nat) (a0 : Str) (a1 a2 : Int) (a3 : Bool) : Option (Token × Int × Int × Int) :=
 if a3 = true then (
  chk (0 ≤ a1 ∧ a1 < (a0.length : Int)) <|
  (r05_letter (u8At a0 a1)).bind fun r1 =>
  r05_one_l2 k a0 a1 a2 r1
 ) else (
  chk (0 ≤ a1 ∧ a1 < (a0.length : Int)) <|
  if (byteAt a0 a1) = 39 then (
   (r05_text k a0 a1).bind fun (r1, r2, r3, r4) =>
   if r4 = 0 then (
    some ((Token.mk 3 r2 0 a1), r1, 0, 0)
   ) else (
    some ((Token.mk 0 [] 0 0), 0, r3, r4)
   )
  ) else (
   (r05_Marks).bind fun r1 =>
   r05_one_l5 k a0 a1 r1 0
  )
 )
theorem r05_one_j1_ok {k : Nat} : Sd4 (r05_one_j1 k) r05_one_j1_J := by
 intro a0 a1 a2 a3 r h cx
 unfold r05_one_j1 at h
 obtain ⟨h1, h⟩ | ⟨h1, h⟩ := ite_some h
 · obtain ⟨h2, h⟩ := chk_some h
   obtain ⟨r1, h3, h⟩ := bs h fun _ => r05_letter_ok
   exact tt 6 [(0, .br true), (1, .reg [(3, cl [] h3)] [])] [] [0, 1, 4, 8, 9, 10] [(0, 0), (1, 1)] 2 [pf (bt h1), pf h2, pf h3] (r05_one_l2_ok h cx)
 · obtain ⟨h2, h⟩ := chk_some h
   obtain ⟨h3, h⟩ | ⟨h3, h⟩ := ite_some h
   · obtain ⟨⟨r1, r2, r3, r4⟩, h4, h⟩ := bs h fun _ => r05_text_ok
     obtain ⟨h5, h⟩ | ⟨h5, h⟩ := ite_some h
     · obtain rfl := Option.some.inj h
       exact rr 17 [(0, .br false), (2, .br true), (3, .reg [(2, cl [] h4)] []), (5, .br false)] [] [] 0 [pf (bf h1), pf h2, pf (dt h3), pf h4, pf (ndf h5)]
     · obtain rfl := Option.some.inj h
       exact rr 16 [(0, .br false), (2, .br true), (3, .reg [(2, cl [] h4)] []), (5, .br true)] [] [] 0 [pf (bf h1), pf h2, pf (dt h3), pf h4, pf (ndt h5)]
   · obtain ⟨r1, h4, h⟩ := bs h fun _ => r05_Marks_ok
     exact tt 14 [(0, .br false), (2, .br false), (3, .reg [(0, cl [] h4)] [])] [] [0, 1, 4, 8, 17, 18] [(0, 0), (1, 1)] 2 [pf (bf h1), pf h2, pf (df h3), pf h4] (r05_one_l5_ok h cx)

noncomputable def r05_one (k : Nat) (a0 : Str) (a1 : Int) : Option (Token × Int × Int × Int) :=
 chk (0 ≤ a1 ∧ a1 < (a0.length : Int)) <|
 (r05_letter (u8At a0 a1)).bind fun r1 =>
 if r1 = true then (
  r05_one_j1 k a0 a1 a1 true
 ) else (
  (r05_digit (u8At a0 a1)).bind fun r2 =>
  r05_one_j1 k a0 a1 a1 r2
 )
theorem r05_one_ok {k : Nat} : Sd2 (r05_one k) r05_one_J := by
 intro a0 a1 r h
 unfold r05_one at h
 refine ent (c := bodyOf f85) func85 rfl rfl rfl fun cx => ?_
 obtain ⟨h1, h⟩ := chk_some h
 obtain ⟨r1, h2, h⟩ := bs h fun _ => r05_letter_ok
 obtain ⟨h3, h⟩ | ⟨h3, h⟩ := ite_some h
 · exact tt 9 [(3, .reg [(3, cl [] h2)] [(4, .bool true)])] [] [0, 1, 4, 8, 9, 30] [(0, 0), (80, 1)] 2 [pf h1, pf h2, pf (bt h3)] (r05_one_j1_ok h cx)
 · obtain ⟨r2, h4, h⟩ := bs h fun _ => r05_digit_ok
   exact tt 9 [(3, .reg [(3, cl [] h2), (8, cl [] h4)] [(4, .bool false)])] [] [0, 1, 4, 8, 9, 30] [(0, 0), (80, 1)] 2 [pf h1, pf h2, pf (bf h3), pf h1, pf h4] (r05_one_j1_ok h cx)

noncomputable def r05_blank_O (a0 : Bool) : List O := []
noncomputable def r05_blank_V (a0 : Bool) : V := .one (.bool a0)
noncomputable def r05_blank_J (a0 : UInt8) (r : Bool) : Prop := Has prog 84 [.one (.int .u8 (a0.toNat : Int))] [] (r05_blank_O r) (r05_blank_V r)
noncomputable def r05_blank (a0 : UInt8) : Option Bool :=
 if (a0.toNat : Int) = 32 then (
  some true
 ) else (
  if (a0.toNat : Int) = 9 then (
   some true
  ) else (
   if (a0.toNat : Int) = 10 then (
    some true
   ) else (
    some (decide ((a0.toNat : Int) = 13))
   )
  )
 )
theorem r05_blank_ok : Sd1 r05_blank r05_blank_J := by
 intro a0 r h
 unfold r05_blank at h
 refine ent (c := bodyOf f84) func84 rfl rfl rfl fun cx => ?_
 obtain ⟨h1, h⟩ | ⟨h1, h⟩ := ite_some h
 · obtain rfl := Option.some.inj h
   exact rr 6 [(1, .reg [] [(2, .bool true)])] [] [] 0 [pf (dt h1)]
 · obtain ⟨h2, h⟩ | ⟨h2, h⟩ := ite_some h
   · obtain rfl := Option.some.inj h
     exact rr 6 [(1, .reg [] [(2, .bool false), (6, .bool true)])] [] [] 0 [pf (df h1), pf (dt h2)]
   · obtain ⟨h3, h⟩ | ⟨h3, h⟩ := ite_some h
     · obtain rfl := Option.some.inj h
       exact rr 6 [(1, .reg [] [(2, .bool false), (6, .bool false), (10, .bool true)])] [] [] 0 [pf (df h1), pf (df h2), pf (dt h3)]
     · obtain rfl := Option.some.inj h
       exact rr 6 [(1, .reg [] [(2, .bool false), (6, .bool false), (10, .bool false)])] [] [] 0 [pf (df h1), pf (df h2), pf (df h3)]

noncomputable def r05_Scan_O (a0 : List Token) (a1 a2 : Int) : List O := []
noncomputable def r05_Scan_V (a0 : List Token) (a1 a2 : Int) : V := .tup [.one (.c (.sl 4 (Row.rows (α := Token) a0))), .one (.int .i64 a1), .one (.int .i64 a2)]
noncomputable def r05_Scan_J (a0 : Str) (r : ((List Token) × Int × Int)) : Prop := Has prog 51 [.one (.str a0)] [] (r05_Scan_O r.1 r.2.1 r.2.2) (r05_Scan_V r.1 r.2.1 r.2.2)
noncomputable def r05_Scan_j4_K : List Item := stackAt (bodyOf f51) [1, 1, 1, 1, 0, 0, 0, 1, 0, 1, 0, 1, 0, 0, 0, 0, 0, 1] []
noncomputable def r05_Scan_j4_S (a0 : Str) (a1 : List Token) (a2 : Int) (a3 : Bool) : St := ⟨[(0, .one (.str a0)), (5, .one (.own 4 (Row.rows (α := Token) a1) 0)), (6, .one (.int .i64 a2)), (51, .one (.bool a3))], [(0, .row 107 4)], 1, 86, 0⟩
noncomputable def r05_Scan_j4_J (a0 : Str) (a1 : List Token) (a2 : Int) (a3 : Bool) (r : ((List Token) × Int × Int)) : Prop := ∀ cx : Cx, AK prog cx r05_Scan_j4_K (r05_Scan_j4_S a0 a1 a2 a3) (Fin lay f51.results.toList 0 fun o v => o = r05_Scan_O r.1 r.2.1 r.2.2 ∧ v = r05_Scan_V r.1 r.2.1 r.2.2)
noncomputable def r05_Scan_l3_K : List Item := stackAt (bodyOf f51) [1, 1, 1, 1, 0, 0, 0, 1, 0, 1, 0, 1, 0, 0, 0, 0] []
noncomputable def r05_Scan_l3_S (a0 : Str) (a1 : List Token) (a2 : Int) : St := ⟨[(0, .one (.str a0)), (5, .one (.own 4 (Row.rows (α := Token) a1) 0)), (6, .one (.int .i64 a2))], [(0, .row 107 4)], 1, 86, 0⟩
noncomputable def r05_Scan_l3_J (a0 : Str) (a1 : List Token) (a2 : Int) (r : ((List Token) × Int × Int)) : Prop := ∀ cx : Cx, AK prog cx r05_Scan_l3_K (r05_Scan_l3_S a0 a1 a2) (Fin lay f51.results.toList 0 fun o v => o = r05_Scan_O r.1 r.2.1 r.2.2 ∧ v = r05_Scan_V r.1 r.2.1 r.2.2)
noncomputable def r05_Scan_j2_K : List Item := stackAt (bodyOf f51) [1, 1, 1, 1, 0, 0, 0, 1, 0, 1, 0, 1] []
noncomputable def r05_Scan_j2_S (a0 : Str) (a1 : List Token) (a2 : Int) (a3 : Bool) : St := ⟨[(0, .one (.str a0)), (5, .one (.own 4 (Row.rows (α := Token) a1) 0)), (6, .one (.int .i64 a2)), (41, .one (.bool a3))], [(0, .row 107 4)], 1, 86, 0⟩
noncomputable def r05_Scan_j2_J (a0 : Str) (a1 : List Token) (a2 : Int) (a3 : Bool) (r : ((List Token) × Int × Int)) : Prop := ∀ cx : Cx, AK prog cx r05_Scan_j2_K (r05_Scan_j2_S a0 a1 a2 a3) (Fin lay f51.results.toList 0 fun o v => o = r05_Scan_O r.1 r.2.1 r.2.2 ∧ v = r05_Scan_V r.1 r.2.1 r.2.2)
noncomputable def r05_Scan_l1_K : List Item := stackAt (bodyOf f51) [1, 1, 1, 1, 0, 0, 0] []
noncomputable def r05_Scan_l1_S (a0 : Str) (a1 : List Token) (a2 : Int) : St := ⟨[(0, .one (.str a0)), (5, .one (.own 4 (Row.rows (α := Token) a1) 0)), (6, .one (.int .i64 a2))], [(0, .row 107 4)], 1, 86, 0⟩
noncomputable def r05_Scan_l1_J (a0 : Str) (a1 : List Token) (a2 : Int) (r : ((List Token) × Int × Int)) : Prop := ∀ cx : Cx, AK prog cx r05_Scan_l1_K (r05_Scan_l1_S a0 a1 a2) (Fin lay f51.results.toList 0 fun o v => o = r05_Scan_O r.1 r.2.1 r.2.2 ∧ v = r05_Scan_V r.1 r.2.1 r.2.2)
structure Tab_r05_Scan_j2 where
 k : Nat
 r05_Scan_l1 : Str → (List Token) → Int → Option ((List Token) × Int × Int)
 r05_Scan_l3 : Str → (List Token) → Int → Option ((List Token) × Int × Int)
noncomputable def r05_Scan_j2_b (T : Tab_r05_Scan_j2) (a0 : Str) (a1 : List Token) (a2 : Int) (a3 : Bool) : Option ((List Token) × Int × Int) :=
 if a3 = true then (
  T.r05_Scan_l3 a0 a1 a2
 ) else (
  (r05_one T.k a0 a2).bind fun (r1, r2, r3, r4) =>
  if r4 = 0 then (
   if 6000 ≤ (a1.length : Int) then (
    some ([], a2, 8)
   ) else (
    chk (CapOk 40 a1 [r1]) <|
    T.r05_Scan_l1 a0 (a1 ++ [r1]) r2
   )
  ) else (
   some ([], r3, r4)
  )
 )
noncomputable def r05_Scan_j4_b (T : Tab_r05_Scan_j2) (a0 : Str) (a1 : List Token) (a2 : Int) (a3 : Bool) : Option ((List Token) × Int × Int) :=
 if a3 = true then (
  T.r05_Scan_l3 a0 a1 (IntKind.i64.wrap (a2 + 1))
 ) else (
  T.r05_Scan_l1 a0 a1 a2
 )
noncomputable def r05_Scan_l1_b (T : Tab_r05_Scan_j2) (a0 : Str) (a1 : List Token) (a2 : Int) : Option ((List Token) × Int × Int) :=
 if a2 < (a0.length : Int) then (
  chk (0 ≤ a2 ∧ a2 < (a0.length : Int)) <|
  (r05_blank (u8At a0 a2)).bind fun r1 =>
  if r1 = true then (
   T.r05_Scan_l1 a0 a1 (IntKind.i64.wrap (a2 + 1))
  ) else (
   if (byteAt a0 a2) = 45 then (
    if (IntKind.i64.wrap (a2 + 1)) < (a0.length : Int) then (
     chk (0 ≤ (IntKind.i64.wrap (a2 + 1)) ∧ (IntKind.i64.wrap (a2 + 1)) < (a0.length : Int)) <|
     r05_Scan_j2_b T a0 a1 a2 (decide ((byteAt a0 (IntKind.i64.wrap (a2 + 1))) = 45))
    ) else (
     r05_Scan_j2_b T a0 a1 a2 false
    )
   ) else (
    r05_Scan_j2_b T a0 a1 a2 false
   )
  )
 ) else (
  if 6000 ≤ (a1.length : Int) then (
   some ([], (a0.length : Int), 8)
  ) else (
   chk (CapOk 40 a1 [(Token.mk 0 [] 0 (a0.length : Int))]) <|
   some ((a1 ++ [(Token.mk 0 [] 0 (a0.length : Int))]), 0, 0)
  )
 )
noncomputable def r05_Scan_l3_b (T : Tab_r05_Scan_j2) (a0 : Str) (a1 : List Token) (a2 : Int) : Option ((List Token) × Int × Int) :=
 if a2 < (a0.length : Int) then (
  chk (0 ≤ a2 ∧ a2 < (a0.length : Int)) <|
  r05_Scan_j4_b T a0 a1 a2 (!(decide ((byteAt a0 a2) = 10)))
 ) else (
  r05_Scan_j4_b T a0 a1 a2 false
 )
noncomputable def tab_r05_Scan_j2 : Nat → Tab_r05_Scan_j2
 | 0 => ⟨0, fun _ _ _ => none, fun _ _ _ => none⟩
 | k + 1 => ⟨k + 1, r05_Scan_l1_b (tab_r05_Scan_j2 k), r05_Scan_l3_b (tab_r05_Scan_j2 k)⟩
noncomputable def r05_Scan_l1 (k : Nat) := (tab_r05_Scan_j2 k).r05_Scan_l1
noncomputable def r05_Scan_l3 (k : Nat) := (tab_r05_Scan_j2 k).r05_Scan_l3
structure Ok_r05_Scan_j2 (m : Nat) : Prop where
 r05_Scan_l1 : Sd3 (tab_r05_Scan_j2 m).r05_Scan_l1 r05_Scan_l1_J
 r05_Scan_l3 : Sd3 (tab_r05_Scan_j2 m).r05_Scan_l3 r05_Scan_l3_J
theorem r05_Scan_j2_okb {m : Nat} (ih : Ok_r05_Scan_j2 m) : Sd4 (r05_Scan_j2_b (tab_r05_Scan_j2 m)) r05_Scan_j2_J := by
 intro a0 a1 a2 a3 r h cx
 unfold r05_Scan_j2_b at h
 obtain ⟨h1, h⟩ | ⟨h1, h⟩ := ite_some h
 · exact tt 4 [(0, .br true)] [] [0, 5, 6] [(0, 0)] 1 [pf (bt h1)] (ih.r05_Scan_l3 h cx)
 · obtain ⟨⟨r1, r2, r3, r4⟩, h2, h⟩ := bs h fun _ => r05_one_ok
   obtain ⟨h3, h⟩ | ⟨h3, h⟩ := ite_some h
   · obtain ⟨h4, h⟩ | ⟨h4, h⟩ := ite_some h
     · obtain rfl := Option.some.inj h
       exact rr 17 [(0, .br false), (1, .reg [(2, cl [] h2)] []), (3, .br false), (4, .reg [] [(1, .one (.int .i64 (a1.length : Int)))]), (5, .br true)] [] [] 0 [pf (bf h1), pf h2, pf (ndf h3), @pf (LenP (α := Token) a1) (lenP _), pf (dt h4)]
     · obtain ⟨h5, h⟩ := chk_some h
       exact tt 19 [(0, .br false), (1, .reg [(2, cl [] h2)] []), (3, .br false), (4, .reg [] [(1, .one (.int .i64 (a1.length : Int)))]), (5, .br false), (6, .reg [] [(2, .one (.own 4 (Row.rows (α := Token) [r1]) 321)), (3, .one (.own 4 (Row.rows (α := Token) (a1 ++ [r1])) 337))])] [] [0, 5, 6] [(337, 0)] 1 [pf (bf h1), pf h2, pf (ndf h3), @pf (LenP (α := Token) a1) (lenP _), pf (df h4), @pf (BldP (α := Token) [r1] 321) (bldP _ _), @pf (AppP (α := Token) a1 [r1] 337) (appP _ _ _), pf (cap1 h5), pf (cap2 h5)] (ih.r05_Scan_l1 h cx)
   · obtain rfl := Option.some.inj h
     exact rr 12 [(0, .br false), (1, .reg [(2, cl [] h2)] []), (3, .br true)] [] [] 0 [pf (bf h1), pf h2, pf (ndt h3)]
theorem r05_Scan_j4_okb {m : Nat} (ih : Ok_r05_Scan_j2 m) : Sd4 (r05_Scan_j4_b (tab_r05_Scan_j2 m)) r05_Scan_j4_J := by
 intro a0 a1 a2 a3 r h cx
 unfold r05_Scan_j4_b at h
 obtain ⟨h1, h⟩ | ⟨h1, h⟩ := ite_some h
 · exact tt 6 [(0, .br true)] [] [0, 5, 6] [(0, 0)] 1 [pf (bt h1)] (ih.r05_Scan_l3 h cx)
 · exact tt 4 [(0, .br false)] [] [0, 5, 6] [(0, 0)] 1 [pf (bf h1)] (ih.r05_Scan_l1 h cx)
theorem r05_Scan_l1_okb {m : Nat} (ih : Ok_r05_Scan_j2 m) : Sd3 (r05_Scan_l1_b (tab_r05_Scan_j2 m)) r05_Scan_l1_J := by
 intro a0 a1 a2 r h cx
 unfold r05_Scan_l1_b at h
 obtain ⟨h1, h⟩ | ⟨h1, h⟩ := ite_some h
 · obtain ⟨h2, h⟩ := chk_some h
   obtain ⟨r1, h3, h⟩ := bs h fun _ => r05_blank_ok
   obtain ⟨h4, h⟩ | ⟨h4, h⟩ := ite_some h
   · exact tt 14 [(1, .br true), (2, .reg [(3, cl [] h3)] []), (3, .br true)] [] [0, 5, 6] [(0, 0)] 1 [pf (dt h1), pf h2, pf h3, pf (bt h4)] (ih.r05_Scan_l1 h cx)
   · obtain ⟨h5, h⟩ | ⟨h5, h⟩ := ite_some h
     · obtain ⟨h6, h⟩ | ⟨h6, h⟩ := ite_some h
       · obtain ⟨h7, h⟩ := chk_some h
         exact tt 14 [(1, .br true), (2, .reg [(3, cl [] h3)] []), (3, .br false), (4, .reg [] [(4, .bool true), (11, .bool true)])] [] [0, 5, 6, 41] [(0, 0)] 1 [pf (dt h1), pf h2, pf h3, pf (bf h4), pf h2, pf (dt h5), pf (dt h6), pf h7] (r05_Scan_j2_okb ih h cx)
       · exact tt 14 [(1, .br true), (2, .reg [(3, cl [] h3)] []), (3, .br false), (4, .reg [] [(4, .bool true), (11, .bool false)])] [] [0, 5, 6, 41] [(0, 0)] 1 [pf (dt h1), pf h2, pf h3, pf (bf h4), pf h2, pf (dt h5), pf (df h6)] (r05_Scan_j2_okb ih h cx)
     · exact tt 14 [(1, .br true), (2, .reg [(3, cl [] h3)] []), (3, .br false), (4, .reg [] [(4, .bool false)])] [] [0, 5, 6, 41] [(0, 0)] 1 [pf (dt h1), pf h2, pf h3, pf (bf h4), pf h2, pf (df h5)] (r05_Scan_j2_okb ih h cx)
 · obtain ⟨h2, h⟩ | ⟨h2, h⟩ := ite_some h
   · obtain rfl := Option.some.inj h
     exact rr 13 [(1, .br false), (2, .reg [] [(1, .one (.int .i64 (a1.length : Int)))]), (3, .br true)] [] [] 0 [pf (df h1), @pf (LenP (α := Token) a1) (lenP _), pf (dt h2)]
   · obtain ⟨h3, h⟩ := chk_some h
     obtain rfl := Option.some.inj h
     exact rr 14 [(1, .br false), (2, .reg [] [(1, .one (.int .i64 (a1.length : Int)))]), (3, .br false), (4, .reg [] [(4, .one (.own 4 (Row.rows (α := Token) [(Token.mk 0 [] 0 (a0.length : Int))]) 177)), (5, .one (.own 4 (Row.rows (α := Token) (a1 ++ [(Token.mk 0 [] 0 (a0.length : Int))])) 193))])] [] [] 0 [pf (df h1), @pf (LenP (α := Token) a1) (lenP _), pf (df h2), @pf (BldP (α := Token) [(Token.mk 0 [] 0 (a0.length : Int))] 177) (bldP _ _), @pf (AppP (α := Token) a1 [(Token.mk 0 [] 0 (a0.length : Int))] 193) (appP _ _ _), pf (cap1 h3), pf (cap2 h3)]
theorem r05_Scan_l3_okb {m : Nat} (ih : Ok_r05_Scan_j2 m) : Sd3 (r05_Scan_l3_b (tab_r05_Scan_j2 m)) r05_Scan_l3_J := by
 intro a0 a1 a2 r h cx
 unfold r05_Scan_l3_b at h
 obtain ⟨h1, h⟩ | ⟨h1, h⟩ := ite_some h
 · obtain ⟨h2, h⟩ := chk_some h
   exact tt 3 [(0, .reg [] [(4, .bool true)])] [] [0, 5, 6, 51] [(0, 0)] 1 [pf (dt h1), pf h2] (r05_Scan_j4_okb ih h cx)
 · exact tt 3 [(0, .reg [] [(4, .bool false)])] [] [0, 5, 6, 51] [(0, 0)] 1 [pf (df h1)] (r05_Scan_j4_okb ih h cx)
theorem ok_r05_Scan_j2 : ∀ m, Ok_r05_Scan_j2 m
 | 0 => ⟨(fun h => nomatch (show none = some _ from h)), (fun h => nomatch (show none = some _ from h))⟩
 | m + 1 => ⟨r05_Scan_l1_okb (ok_r05_Scan_j2 m), r05_Scan_l3_okb (ok_r05_Scan_j2 m)⟩
theorem r05_Scan_l1_ok {k : Nat} : Sd3 (r05_Scan_l1 k) r05_Scan_l1_J := (ok_r05_Scan_j2 k).r05_Scan_l1
theorem r05_Scan_l3_ok {k : Nat} : Sd3 (r05_Scan_l3 k) r05_Scan_l3_J := (ok_r05_Scan_j2 k).r05_Scan_l3

noncomputable def r05_Scan (k : Nat) (a0 : Str) : Option ((List Token) × Int × Int) :=
 if 20000 < (a0.length : Int) then (
  some ([], 0, 8)
 ) else (
  r05_Scan_l1 k a0 [] 0
 )
theorem r05_Scan_ok {k : Nat} : Sd1 (r05_Scan k) r05_Scan_J := by
 intro a0 r h
 unfold r05_Scan at h
 refine ent (c := bodyOf f51) func51 rfl rfl rfl fun cx => ?_
 obtain ⟨h1, h⟩ | ⟨h1, h⟩ := ite_some h
 · obtain rfl := Option.some.inj h
   exact rr 10 [(2, .br true)] [] [] 0 [pf (dt h1)]
 · exact tt 14 [(2, .br false)] [.slotOwn 5 128 107] [0, 5, 6] [(128, 0)] 1 [pf (df h1)] (r05_Scan_l1_ok h cx)

noncomputable def r06_New_O (a0 : PT) : List O := [.var 74 (ca a0)]
noncomputable def r06_New_V (a0 : PT) : V := .one (.ptr 0 0)
noncomputable def r06_New_J (a0 : Str) (a1 : Int) (r : PT) : Prop := Has prog 23 [.one (.str a0), .one (.int .i64 a1)] [] (r06_New_O r) (r06_New_V r)
noncomputable def r06_New (k : Nat) (a0 : Str) (a1 : Int) : Option PT :=
 (r05_Scan k a0).bind fun (r1, r2, r3) =>
 some (PT.mk r1 0 a1 r2 r3)
theorem r06_New_ok {k : Nat} : Sd2 (r06_New k) r06_New_J := by
 intro a0 a1 r h
 unfold r06_New at h
 refine ent (c := bodyOf f23) func23 rfl rfl rfl fun cx => ?_
 obtain ⟨⟨r1, r2, r3⟩, h1, h⟩ := bs h fun _ => r05_Scan_ok
 obtain rfl := Option.some.inj h
 exact rr 8 [(1, .reg [(1, cl [] h1)] [])] [] [(240, 0)] 1 [pf h1]

noncomputable def r06_P_End_O (a0 : PT) (a1 a2 : Int) : List O := [.var 74 (ca a0)]
noncomputable def r06_P_End_V (a0 : PT) (a1 a2 : Int) : V := .tup [.one (.int .i64 a1), .one (.int .i64 a2)]
noncomputable def r06_P_End_J (a0 : PT) (r : (PT × Int × Int)) : Prop := Has prog 25 [.one (.ptr 0 0)] [.var 74 (ca a0)] (r06_P_End_O r.1 r.2.1 r.2.2) (r06_P_End_V r.1 r.2.1 r.2.2)
noncomputable def r06_P_End_j1_K : List Item := stackAt (bodyOf f25) [1, 1] []
noncomputable def r06_P_End_j1_S (a0 : PT) : St := ⟨[(0, .one (.ptr 0 0))], [(0, .var 74 (ca a0))], 1, 38, 1⟩
noncomputable def r06_P_End_j1_J (a0 : PT) (r : (PT × Int × Int)) : Prop := ∀ cx : Cx, AK prog cx r06_P_End_j1_K (r06_P_End_j1_S a0) (Fin lay f25.results.toList 1 fun o v => o = r06_P_End_O r.1 r.2.1 r.2.2 ∧ v = r06_P_End_V r.1 r.2.1 r.2.2)
noncomputable def r06_P_End_j1 (a0 : PT) : Option (PT × Int × Int) :=
 if a0.E = 0 then (
  some (a0, 0, 0)
 ) else (
  some (a0, a0.At, a0.E)
 )
theorem r06_P_End_j1_ok : Sd1 r06_P_End_j1 r06_P_End_j1_J := by
 intro a0 r h cx
 unfold r06_P_End_j1 at h
 obtain ⟨h1, h⟩ | ⟨h1, h⟩ := ite_some h
 · obtain rfl := Option.some.inj h
   exact rr 8 [(1, .br true)] [] [(0, 0)] 1 [pf (dt h1)]
 · obtain rfl := Option.some.inj h
   exact rr 9 [(1, .br false)] [] [(0, 0)] 1 [pf (df h1)]

noncomputable def r06_P_bad_O (a0 : PT) : List O := [.var 74 (ca a0)]
noncomputable def r06_P_bad_V (a0 : PT) : V := .tup []
noncomputable def r06_P_bad_J (a0 : PT) (a1 : Int) (r : PT) : Prop := Has prog 56 [.one (.ptr 0 0), .one (.int .i64 a1)] [.var 74 (ca a0)] (r06_P_bad_O r) (r06_P_bad_V r)
noncomputable def r06_P_bad (a0 : PT) (a1 : Int) : Option PT :=
 if a0.E = 0 then (
  (idx a0.T a0.I).bind fun x1 =>
  some (PT.mk a0.T a0.I a0.Deep x1.At a1)
 ) else (
  some a0
 )
theorem r06_P_bad_ok : Sd2 r06_P_bad r06_P_bad_J := by
 intro a0 a1 r h
 unfold r06_P_bad at h
 refine ent (c := bodyOf f56) func56 rfl rfl rfl fun cx => ?_
 obtain ⟨h1, h⟩ | ⟨h1, h⟩ := ite_some h
 · obtain ⟨x1, h2, h⟩ := bind_some h
   obtain rfl := Option.some.inj h
   exact rr 7 [(1, .br true), (3, .reg [(11, .row (Row.cells x1))] [])] [] [(0, 0)] 1 [pf (dt h1), pf (inP h2), pf (atP h2)]
 · obtain rfl := Option.some.inj h
   exact rr 5 [(1, .br false)] [] [(0, 0)] 1 [pf (df h1)]

noncomputable def r06_P_End (a0 : PT) : Option (PT × Int × Int) :=
 if a0.E = 0 then (
  (idx a0.T a0.I).bind fun x1 =>
  if x1.Kind = 0 then (
   r06_P_End_j1 a0
  ) else (
   (r06_P_bad a0 10).bind fun r2 =>
   r06_P_End_j1 r2
  )
 ) else (
  r06_P_End_j1 a0
 )
theorem r06_P_End_ok : Sd1 r06_P_End r06_P_End_J := by
 intro a0 r h
 unfold r06_P_End at h
 refine ent (c := bodyOf f25) func25 rfl rfl rfl fun cx => ?_
 obtain ⟨h1, h⟩ | ⟨h1, h⟩ := ite_some h
 · obtain ⟨x1, h2, h⟩ := bind_some h
   obtain ⟨h3, h⟩ | ⟨h3, h⟩ := ite_some h
   · exact tt 7 [(1, .reg [(16, .row (Row.cells x1))] [(5, .bool true)]), (2, .br false)] [] [0] [(0, 0)] 1 [pf (dt h1), pf (inP h2), pf (atP h2), pf (ndf h3)] (r06_P_End_j1_ok h cx)
   · obtain ⟨r2, h4, h⟩ := bs h fun _ => r06_P_bad_ok
     exact tt 7 [(1, .reg [(16, .row (Row.cells x1))] [(5, .bool true)]), (2, .br true), (3, .reg [(1, cl [0] h4)] [])] [] [0] [(0, 0)] 1 [pf (dt h1), pf (inP h2), pf (atP h2), pf (ndt h3), pf h4] (r06_P_End_j1_ok h cx)
 · exact tt 7 [(1, .reg [] [(5, .bool false)])] [] [0] [(0, 0)] 1 [pf (df h1)] (r06_P_End_j1_ok h cx)

noncomputable def r06_P_is_O (a0 : PT) (a1 : Bool) : List O := [.var 74 (ca a0)]
noncomputable def r06_P_is_V (a0 : PT) (a1 : Bool) : V := .one (.bool a1)
noncomputable def r06_P_is_J (a0 : PT) (a1 : Str) (r : Bool) : Prop := Has prog 59 [.one (.ptr 0 0), .one (.str a1)] [.var 74 (ca a0)] (r06_P_is_O a0 r) (r06_P_is_V a0 r)
noncomputable def r06_P_is (a0 : PT) (a1 : Str) : Option Bool :=
 if a0.E = 0 then (
  (idx a0.T a0.I).bind fun x1 =>
  if x1.Kind = 1 then (
   some (decide (x1.Text = a1))
  ) else (
   if x1.Kind = 4 then (
    some (decide (x1.Text = a1))
   ) else (
    some false
   )
  )
 ) else (
  some false
 )
theorem r06_P_is_ok : Sd2 r06_P_is r06_P_is_J := by
 intro a0 a1 r h
 unfold r06_P_is at h
 refine ent (c := bodyOf f59) func59 rfl rfl rfl fun cx => ?_
 obtain ⟨h1, h⟩ | ⟨h1, h⟩ := ite_some h
 · obtain ⟨x1, h2, h⟩ := bind_some h
   obtain ⟨h3, h⟩ | ⟨h3, h⟩ := ite_some h
   · obtain rfl := Option.some.inj h
     exact rr 6 [(1, .reg [(16, .row (Row.cells x1)), (44, .row (Row.cells x1))] [(5, .bool true), (18, .bool true)])] [] [(0, 0)] 1 [pf (dt h1), pf (inP h2), pf (atP h2), pf (dt h3), pf (inP h2), pf (atP h2)]
   · obtain ⟨h4, h⟩ | ⟨h4, h⟩ := ite_some h
     · obtain rfl := Option.some.inj h
       exact rr 6 [(1, .reg [(16, .row (Row.cells x1)), (29, .row (Row.cells x1)), (44, .row (Row.cells x1))] [(5, .bool true), (18, .bool false), (33, .bool true)])] [] [(0, 0)] 1 [pf (dt h1), pf (inP h2), pf (atP h2), pf (df h3), pf (inP h2), pf (atP h2), pf (dt h4), pf (inP h2), pf (atP h2)]
     · obtain rfl := Option.some.inj h
       exact rr 6 [(1, .reg [(16, .row (Row.cells x1)), (29, .row (Row.cells x1))] [(5, .bool true), (18, .bool false), (33, .bool false)])] [] [(0, 0)] 1 [pf (dt h1), pf (inP h2), pf (atP h2), pf (df h3), pf (inP h2), pf (atP h2), pf (df h4)]
 · obtain rfl := Option.some.inj h
   exact rr 6 [(1, .reg [] [(5, .bool false)])] [] [(0, 0)] 1 [pf (df h1)]

noncomputable def r06_P_take_O (a0 : PT) (a1 : Bool) : List O := [.var 74 (ca a0)]
noncomputable def r06_P_take_V (a0 : PT) (a1 : Bool) : V := .one (.bool a1)
noncomputable def r06_P_take_J (a0 : PT) (a1 : Str) (r : (PT × Bool)) : Prop := Has prog 54 [.one (.ptr 0 0), .one (.str a1)] [.var 74 (ca a0)] (r06_P_take_O r.1 r.2) (r06_P_take_V r.1 r.2)
noncomputable def r06_P_take (a0 : PT) (a1 : Str) : Option (PT × Bool) :=
 (r06_P_is a0 a1).bind fun r1 =>
 if r1 = true then (
  some ((PT.mk a0.T (IntKind.i64.wrap (a0.I + 1)) a0.Deep a0.At a0.E), true)
 ) else (
  some (a0, false)
 )
theorem r06_P_take_ok : Sd2 r06_P_take r06_P_take_J := by
 intro a0 a1 r h
 unfold r06_P_take at h
 refine ent (c := bodyOf f54) func54 rfl rfl rfl fun cx => ?_
 obtain ⟨r1, h1, h⟩ := bs h fun _ => r06_P_is_ok
 obtain ⟨h2, h⟩ | ⟨h2, h⟩ := ite_some h
 · obtain rfl := Option.some.inj h
   exact rr 13 [(1, .reg [(2, cl [0] h1 [0])] []), (2, .br false)] [] [(0, 0)] 1 [pf h1, @pf (SameO (.var 74 (ca a0))) rfl, pf (nbf h2)]
 · obtain rfl := Option.some.inj h
   exact rr 10 [(1, .reg [(2, cl [0] h1 [0])] []), (2, .br true)] [] [(0, 0)] 1 [pf h1, @pf (SameO (.var 74 (ca a0))) rfl, pf (nbt h2)]

noncomputable def r06_P_must_O (a0 : PT) : List O := [.var 74 (ca a0)]
noncomputable def r06_P_must_V (a0 : PT) : V := .tup []
noncomputable def r06_P_must_J (a0 : PT) (a1 : Str) (r : PT) : Prop := Has prog 60 [.one (.ptr 0 0), .one (.str a1)] [.var 74 (ca a0)] (r06_P_must_O r) (r06_P_must_V r)
noncomputable def r06_P_must (a0 : PT) (a1 : Str) : Option PT :=
 (r06_P_take a0 a1).bind fun (r1, r2) =>
 if r2 = true then (
  some r1
 ) else (
  (r06_P_bad r1 10).bind fun r3 =>
  some r3
 )
theorem r06_P_must_ok : Sd2 r06_P_must r06_P_must_J := by
 intro a0 a1 r h
 unfold r06_P_must at h
 refine ent (c := bodyOf f60) func60 rfl rfl rfl fun cx => ?_
 obtain ⟨⟨r1, r2⟩, h1, h⟩ := bs h fun _ => r06_P_take_ok
 obtain ⟨h2, h⟩ | ⟨h2, h⟩ := ite_some h
 · obtain rfl := Option.some.inj h
   exact rr 5 [(0, .reg [(2, cl [0] h1)] []), (1, .br false)] [] [(0, 0)] 1 [pf h1, pf (nbf h2)]
 · obtain ⟨r3, h3, h⟩ := bs h fun _ => r06_P_bad_ok
   obtain rfl := Option.some.inj h
   exact rr 5 [(0, .reg [(2, cl [0] h1)] []), (1, .br true), (2, .reg [(1, cl [0] h3)] [])] [] [(0, 0)] 1 [pf h1, pf (nbt h2), pf h3]

noncomputable def r05_Word_O (a0 : Bool) : List O := []
noncomputable def r05_Word_V (a0 : Bool) : V := .one (.bool a0)
noncomputable def r05_Word_J (a0 : Str) (r : Bool) : Prop := Has prog 105 [.one (.str a0)] [] (r05_Word_O r) (r05_Word_V r)
noncomputable def r05_Word_l1_K : List Item := stackAt (bodyOf f105) [1, 1, 0, 1, 0, 0] []
noncomputable def r05_Word_l1_S (a0 : Str) (a1 : List Str) (a2 : Int) : St := ⟨[(0, .one (.str a0)), (3, .one (.c (.sl 1 (Row.rows (α := Str) a1)))), (4, .one (.int .i64 a2))], [], 0, 18, 0⟩
noncomputable def r05_Word_l1_J (a0 : Str) (a1 : List Str) (a2 : Int) (r : Bool) : Prop := ∀ cx : Cx, AK prog cx r05_Word_l1_K (r05_Word_l1_S a0 a1 a2) (Fin lay f105.results.toList 0 fun o v => o = r05_Word_O r ∧ v = r05_Word_V r)
structure Tab_r05_Word_l1 where
 k : Nat
 r05_Word_l1 : Str → (List Str) → Int → Option Bool
noncomputable def r05_Word_l1_b (T : Tab_r05_Word_l1) (a0 : Str) (a1 : List Str) (a2 : Int) : Option Bool :=
 if a2 < (a1.length : Int) then (
  (idx a1 a2).bind fun x1 =>
  if x1 = a0 then (
   some true
  ) else (
   T.r05_Word_l1 a0 a1 (IntKind.i64.wrap (a2 + 1))
  )
 ) else (
  some false
 )
noncomputable def tab_r05_Word_l1 : Nat → Tab_r05_Word_l1
 | 0 => ⟨0, fun _ _ _ => none⟩
 | k + 1 => ⟨k + 1, r05_Word_l1_b (tab_r05_Word_l1 k)⟩
noncomputable def r05_Word_l1 (k : Nat) := (tab_r05_Word_l1 k).r05_Word_l1
structure Ok_r05_Word_l1 (m : Nat) : Prop where
 r05_Word_l1 : Sd3 (tab_r05_Word_l1 m).r05_Word_l1 r05_Word_l1_J
theorem r05_Word_l1_okb {m : Nat} (ih : Ok_r05_Word_l1 m) : Sd3 (r05_Word_l1_b (tab_r05_Word_l1 m)) r05_Word_l1_J := by
 intro a0 a1 a2 r h cx
 unfold r05_Word_l1_b at h
 obtain ⟨h1, h⟩ | ⟨h1, h⟩ := ite_some h
 · obtain ⟨x1, h2, h⟩ := bind_some h
   obtain ⟨h3, h⟩ | ⟨h3, h⟩ := ite_some h
   · obtain rfl := Option.some.inj h
     exact rr 14 [(0, .reg [] [(2, .one (.int .i64 (a1.length : Int)))]), (1, .br true), (2, .reg [(3, .row (Row.cells x1))] []), (3, .br true)] [] [] 0 [@pf (LenP (α := Str) a1) (lenP _), pf (dt h1), pf (inP h2), pf (atP h2), pf (dt h3)]
   · exact tt 14 [(0, .reg [] [(2, .one (.int .i64 (a1.length : Int)))]), (1, .br true), (2, .reg [(3, .row (Row.cells x1))] []), (3, .br false)] [] [0, 3, 4] [] 0 [@pf (LenP (α := Str) a1) (lenP _), pf (dt h1), pf (inP h2), pf (atP h2), pf (df h3)] (ih.r05_Word_l1 h cx)
 · obtain rfl := Option.some.inj h
   exact rr 9 [(0, .reg [] [(2, .one (.int .i64 (a1.length : Int)))]), (1, .br false)] [] [] 0 [@pf (LenP (α := Str) a1) (lenP _), pf (df h1)]
theorem ok_r05_Word_l1 : ∀ m, Ok_r05_Word_l1 m
 | 0 => ⟨(fun h => nomatch (show none = some _ from h))⟩
 | m + 1 => ⟨r05_Word_l1_okb (ok_r05_Word_l1 m)⟩
theorem r05_Word_l1_ok {k : Nat} : Sd3 (r05_Word_l1 k) r05_Word_l1_J := (ok_r05_Word_l1 k).r05_Word_l1

noncomputable def r05_Words_O (a0 : List Str) : List O := []
noncomputable def r05_Words_V (a0 : List Str) : V := .one (.c (.sl 1 (Row.rows (α := Str) a0)))
noncomputable def r05_Words_J (r : ((List Str))) : Prop := Has prog 129 [] [] (r05_Words_O r) (r05_Words_V r)
noncomputable def r05_Words : Option ((List Str)) :=
 some [s_all, s_and, s_as, s_begin, s_begins, s_between, s_by, s_call, s_case, s_catch, s_commit, s_delete, s_desc, s_distinct, s_else, s_end, s_except, s_exists, s_for, s_from, s_group, s_having, s_hide, s_if, s_in, s_input, s_insert, s_int, s_into, s_intersect, s_is, s_join, s_key, s_left, s_level, s_levels, s_limit, s_not, s_null, s_on, s_or, s_order, s_principal, s_print, s_proc, s_raise, s_rollback, s_rows, s_select, s_set, s_table, s_text, s_then, s_true, s_try, s_false, s_bool, s_union, s_update, s_values, s_var, s_visible, s_when, s_where, s_while, s_channel, s_skip]
theorem r05_Words_ok : Sd0 r05_Words r05_Words_J := by
 intro r h
 unfold r05_Words at h
 refine ent (c := bodyOf f129) func129 rfl rfl rfl fun cx => ?_
 obtain rfl := Option.some.inj h
 exact rr 6 [(1, .reg [] [(0, .one (.own 1 (Row.rows (α := Str) [s_all, s_and, s_as, s_begin, s_begins, s_between, s_by, s_call, s_case, s_catch, s_commit, s_delete, s_desc, s_distinct, s_else, s_end, s_except, s_exists, s_for, s_from, s_group, s_having, s_hide, s_if, s_in, s_input, s_insert, s_int, s_into, s_intersect, s_is, s_join, s_key, s_left, s_level, s_levels, s_limit, s_not, s_null, s_on, s_or, s_order, s_principal, s_print, s_proc, s_raise, s_rollback, s_rows, s_select, s_set, s_table, s_text, s_then, s_true, s_try, s_false, s_bool, s_union, s_update, s_values, s_var, s_visible, s_when, s_where, s_while, s_channel, s_skip]) 16))])] [] [] 0 [@pf (BldP (α := Str) [s_all, s_and, s_as, s_begin, s_begins, s_between, s_by, s_call, s_case, s_catch, s_commit, s_delete, s_desc, s_distinct, s_else, s_end, s_except, s_exists, s_for, s_from, s_group, s_having, s_hide, s_if, s_in, s_input, s_insert, s_int, s_into, s_intersect, s_is, s_join, s_key, s_left, s_level, s_levels, s_limit, s_not, s_null, s_on, s_or, s_order, s_principal, s_print, s_proc, s_raise, s_rollback, s_rows, s_select, s_set, s_table, s_text, s_then, s_true, s_try, s_false, s_bool, s_union, s_update, s_values, s_var, s_visible, s_when, s_where, s_while, s_channel, s_skip] 16) (bldP _ _)]

noncomputable def r05_Word (k : Nat) (a0 : Str) : Option Bool :=
 (r05_Words).bind fun r1 =>
 r05_Word_l1 k a0 r1 0
theorem r05_Word_ok {k : Nat} : Sd1 (r05_Word k) r05_Word_J := by
 intro a0 r h
 unfold r05_Word at h
 refine ent (c := bodyOf f105) func105 rfl rfl rfl fun cx => ?_
 obtain ⟨r1, h1, h⟩ := bs h fun _ => r05_Words_ok
 exact tt 9 [(1, .reg [(0, cl [] h1)] [])] [] [0, 3, 4] [] 0 [pf h1] (r05_Word_l1_ok h cx)

noncomputable def r06_P_name_O (a0 : PT) (a1 : Str) : List O := [.var 74 (ca a0)]
noncomputable def r06_P_name_V (a0 : PT) (a1 : Str) : V := .one (.str a1)
noncomputable def r06_P_name_J (a0 : PT) (r : (PT × Str)) : Prop := Has prog 73 [.one (.ptr 0 0)] [.var 74 (ca a0)] (r06_P_name_O r.1 r.2) (r06_P_name_V r.1 r.2)
noncomputable def r06_P_name (k : Nat) (a0 : PT) : Option (PT × Str) :=
 if a0.E = 0 then (
  (idx a0.T a0.I).bind fun x1 =>
  if x1.Kind = 1 then (
   (r05_Word k x1.Text).bind fun r2 =>
   if r2 = true then (
    (r06_P_bad a0 10).bind fun r3 =>
    some (r3, [])
   ) else (
    (idx a0.T (IntKind.i64.wrap ((IntKind.i64.wrap (a0.I + 1)) - 1))).bind fun x3 =>
    some ((PT.mk a0.T (IntKind.i64.wrap (a0.I + 1)) a0.Deep a0.At a0.E), x3.Text)
   )
  ) else (
   (r06_P_bad a0 10).bind fun r2 =>
   some (r2, [])
  )
 ) else (
  (r06_P_bad a0 10).bind fun r1 =>
  some (r1, [])
 )
theorem r06_P_name_ok {k : Nat} : Sd1 (r06_P_name k) r06_P_name_J := by
 intro a0 r h
 unfold r06_P_name at h
 refine ent (c := bodyOf f73) func73 rfl rfl rfl fun cx => ?_
 obtain ⟨h1, h⟩ | ⟨h1, h⟩ := ite_some h
 · obtain ⟨x1, h2, h⟩ := bind_some h
   obtain ⟨h3, h⟩ | ⟨h3, h⟩ := ite_some h
   · obtain ⟨r2, h4, h⟩ := bs h fun _ => r05_Word_ok
     obtain ⟨h5, h⟩ | ⟨h5, h⟩ := ite_some h
     · obtain ⟨r3, h6, h⟩ := bs h fun _ => r06_P_bad_ok
       obtain rfl := Option.some.inj h
       exact rr 12 [(1, .reg [(16, .row (Row.cells x1)), (30, .row (Row.cells x1)), (31, cl [] h4)] [(5, .bool false), (19, .bool false)]), (2, .br true), (3, .reg [(1, cl [0] h6)] [])] [] [(0, 0)] 1 [pf (ndf h1), pf (inP h2), pf (atP h2), pf (ndf h3), pf (inP h2), pf (atP h2), pf h4, pf (bt h5), pf h6]
     · obtain ⟨x3, h6, h⟩ := bind_some h
       obtain rfl := Option.some.inj h
       exact rr 13 [(1, .reg [(16, .row (Row.cells x1)), (30, .row (Row.cells x1)), (31, cl [] h4)] [(5, .bool false), (19, .bool false)]), (2, .br false), (4, .reg [(11, .row (Row.cells x3))] [])] [] [(0, 0)] 1 [pf (ndf h1), pf (inP h2), pf (atP h2), pf (ndf h3), pf (inP h2), pf (atP h2), pf h4, pf (bf h5), pf (inP h6), pf (atP h6)]
   · obtain ⟨r2, h4, h⟩ := bs h fun _ => r06_P_bad_ok
     obtain rfl := Option.some.inj h
     exact rr 12 [(1, .reg [(16, .row (Row.cells x1))] [(5, .bool false), (19, .bool true)]), (3, .reg [(1, cl [0] h4)] [])] [] [(0, 0)] 1 [pf (ndf h1), pf (inP h2), pf (atP h2), pf (ndt h3), pf h4]
 · obtain ⟨r1, h2, h⟩ := bs h fun _ => r06_P_bad_ok
   obtain rfl := Option.some.inj h
   exact rr 12 [(1, .reg [] [(5, .bool true)]), (3, .reg [(1, cl [0] h2)] [])] [] [(0, 0)] 1 [pf (ndt h1), pf h2]

noncomputable def r06_P_int_O (a0 : PT) (a1 : Int) : List O := [.var 74 (ca a0)]
noncomputable def r06_P_int_V (a0 : PT) (a1 : Int) : V := .one (.int .i64 a1)
noncomputable def r06_P_int_J (a0 : PT) (r : (PT × Int)) : Prop := Has prog 75 [.one (.ptr 0 0)] [.var 74 (ca a0)] (r06_P_int_O r.1 r.2) (r06_P_int_V r.1 r.2)
noncomputable def r06_P_int (a0 : PT) : Option (PT × Int) :=
 if a0.E = 0 then (
  (idx a0.T a0.I).bind fun x1 =>
  if x1.Kind = 2 then (
   (idx a0.T (IntKind.i64.wrap ((IntKind.i64.wrap (a0.I + 1)) - 1))).bind fun x2 =>
   some ((PT.mk a0.T (IntKind.i64.wrap (a0.I + 1)) a0.Deep a0.At a0.E), x2.N)
  ) else (
   (r06_P_bad a0 10).bind fun r2 =>
   some (r2, 0)
  )
 ) else (
  (r06_P_bad a0 10).bind fun r1 =>
  some (r1, 0)
 )
theorem r06_P_int_ok : Sd1 r06_P_int r06_P_int_J := by
 intro a0 r h
 unfold r06_P_int at h
 refine ent (c := bodyOf f75) func75 rfl rfl rfl fun cx => ?_
 obtain ⟨h1, h⟩ | ⟨h1, h⟩ := ite_some h
 · obtain ⟨x1, h2, h⟩ := bind_some h
   obtain ⟨h3, h⟩ | ⟨h3, h⟩ := ite_some h
   · obtain ⟨x2, h4, h⟩ := bind_some h
     obtain rfl := Option.some.inj h
     exact rr 13 [(1, .reg [(16, .row (Row.cells x1))] [(5, .bool false)]), (2, .br false), (4, .reg [(11, .row (Row.cells x2))] [])] [] [(0, 0)] 1 [pf (ndf h1), pf (inP h2), pf (atP h2), pf (ndf h3), pf (inP h4), pf (atP h4)]
   · obtain ⟨r2, h4, h⟩ := bs h fun _ => r06_P_bad_ok
     obtain rfl := Option.some.inj h
     exact rr 12 [(1, .reg [(16, .row (Row.cells x1))] [(5, .bool false)]), (2, .br true), (3, .reg [(1, cl [0] h4)] [])] [] [(0, 0)] 1 [pf (ndf h1), pf (inP h2), pf (atP h2), pf (ndt h3), pf h4]
 · obtain ⟨r1, h2, h⟩ := bs h fun _ => r06_P_bad_ok
   obtain rfl := Option.some.inj h
   exact rr 12 [(1, .reg [] [(5, .bool true)]), (3, .reg [(1, cl [0] h2)] [])] [] [(0, 0)] 1 [pf (ndt h1), pf h2]

noncomputable def r06_P_down_O (a0 : PT) : List O := [.var 74 (ca a0)]
noncomputable def r06_P_down_V (a0 : PT) : V := .tup []
noncomputable def r06_P_down_J (a0 : PT) (r : PT) : Prop := Has prog 52 [.one (.ptr 0 0)] [.var 74 (ca a0)] (r06_P_down_O r) (r06_P_down_V r)
noncomputable def r06_P_down (a0 : PT) : Option PT :=
 if a0.E = 0 then (
  if 40 < (IntKind.i64.wrap (a0.Deep + 1)) then (
   (r06_P_bad (PT.mk a0.T a0.I (IntKind.i64.wrap (a0.Deep + 1)) a0.At a0.E) 9).bind fun r1 =>
   some r1
  ) else (
   some (PT.mk a0.T a0.I (IntKind.i64.wrap (a0.Deep + 1)) a0.At a0.E)
  )
 ) else (
  some (PT.mk a0.T a0.I (IntKind.i64.wrap (a0.Deep + 1)) a0.At a0.E)
 )
theorem r06_P_down_ok : Sd1 r06_P_down r06_P_down_J := by
 intro a0 r h
 unfold r06_P_down at h
 refine ent (c := bodyOf f52) func52 rfl rfl rfl fun cx => ?_
 obtain ⟨h1, h⟩ | ⟨h1, h⟩ := ite_some h
 · obtain ⟨h2, h⟩ | ⟨h2, h⟩ := ite_some h
   · obtain ⟨r1, h3, h⟩ := bs h fun _ => r06_P_bad_ok
     obtain rfl := Option.some.inj h
     exact rr 7 [(1, .reg [] [(5, .bool true)]), (2, .br true), (3, .reg [(1, cl [0] h3)] [])] [] [(0, 0)] 1 [pf (dt h1), pf (dt h2), pf h3]
   · obtain rfl := Option.some.inj h
     exact rr 7 [(1, .reg [] [(5, .bool true)]), (2, .br false)] [] [(0, 0)] 1 [pf (dt h1), pf (df h2)]
 · obtain rfl := Option.some.inj h
   exact rr 7 [(1, .reg [] [(5, .bool false)])] [] [(0, 0)] 1 [pf (df h1)]

noncomputable def r06_P_cmp_O (a0 : PT) (a1 : Expr) : List O := [.var 74 (ca a0)]
noncomputable def r06_P_cmp_V (a0 : PT) (a1 : Expr) : V := .agg (ca a1)
noncomputable def r06_P_cmp_J (a0 : PT) (r : (PT × Expr)) : Prop := Has prog 121 [.one (.ptr 0 0)] [.var 74 (ca a0)] (r06_P_cmp_O r.1 r.2) (r06_P_cmp_V r.1 r.2)
noncomputable def r06_P_cmp_j1_K : List Item := stackAt (bodyOf f121) [1, 1, 1, 1, 0, 1, 0, 1, 1] []
noncomputable def r06_P_cmp_j1_S (a0 : PT) (a1 : Expr) (a2 : Int) : St := ⟨[(0, .one (.ptr 0 0)), (2, .one (.ptr 1 0)), (3, .one (.ptr 2 0)), (5, .one (.int .i64 a2))], [(0, .var 74 (ca a0)), (1, .var 26 [.int .i64 0, .int .i64 0, .str [], .str [], .nil 6, .nil 10]), (2, .var 26 (ca a1))], 3, 53, 1⟩
noncomputable def r06_P_cmp_j1_J (a0 : PT) (a1 : Expr) (a2 : Int) (r : (PT × Expr)) : Prop := ∀ cx : Cx, AK prog cx r06_P_cmp_j1_K (r06_P_cmp_j1_S a0 a1 a2) (Fin lay f121.results.toList 1 fun o v => o = r06_P_cmp_O r.1 r.2 ∧ v = r06_P_cmp_V r.1 r.2)
noncomputable def r06_P_cmp_j1 (a0 : PT) (a1 : Expr) (a2 : Int) : Option (PT × Expr) :=
 (r06_P_must a0 s_null).bind fun r1 =>
 some (r1, (Expr.mk 9 a2 [] [] [a1] []))
theorem r06_P_cmp_j1_ok : Sd3 r06_P_cmp_j1 r06_P_cmp_j1_J := by
 intro a0 a1 a2 r h cx
 unfold r06_P_cmp_j1 at h
 obtain ⟨r1, h1, h⟩ := bs h fun _ => r06_P_must_ok
 obtain rfl := Option.some.inj h
 exact rr 6 [(0, .reg [(1, cl [0] h1)] []), (1, .reg [] [(2, .one (.own 6 (Row.rows (α := Expr) [a1]) 67))])] [] [(0, 0)] 1 [pf h1, @pf (BldP (α := Expr) [a1] 67) (bldP _ _)]

noncomputable def r06_P_oneOf_O (a0 : PT) (a1 : Str) : List O := [.var 74 (ca a0)]
noncomputable def r06_P_oneOf_V (a0 : PT) (a1 : Str) : V := .one (.str a1)
noncomputable def r06_P_oneOf_J (a0 : PT) (a1 : List Str) (r : (PT × Str)) : Prop := Has prog 140 [.one (.ptr 0 0), .one (.c (.sl 1 (Row.rows (α := Str) a1)))] [.var 74 (ca a0)] (r06_P_oneOf_O r.1 r.2) (r06_P_oneOf_V r.1 r.2)
noncomputable def r06_P_oneOf_l1_K : List Item := stackAt (bodyOf f140) [1, 0, 1, 0, 0] []
noncomputable def r06_P_oneOf_l1_S (a0 : PT) (a1 : List Str) (a2 : Int) : St := ⟨[(0, .one (.ptr 0 0)), (1, .one (.c (.sl 1 (Row.rows (α := Str) a1)))), (5, .one (.int .i64 a2))], [(0, .var 74 (ca a0))], 1, 22, 1⟩
noncomputable def r06_P_oneOf_l1_J (a0 : PT) (a1 : List Str) (a2 : Int) (r : (PT × Str)) : Prop := ∀ cx : Cx, AK prog cx r06_P_oneOf_l1_K (r06_P_oneOf_l1_S a0 a1 a2) (Fin lay f140.results.toList 1 fun o v => o = r06_P_oneOf_O r.1 r.2 ∧ v = r06_P_oneOf_V r.1 r.2)
structure Tab_r06_P_oneOf_l1 where
 k : Nat
 r06_P_oneOf_l1 : PT → (List Str) → Int → Option (PT × Str)
noncomputable def r06_P_oneOf_l1_b (T : Tab_r06_P_oneOf_l1) (a0 : PT) (a1 : List Str) (a2 : Int) : Option (PT × Str) :=
 if a2 < (a1.length : Int) then (
  (idx a1 a2).bind fun x1 =>
  (r06_P_take a0 x1).bind fun (r2, r3) =>
  if r3 = true then (
   some (r2, x1)
  ) else (
   T.r06_P_oneOf_l1 r2 a1 (IntKind.i64.wrap (a2 + 1))
  )
 ) else (
  some (a0, [])
 )
noncomputable def tab_r06_P_oneOf_l1 : Nat → Tab_r06_P_oneOf_l1
 | 0 => ⟨0, fun _ _ _ => none⟩
 | k + 1 => ⟨k + 1, r06_P_oneOf_l1_b (tab_r06_P_oneOf_l1 k)⟩
noncomputable def r06_P_oneOf_l1 (k : Nat) := (tab_r06_P_oneOf_l1 k).r06_P_oneOf_l1
structure Ok_r06_P_oneOf_l1 (m : Nat) : Prop where
 r06_P_oneOf_l1 : Sd3 (tab_r06_P_oneOf_l1 m).r06_P_oneOf_l1 r06_P_oneOf_l1_J
theorem r06_P_oneOf_l1_okb {m : Nat} (ih : Ok_r06_P_oneOf_l1 m) : Sd3 (r06_P_oneOf_l1_b (tab_r06_P_oneOf_l1 m)) r06_P_oneOf_l1_J := by
 intro a0 a1 a2 r h cx
 unfold r06_P_oneOf_l1_b at h
 obtain ⟨h1, h⟩ | ⟨h1, h⟩ := ite_some h
 · obtain ⟨x1, h2, h⟩ := bind_some h
   obtain ⟨⟨r2, r3⟩, h3, h⟩ := bs h fun _ => r06_P_take_ok
   obtain ⟨h4, h⟩ | ⟨h4, h⟩ := ite_some h
   · obtain rfl := Option.some.inj h
     exact rr 14 [(0, .reg [] [(2, .one (.int .i64 (a1.length : Int)))]), (1, .br true), (2, .reg [(4, .row (Row.cells x1)), (5, cl [0] h3)] []), (3, .br true), (4, .reg [(3, .row (Row.cells x1))] [])] [] [(0, 0)] 1 [@pf (LenP (α := Str) a1) (lenP _), pf (dt h1), pf (inP h2), pf (atP h2), pf h3, pf (bt h4), pf (inP h2), pf (atP h2)]
   · exact tt 14 [(0, .reg [] [(2, .one (.int .i64 (a1.length : Int)))]), (1, .br true), (2, .reg [(4, .row (Row.cells x1)), (5, cl [0] h3)] []), (3, .br false)] [] [0, 1, 5] [(0, 0)] 1 [@pf (LenP (α := Str) a1) (lenP _), pf (dt h1), pf (inP h2), pf (atP h2), pf h3, pf (bf h4)] (ih.r06_P_oneOf_l1 h cx)
 · obtain rfl := Option.some.inj h
   exact rr 9 [(0, .reg [] [(2, .one (.int .i64 (a1.length : Int)))]), (1, .br false)] [] [(0, 0)] 1 [@pf (LenP (α := Str) a1) (lenP _), pf (df h1)]
theorem ok_r06_P_oneOf_l1 : ∀ m, Ok_r06_P_oneOf_l1 m
 | 0 => ⟨(fun h => nomatch (show none = some _ from h))⟩
 | m + 1 => ⟨r06_P_oneOf_l1_okb (ok_r06_P_oneOf_l1 m)⟩
theorem r06_P_oneOf_l1_ok {k : Nat} : Sd3 (r06_P_oneOf_l1 k) r06_P_oneOf_l1_J := (ok_r06_P_oneOf_l1 k).r06_P_oneOf_l1

noncomputable def r06_P_oneOf (k : Nat) (a0 : PT) (a1 : List Str) : Option (PT × Str) :=
 r06_P_oneOf_l1 k a0 a1 0
theorem r06_P_oneOf_ok {k : Nat} : Sd2 (r06_P_oneOf k) r06_P_oneOf_J := by
 intro a0 a1 r h
 unfold r06_P_oneOf at h
 refine ent (c := bodyOf f140) func140 rfl rfl rfl fun cx => ?_
 exact tt 7 [] [] [0, 1, 5] [(0, 0)] 1 [] (r06_P_oneOf_l1_ok h cx)

noncomputable def r06_P_prim_O (a0 : PT) (a1 : Expr) : List O := [.var 74 (ca a0)]
noncomputable def r06_P_prim_V (a0 : PT) (a1 : Expr) : V := .agg (ca a1)
noncomputable def r06_P_prim_J (a0 : PT) (r : (PT × Expr)) : Prop := Has prog 157 [.one (.ptr 0 0)] [.var 74 (ca a0)] (r06_P_prim_O r.1 r.2) (r06_P_prim_V r.1 r.2)
noncomputable def r06_P_prim_j1_K : List Item := stackAt (bodyOf f157) [1, 1, 1, 1, 1, 1, 1, 1, 1, 1, 1, 0, 1, 0, 1, 1] []
noncomputable def r06_P_prim_j1_S (a0 : PT) (a1 : Expr) : St := ⟨[(0, .one (.ptr 0 0)), (2, .one (.ptr 1 0)), (8, .one (.ptr 2 0))], [(0, .var 74 (ca a0)), (1, .var 26 [.int .i64 0, .int .i64 0, .str [], .str [], .nil 6, .nil 10]), (2, .var 26 (ca a1))], 3, 159, 1⟩
noncomputable def r06_P_prim_j1_J (a0 : PT) (a1 : Expr) (r : (PT × Expr)) : Prop := ∀ cx : Cx, AK prog cx r06_P_prim_j1_K (r06_P_prim_j1_S a0 a1) (Fin lay f157.results.toList 1 fun o v => o = r06_P_prim_O r.1 r.2 ∧ v = r06_P_prim_V r.1 r.2)
noncomputable def r06_P_prim_j1 (a0 : PT) (a1 : Expr) : Option (PT × Expr) :=
 (r06_P_must a0 s_x29).bind fun r1 =>
 some (r1, a1)
theorem r06_P_prim_j1_ok : Sd2 r06_P_prim_j1 r06_P_prim_j1_J := by
 intro a0 a1 r h cx
 unfold r06_P_prim_j1 at h
 obtain ⟨r1, h1, h⟩ := bs h fun _ => r06_P_must_ok
 obtain rfl := Option.some.inj h
 exact rr 6 [(0, .reg [(1, cl [0] h1)] [])] [] [(0, 0)] 1 [pf h1]

noncomputable def r06_bin_O (a0 : Expr) : List O := []
noncomputable def r06_bin_V (a0 : Expr) : V := .agg (ca a0)
noncomputable def r06_bin_J (a0 : Str) (a1 a2 : Expr) (r : Expr) : Prop := Has prog 55 [.one (.str a0), .agg (ca a1), .agg (ca a2)] [] (r06_bin_O r) (r06_bin_V r)
noncomputable def r06_bin (a0 : Str) (a1 a2 : Expr) : Option Expr :=
 some (Expr.mk 10 0 a0 [] [a1, a2] [])
theorem r06_bin_ok : Sd3 r06_bin r06_bin_J := by
 intro a0 a1 a2 r h
 unfold r06_bin at h
 refine ent (c := bodyOf f55) func55 rfl rfl rfl fun cx => ?_
 obtain rfl := Option.some.inj h
 exact rr 6 [(1, .reg [] [(3, .one (.own 6 (Row.rows (α := Expr) [a1, a2]) 96))])] [] [] 0 [@pf (BldP (α := Expr) [a1, a2] 96) (bldP _ _)]
end Go.Syn
