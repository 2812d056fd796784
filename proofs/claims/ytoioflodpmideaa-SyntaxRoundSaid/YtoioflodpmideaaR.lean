/- The document-s parser and scanner as plain functions: a second way to say what the parser answers. They speak of no code of the program. (Taken from the print for the other laws of this layer.) -/
import Derived.Test.YtoioflodpmideaaM3
namespace Go.Syn
open Go.Abs
set_option linter.unusedVariables false
structure PT where
  mk ::
  T : List Token
  I : Int
  Deep : Int
  At : Int
  E : Int

noncomputable def r05_digit (a0 : UInt8) : Option Bool :=
 if 48 ≤ (a0.toNat : Int) then (
  some (decide ((a0.toNat : Int) ≤ 57))
 ) else (
  some false
 )
noncomputable def r05_letter (a0 : UInt8) : Option Bool :=
 if 97 ≤ (a0.toNat : Int) then (
  if (a0.toNat : Int) ≤ 122 then (
   some true
  ) else (
   if 65 ≤ (a0.toNat : Int) then (
    if (a0.toNat : Int) ≤ 90 then (
     some true
    ) else (
     some (decide ((a0.toNat : Int) = 95))
    )
   ) else (
    some (decide ((a0.toNat : Int) = 95))
   )
  )
 ) else (
  if 65 ≤ (a0.toNat : Int) then (
   if (a0.toNat : Int) ≤ 90 then (
    some true
   ) else (
    some (decide ((a0.toNat : Int) = 95))
   )
  ) else (
   some (decide ((a0.toNat : Int) = 95))
  )
 )
noncomputable def r05_Marks : Option ((List Str)) :=
 some [s_x7cx7c, s_x3cx3e, s_x3cx3d, s_x3ex3d, s_x28, s_x29, s_x2c, s_x3b, s_x2e, s_x2a, s_x2b, s_x2d, s_x2f, s_x25, s_x3d, s_x3c, s_x3e, s_x7b, s_x7d, s_x3a]
structure Tab_r05_one_l4 where
 k : Nat
 r05_one_l4 : Token → Str → Int → Int → Option (Token × Int × Int × Int)
noncomputable def r05_one_l4_b (T : Tab_r05_one_l4) (a0 : Token) (a1 : Str) (a2 a3 : Int) : Option (Token × Int × Int × Int) :=
 if a3 < a2 then (
  chk (0 ≤ a3 ∧ a3 < (a1.length : Int)) <|
  T.r05_one_l4 (Token.mk a0.Kind a0.Text (IntKind.i64.wrap ((IntKind.i64.wrap ((IntKind.i64.wrap (10 * a0.N)) + (IntKind.i64.wrap (byteAt a1 a3)))) - 48)) a0.At) a1 a2 (IntKind.i64.wrap (a3 + 1))
 ) else (
  some (a0, a2, 0, 0)
 )
noncomputable def tab_r05_one_l4 : Nat → Tab_r05_one_l4
 | 0 => ⟨0, fun _ _ _ _ => none⟩
 | k + 1 => ⟨k + 1, r05_one_l4_b (tab_r05_one_l4 k)⟩
noncomputable def r05_one_l4 (k : Nat) := (tab_r05_one_l4 k).r05_one_l4
structure Tab_r05_one_j3 where
 k : Nat
 r05_one_l2 : Str → Int → Int → Bool → Option (Token × Int × Int × Int)
noncomputable def r05_one_j3_b (T : Tab_r05_one_j3) (a0 : Str) (a1 a2 : Int) (a3 a4 : Bool) : Option (Token × Int × Int × Int) :=
 if a4 = true then (
  T.r05_one_l2 a0 a1 (IntKind.i64.wrap (a2 + 1)) a3
 ) else (
  chk (0 ≤ a1 ∧ a1 ≤ a2 ∧ a2 ≤ (a0.length : Int)) <|
  if a3 = true then (
   if 30 < (IntKind.i64.wrap (a2 - a1)) then (
    some ((Token.mk 0 [] 0 0), 0, a1, 10)
   ) else (
    some ((Token.mk 1 (sub a0 a1 a2) 0 a1), a2, 0, 0)
   )
  ) else (
   if 18 < (IntKind.i64.wrap (a2 - a1)) then (
    some ((Token.mk 0 [] 0 0), 0, a1, 10)
   ) else (
    r05_one_l4 T.k (Token.mk 2 (sub a0 a1 a2) 0 a1) a0 a2 a1
   )
  )
 )
noncomputable def r05_one_l2_b (T : Tab_r05_one_j3) (a0 : Str) (a1 a2 : Int) (a3 : Bool) : Option (Token × Int × Int × Int) :=
 if a2 < (a0.length : Int) then (
  chk (0 ≤ a2 ∧ a2 < (a0.length : Int)) <|
  (r05_digit (u8At a0 a2)).bind fun r1 =>
  if r1 = true then (
   r05_one_j3_b T a0 a1 a2 a3 true
  ) else (
   if a3 = true then (
    (r05_letter (u8At a0 a2)).bind fun r2 =>
    r05_one_j3_b T a0 a1 a2 a3 r2
   ) else (
    r05_one_j3_b T a0 a1 a2 a3 false
   )
  )
 ) else (
  r05_one_j3_b T a0 a1 a2 a3 false
 )
noncomputable def tab_r05_one_j3 : Nat → Tab_r05_one_j3
 | 0 => ⟨0, fun _ _ _ _ => none⟩
 | k + 1 => ⟨k + 1, r05_one_l2_b (tab_r05_one_j3 k)⟩
noncomputable def r05_one_l2 (k : Nat) := (tab_r05_one_j3 k).r05_one_l2
structure Tab_r05_one_j6 where
 k : Nat
 r05_one_l5 : Str → Int → (List Str) → Int → Option (Token × Int × Int × Int)
noncomputable def r05_one_j6_b (T : Tab_r05_one_j6) (a0 : Str) (a1 : Int) (a2 : List Str) (a3 : Int) (a4 : Bool) : Option (Token × Int × Int × Int) :=
 if a4 = true then (
  (idx a2 a3).bind fun x1 =>
  some ((Token.mk 4 x1 0 a1), (IntKind.i64.wrap (a1 + (x1.length : Int))), 0, 0)
 ) else (
  T.r05_one_l5 a0 a1 a2 (IntKind.i64.wrap (a3 + 1))
 )
noncomputable def r05_one_l5_b (T : Tab_r05_one_j6) (a0 : Str) (a1 : Int) (a2 : List Str) (a3 : Int) : Option (Token × Int × Int × Int) :=
 if a3 < (a2.length : Int) then (
  (idx a2 a3).bind fun x1 =>
  if (x1.length : Int) ≤ (IntKind.i64.wrap ((a0.length : Int) - a1)) then (
   chk (0 ≤ a1 ∧ a1 ≤ (IntKind.i64.wrap (a1 + (x1.length : Int))) ∧ (IntKind.i64.wrap (a1 + (x1.length : Int))) ≤ (a0.length : Int)) <|
   r05_one_j6_b T a0 a1 a2 a3 (decide ((sub a0 a1 (IntKind.i64.wrap (a1 + (x1.length : Int)))) = x1))
  ) else (
   r05_one_j6_b T a0 a1 a2 a3 false
  )
 ) else (
  some ((Token.mk 0 [] 0 0), 0, a1, 10)
 )
noncomputable def tab_r05_one_j6 : Nat → Tab_r05_one_j6
 | 0 => ⟨0, fun _ _ _ _ => none⟩
 | k + 1 => ⟨k + 1, r05_one_l5_b (tab_r05_one_j6 k)⟩
noncomputable def r05_one_l5 (k : Nat) := (tab_r05_one_j6 k).r05_one_l5
structure Tab_r05_text_j2 where
 k : Nat
 r05_text_l1 : Str → Int → (List UInt8) → Int → Option (Int × Str × Int × Int)
noncomputable def r05_text_j4_b (T : Tab_r05_text_j2) (a0 : Str) (a1 : Int) (a2 : List UInt8) (a3 : Int) : Option (Int × Str × Int × Int) :=
 T.r05_text_l1 a0 a1 a2 (IntKind.i64.wrap (a3 + 1))
noncomputable def r05_text_j3_b (T : Tab_r05_text_j2) (a0 : Str) (a1 : Int) (a2 : List UInt8) (a3 : Int) (a4 : Bool) : Option (Int × Str × Int × Int) :=
 if a4 = true then (
  chk (CapOk 1 a2 [(39 : UInt8)]) <|
  r05_text_j4_b T a0 a1 (a2 ++ [(39 : UInt8)]) (IntKind.i64.wrap (a3 + 1))
 ) else (
  if 1000 < (a2.length : Int) then (
   some (0, [], a1, 10)
  ) else (
   some ((IntKind.i64.wrap (a3 + 1)), a2, 0, 0)
  )
 )
noncomputable def r05_text_j2_b (T : Tab_r05_text_j2) (a0 : Str) (a1 : Int) (a2 : List UInt8) (a3 : Int) (a4 : Bool) : Option (Int × Str × Int × Int) :=
 if a4 = true then (
  some (0, [], a3, 10)
 ) else (
  chk (0 ≤ a3 ∧ a3 < (a0.length : Int)) <|
  if (byteAt a0 a3) = 39 then (
   if (IntKind.i64.wrap (a3 + 1)) < (a0.length : Int) then (
    chk (0 ≤ (IntKind.i64.wrap (a3 + 1)) ∧ (IntKind.i64.wrap (a3 + 1)) < (a0.length : Int)) <|
    r05_text_j3_b T a0 a1 a2 a3 (decide ((byteAt a0 (IntKind.i64.wrap (a3 + 1))) = 39))
   ) else (
    r05_text_j3_b T a0 a1 a2 a3 false
   )
  ) else (
   chk (CapOk 1 a2 [(u8At a0 a3)]) <|
   r05_text_j4_b T a0 a1 (a2 ++ [(u8At a0 a3)]) a3
  )
 )
noncomputable def r05_text_l1_b (T : Tab_r05_text_j2) (a0 : Str) (a1 : Int) (a2 : List UInt8) (a3 : Int) : Option (Int × Str × Int × Int) :=
 if a3 < (a0.length : Int) then (
  chk (0 ≤ a3 ∧ a3 < (a0.length : Int)) <|
  if (byteAt a0 a3) < 32 then (
   r05_text_j2_b T a0 a1 a2 a3 (!(decide ((byteAt a0 a3) = 10)))
  ) else (
   r05_text_j2_b T a0 a1 a2 a3 false
  )
 ) else (
  some (0, [], a1, 10)
 )
noncomputable def tab_r05_text_j2 : Nat → Tab_r05_text_j2
 | 0 => ⟨0, fun _ _ _ _ => none⟩
 | k + 1 => ⟨k + 1, r05_text_l1_b (tab_r05_text_j2 k)⟩
noncomputable def r05_text_l1 (k : Nat) := (tab_r05_text_j2 k).r05_text_l1
noncomputable def r05_text (k : Nat) (a0 : Str) (a1 : Int) : Option (Int × Str × Int × Int) :=
 r05_text_l1 k a0 a1 [] (IntKind.i64.wrap (a1 + 1))
noncomputable def r05_one_j1 (k : Nat) (a0 : Str) (a1 a2 : Int) (a3 : Bool) : Option (Token × Int × Int × Int) :=
 if a3 = true then (
  chk (0 ≤ a1 ∧ a1 < (a0.length : Int)) <|
  (r05_letter (u8At a0 a1)).bind fun r1 =>
  r05_one_l2 k a0 a1 a2 r1
 ) else (
  chk (0 ≤ a1 ∧ a1 < (a0.length : Int)) <|
  if (byteAt a0 a1) = 39 then (
   (r05_text k a0 a1).bind fun (r1, r2, r3, r4) =>
   if r4 = 0 then (
    some ((Token.mk 3 r2 0 a1), r1, 0, 0)
   ) else (
    some ((Token.mk 0 [] 0 0), 0, r3, r4)
   )
  ) else (
   (r05_Marks).bind fun r1 =>
   r05_one_l5 k a0 a1 r1 0
  )
 )
noncomputable def r05_one (k : Nat) (a0 : Str) (a1 : Int) : Option (Token × Int × Int × Int) :=
 chk (0 ≤ a1 ∧ a1 < (a0.length : Int)) <|
 (r05_letter (u8At a0 a1)).bind fun r1 =>
 if r1 = true then (
  r05_one_j1 k a0 a1 a1 true
 ) else (
  (r05_digit (u8At a0 a1)).bind fun r2 =>
  r05_one_j1 k a0 a1 a1 r2
 )
noncomputable def r05_blank (a0 : UInt8) : Option Bool :=
 if (a0.toNat : Int) = 32 then (
  some true
 ) else (
  if (a0.toNat : Int) = 9 then (
   some true
  ) else (
   if (a0.toNat : Int) = 10 then (
    some true
   ) else (
    some (decide ((a0.toNat : Int) = 13))
   )
  )
 )
structure Tab_r05_Scan_j2 where
 k : Nat
 r05_Scan_l1 : Str → (List Token) → Int → Option ((List Token) × Int × Int)
 r05_Scan_l3 : Str → (List Token) → Int → Option ((List Token) × Int × Int)
noncomputable def r05_Scan_j2_b (T : Tab_r05_Scan_j2) (a0 : Str) (a1 : List Token) (a2 : Int) (a3 : Bool) : Option ((List Token) × Int × Int) :=
 if a3 = true then (
  T.r05_Scan_l3 a0 a1 a2
 ) else (
  (r05_one T.k a0 a2).bind fun (r1, r2, r3, r4) =>
  if r4 = 0 then (
   if 6000 ≤ (a1.length : Int) then (
    some ([], a2, 8)
   ) else (
    chk (CapOk 40 a1 [r1]) <|
    T.r05_Scan_l1 a0 (a1 ++ [r1]) r2
   )
  ) else (
   some ([], r3, r4)
  )
 )
noncomputable def r05_Scan_j4_b (T : Tab_r05_Scan_j2) (a0 : Str) (a1 : List Token) (a2 : Int) (a3 : Bool) : Option ((List Token) × Int × Int) :=
 if a3 = true then (
  T.r05_Scan_l3 a0 a1 (IntKind.i64.wrap (a2 + 1))
 ) else (
  T.r05_Scan_l1 a0 a1 a2
 )
noncomputable def r05_Scan_l1_b (T : Tab_r05_Scan_j2) (a0 : Str) (a1 : List Token) (a2 : Int) : Option ((List Token) × Int × Int) :=
 if a2 < (a0.length : Int) then (
  chk (0 ≤ a2 ∧ a2 < (a0.length : Int)) <|
  (r05_blank (u8At a0 a2)).bind fun r1 =>
  if r1 = true then (
   T.r05_Scan_l1 a0 a1 (IntKind.i64.wrap (a2 + 1))
  ) else (
   if (byteAt a0 a2) = 45 then (
    if (IntKind.i64.wrap (a2 + 1)) < (a0.length : Int) then (
     chk (0 ≤ (IntKind.i64.wrap (a2 + 1)) ∧ (IntKind.i64.wrap (a2 + 1)) < (a0.length : Int)) <|
     r05_Scan_j2_b T a0 a1 a2 (decide ((byteAt a0 (IntKind.i64.wrap (a2 + 1))) = 45))
    ) else (
     r05_Scan_j2_b T a0 a1 a2 false
    )
   ) else (
    r05_Scan_j2_b T a0 a1 a2 false
   )
  )
 ) else (
  if 6000 ≤ (a1.length : Int) then (
   some ([], (a0.length : Int), 8)
  ) else (
   chk (CapOk 40 a1 [(Token.mk 0 [] 0 (a0.length : Int))]) <|
   some ((a1 ++ [(Token.mk 0 [] 0 (a0.length : Int))]), 0, 0)
  )
 )
noncomputable def r05_Scan_l3_b (T : Tab_r05_Scan_j2) (a0 : Str) (a1 : List Token) (a2 : Int) : Option ((List Token) × Int × Int) :=
 if a2 < (a0.length : Int) then (
  chk (0 ≤ a2 ∧ a2 < (a0.length : Int)) <|
  r05_Scan_j4_b T a0 a1 a2 (!(decide ((byteAt a0 a2) = 10)))
 ) else (
  r05_Scan_j4_b T a0 a1 a2 false
 )
noncomputable def tab_r05_Scan_j2 : Nat → Tab_r05_Scan_j2
 | 0 => ⟨0, fun _ _ _ => none, fun _ _ _ => none⟩
 | k + 1 => ⟨k + 1, r05_Scan_l1_b (tab_r05_Scan_j2 k), r05_Scan_l3_b (tab_r05_Scan_j2 k)⟩
noncomputable def r05_Scan_l1 (k : Nat) := (tab_r05_Scan_j2 k).r05_Scan_l1
noncomputable def r05_Scan_l3 (k : Nat) := (tab_r05_Scan_j2 k).r05_Scan_l3
noncomputable def r05_Scan (k : Nat) (a0 : Str) : Option ((List Token) × Int × Int) :=
 if 20000 < (a0.length : Int) then (
  some ([], 0, 8)
 ) else (
  r05_Scan_l1 k a0 [] 0
 )
noncomputable def r06_New (k : Nat) (a0 : Str) (a1 : Int) : Option PT :=
 (r05_Scan k a0).bind fun (r1, r2, r3) =>
 some (PT.mk r1 0 a1 r2 r3)
noncomputable def r06_P_End_j1 (a0 : PT) : Option (PT × Int × Int) :=
 if a0.E = 0 then (
  some (a0, 0, 0)
 ) else (
  some (a0, a0.At, a0.E)
 )
noncomputable def r06_P_bad (a0 : PT) (a1 : Int) : Option PT :=
 if a0.E = 0 then (
  (idx a0.T a0.I).bind fun x1 =>
  some (PT.mk a0.T a0.I a0.Deep x1.At a1)
 ) else (
  some a0
 )
noncomputable def r06_P_End (a0 : PT) : Option (PT × Int × Int) :=
 if a0.E = 0 then (
  (idx a0.T a0.I).bind fun x1 =>
  if x1.Kind = 0 then (
   r06_P_End_j1 a0
  ) else (
   (r06_P_bad a0 10).bind fun r2 =>
   r06_P_End_j1 r2
  )
 ) else (
  r06_P_End_j1 a0
 )
noncomputable def r06_P_is (a0 : PT) (a1 : Str) : Option Bool :=
 if a0.E = 0 then (
  (idx a0.T a0.I).bind fun x1 =>
  if x1.Kind = 1 then (
   some (decide (x1.Text = a1))
  ) else (
   if x1.Kind = 4 then (
    some (decide (x1.Text = a1))
   ) else (
    some false
   )
  )
 ) else (
  some false
 )
noncomputable def r06_P_take (a0 : PT) (a1 : Str) : Option (PT × Bool) :=
 (r06_P_is a0 a1).bind fun r1 =>
 if r1 = true then (
  some ((PT.mk a0.T (IntKind.i64.wrap (a0.I + 1)) a0.Deep a0.At a0.E), true)
 ) else (
  some (a0, false)
 )
noncomputable def r06_P_must (a0 : PT) (a1 : Str) : Option PT :=
 (r06_P_take a0 a1).bind fun (r1, r2) =>
 if r2 = true then (
  some r1
 ) else (
  (r06_P_bad r1 10).bind fun r3 =>
  some r3
 )
structure Tab_r05_Word_l1 where
 k : Nat
 r05_Word_l1 : Str → (List Str) → Int → Option Bool
noncomputable def r05_Word_l1_b (T : Tab_r05_Word_l1) (a0 : Str) (a1 : List Str) (a2 : Int) : Option Bool :=
 if a2 < (a1.length : Int) then (
  (idx a1 a2).bind fun x1 =>
  if x1 = a0 then (
   some true
  ) else (
   T.r05_Word_l1 a0 a1 (IntKind.i64.wrap (a2 + 1))
  )
 ) else (
  some false
 )
noncomputable def tab_r05_Word_l1 : Nat → Tab_r05_Word_l1
 | 0 => ⟨0, fun _ _ _ => none⟩
 | k + 1 => ⟨k + 1, r05_Word_l1_b (tab_r05_Word_l1 k)⟩
noncomputable def r05_Word_l1 (k : Nat) := (tab_r05_Word_l1 k).r05_Word_l1
noncomputable def r05_Words : Option ((List Str)) :=
 some [s_all, s_and, s_as, s_begin, s_begins, s_between, s_by, s_call, s_case, s_catch, s_commit, s_delete, s_desc, s_distinct, s_else, s_end, s_except, s_exists, s_for, s_from, s_group, s_having, s_hide, s_if, s_in, s_input, s_insert, s_int, s_into, s_intersect, s_is, s_join, s_key, s_left, s_level, s_levels, s_limit, s_not, s_null, s_on, s_or, s_order, s_principal, s_print, s_proc, s_raise, s_rollback, s_rows, s_select, s_set, s_table, s_text, s_then, s_true, s_try, s_false, s_bool, s_union, s_update, s_values, s_var, s_visible, s_when, s_where, s_while, s_channel, s_skip]
noncomputable def r05_Word (k : Nat) (a0 : Str) : Option Bool :=
 (r05_Words).bind fun r1 =>
 r05_Word_l1 k a0 r1 0
noncomputable def r06_P_name (k : Nat) (a0 : PT) : Option (PT × Str) :=
 if a0.E = 0 then (
  (idx a0.T a0.I).bind fun x1 =>
  if x1.Kind = 1 then (
   (r05_Word k x1.Text).bind fun r2 =>
   if r2 = true then (
    (r06_P_bad a0 10).bind fun r3 =>
    some (r3, [])
   ) else (
    (idx a0.T (IntKind.i64.wrap ((IntKind.i64.wrap (a0.I + 1)) - 1))).bind fun x3 =>
    some ((PT.mk a0.T (IntKind.i64.wrap (a0.I + 1)) a0.Deep a0.At a0.E), x3.Text)
   )
  ) else (
   (r06_P_bad a0 10).bind fun r2 =>
   some (r2, [])
  )
 ) else (
  (r06_P_bad a0 10).bind fun r1 =>
  some (r1, [])
 )
noncomputable def r06_P_int (a0 : PT) : Option (PT × Int) :=
 if a0.E = 0 then (
  (idx a0.T a0.I).bind fun x1 =>
  if x1.Kind = 2 then (
   (idx a0.T (IntKind.i64.wrap ((IntKind.i64.wrap (a0.I + 1)) - 1))).bind fun x2 =>
   some ((PT.mk a0.T (IntKind.i64.wrap (a0.I + 1)) a0.Deep a0.At a0.E), x2.N)
  ) else (
   (r06_P_bad a0 10).bind fun r2 =>
   some (r2, 0)
  )
 ) else (
  (r06_P_bad a0 10).bind fun r1 =>
  some (r1, 0)
 )
noncomputable def r06_P_down (a0 : PT) : Option PT :=
 if a0.E = 0 then (
  if 40 < (IntKind.i64.wrap (a0.Deep + 1)) then (
   (r06_P_bad (PT.mk a0.T a0.I (IntKind.i64.wrap (a0.Deep + 1)) a0.At a0.E) 9).bind fun r1 =>
   some r1
  ) else (
   some (PT.mk a0.T a0.I (IntKind.i64.wrap (a0.Deep + 1)) a0.At a0.E)
  )
 ) else (
  some (PT.mk a0.T a0.I (IntKind.i64.wrap (a0.Deep + 1)) a0.At a0.E)
 )
noncomputable def r06_P_cmp_j1 (a0 : PT) (a1 : Expr) (a2 : Int) : Option (PT × Expr) :=
 (r06_P_must a0 s_null).bind fun r1 =>
 some (r1, (Expr.mk 9 a2 [] [] [a1] []))
structure Tab_r06_P_oneOf_l1 where
 k : Nat
 r06_P_oneOf_l1 : PT → (List Str) → Int → Option (PT × Str)
noncomputable def r06_P_oneOf_l1_b (T : Tab_r06_P_oneOf_l1) (a0 : PT) (a1 : List Str) (a2 : Int) : Option (PT × Str) :=
 if a2 < (a1.length : Int) then (
  (idx a1 a2).bind fun x1 =>
  (r06_P_take a0 x1).bind fun (r2, r3) =>
  if r3 = true then (
   some (r2, x1)
  ) else (
   T.r06_P_oneOf_l1 r2 a1 (IntKind.i64.wrap (a2 + 1))
  )
 ) else (
  some (a0, [])
 )
noncomputable def tab_r06_P_oneOf_l1 : Nat → Tab_r06_P_oneOf_l1
 | 0 => ⟨0, fun _ _ _ => none⟩
 | k + 1 => ⟨k + 1, r06_P_oneOf_l1_b (tab_r06_P_oneOf_l1 k)⟩
noncomputable def r06_P_oneOf_l1 (k : Nat) := (tab_r06_P_oneOf_l1 k).r06_P_oneOf_l1
noncomputable def r06_P_oneOf (k : Nat) (a0 : PT) (a1 : List Str) : Option (PT × Str) :=
 r06_P_oneOf_l1 k a0 a1 0
noncomputable def r06_P_prim_j1 (a0 : PT) (a1 : Expr) : Option (PT × Expr) :=
 (r06_P_must a0 s_x29).bind fun r1 =>
 some (r1, a1)
noncomputable def r06_bin (a0 : Str) (a1 a2 : Expr) : Option Expr :=
 some (Expr.mk 10 0 a0 [] [a1, a2] [])
structure Tab_r06_P_Expr where
 k : Nat
 r06_P_Expr : PT → Option (PT × Expr)
 r06_P_Expr_l1 : PT → Expr → Option (PT × Expr)
 r06_P_Query : PT → Option (PT × Query)
 r06_P_Query_l1 : PT → Query → Option (PT × Query)
 r06_P_and : PT → Option (PT × Expr)
 r06_P_and_l1 : PT → Expr → Option (PT × Expr)
 r06_P_cmp : PT → Option (PT × Expr)
 r06_P_exprs : PT → Option (PT × (List Expr))
 r06_P_exprs_l1 : PT → (List Expr) → Option (PT × (List Expr))
 r06_P_not : PT → Option (PT × Expr)
 r06_P_one : PT → Option (PT × From)
 r06_P_part : PT → Option (PT × Query)
 r06_P_part_l1 : PT → Bool → (List ItemT) → Bool → Option (PT × Query)
 r06_P_part_l5 : PT → Bool → (List ItemT) → (List From) → (List Expr) → (List Expr) → (List Expr) → (List Key) → Bool → Option (PT × Query)
 r06_P_prim : PT → Option (PT × Expr)
 r06_P_prod : PT → Option (PT × Expr)
 r06_P_prod_l1 : PT → Expr → Str → Option (PT × Expr)
 r06_P_src : PT → Option (PT × From)
 r06_P_src_l1 : PT → From → Option (PT × From)
 r06_P_sum : PT → Option (PT × Expr)
 r06_P_sum_l1 : PT → Expr → Str → Option (PT × Expr)
 r06_P_unary : PT → Option (PT × Expr)
noncomputable def r06_P_Expr_b (T : Tab_r06_P_Expr) (a0 : PT) : Option (PT × Expr) :=
 (r06_P_down a0).bind fun r1 =>
 (T.r06_P_and r1).bind fun (r2, r3) =>
 T.r06_P_Expr_l1 r2 r3
noncomputable def r06_P_Expr_l1_b (T : Tab_r06_P_Expr) (a0 : PT) (a1 : Expr) : Option (PT × Expr) :=
 (r06_P_take a0 s_or).bind fun (r1, r2) =>
 if r2 = true then (
  (T.r06_P_and r1).bind fun (r3, r4) =>
  (r06_bin s_or a1 r4).bind fun r5 =>
  T.r06_P_Expr_l1 r3 r5
 ) else (
  some ((PT.mk r1.T r1.I (IntKind.i64.wrap (r1.Deep - 1)) r1.At r1.E), a1)
 )
noncomputable def r06_P_Query_b (T : Tab_r06_P_Expr) (a0 : PT) : Option (PT × Query) :=
 (r06_P_down a0).bind fun r1 =>
 if r1.E = 0 then (
  (T.r06_P_part r1).bind fun (r2, r3) =>
  T.r06_P_Query_l1 r2 r3
 ) else (
  some ((PT.mk r1.T r1.I (IntKind.i64.wrap (r1.Deep - 1)) r1.At r1.E), (Query.mk 0 false [] [] [] [] [] [] 0 []))
 )
noncomputable def r06_P_Query_j3_b (T : Tab_r06_P_Expr) (a0 : PT) (a1 : Query) (a2 : Int) : Option (PT × Query) :=
 (T.r06_P_part a0).bind fun (r1, r2) =>
 T.r06_P_Query_l1 r1 (Query.mk a2 false [] [] [] [] [] [] (-1) [a1, r2])
noncomputable def r06_P_Query_j2_b (T : Tab_r06_P_Expr) (a0 : PT) (a1 : Query) (a2 : Bool) : Option (PT × Query) :=
 if a2 = true then (
  (r06_P_take a0 s_union).bind fun (r1, r2) =>
  if r2 = true then (
   (r06_P_take r1 s_all).bind fun (r3, r4) =>
   if r4 = true then (
    r06_P_Query_j3_b T r3 a1 3
   ) else (
    r06_P_Query_j3_b T r3 a1 2
   )
  ) else (
   (r06_P_take r1 s_except).bind fun (r3, r4) =>
   if r4 = true then (
    r06_P_Query_j3_b T r3 a1 4
   ) else (
    (r06_P_must r3 s_intersect).bind fun r5 =>
    r06_P_Query_j3_b T r5 a1 5
   )
  )
 ) else (
  some ((PT.mk a0.T a0.I (IntKind.i64.wrap (a0.Deep - 1)) a0.At a0.E), a1)
 )
noncomputable def r06_P_Query_l1_b (T : Tab_r06_P_Expr) (a0 : PT) (a1 : Query) : Option (PT × Query) :=
 if a0.E = 0 then (
  (r06_P_is a0 s_union).bind fun r1 =>
  if r1 = true then (
   r06_P_Query_j2_b T a0 a1 true
  ) else (
   (r06_P_is a0 s_except).bind fun r2 =>
   if r2 = true then (
    r06_P_Query_j2_b T a0 a1 true
   ) else (
    (r06_P_is a0 s_intersect).bind fun r3 =>
    r06_P_Query_j2_b T a0 a1 r3
   )
  )
 ) else (
  r06_P_Query_j2_b T a0 a1 false
 )
noncomputable def r06_P_and_b (T : Tab_r06_P_Expr) (a0 : PT) : Option (PT × Expr) :=
 (T.r06_P_not a0).bind fun (r1, r2) =>
 T.r06_P_and_l1 r1 r2
noncomputable def r06_P_and_l1_b (T : Tab_r06_P_Expr) (a0 : PT) (a1 : Expr) : Option (PT × Expr) :=
 (r06_P_take a0 s_and).bind fun (r1, r2) =>
 if r2 = true then (
  (T.r06_P_not r1).bind fun (r3, r4) =>
  (r06_bin s_and a1 r4).bind fun r5 =>
  T.r06_P_and_l1 r3 r5
 ) else (
  some (r1, a1)
 )
noncomputable def r06_P_cmp_b (T : Tab_r06_P_Expr) (a0 : PT) : Option (PT × Expr) :=
 (T.r06_P_sum a0).bind fun (r1, r2) =>
 (r06_P_oneOf T.k r1 [s_x3d, s_x3cx3e, s_x3cx3d, s_x3ex3d, s_x3c, s_x3e]).bind fun (r3, r4) =>
 if r4 = [] then (
  (r06_P_take r3 s_is).bind fun (r5, r6) =>
  if r6 = true then (
   (r06_P_take r5 s_not).bind fun (r7, r8) =>
   if r8 = true then (
    r06_P_cmp_j1 r7 r2 1
   ) else (
    r06_P_cmp_j1 r7 r2 0
   )
  ) else (
   (r06_P_is r5 s_not).bind fun r7 =>
   if r7 = true then (
    (r06_P_take r5 s_not).bind fun (r8, r9) =>
    if r9 = true then (
     (r06_P_must r8 s_in).bind fun r10 =>
     (r06_P_must r10 s_x28).bind fun r11 =>
     (T.r06_P_Query r11).bind fun (r12, r13) =>
     (r06_P_must r12 s_x29).bind fun r14 =>
     some (r14, (Expr.mk 13 1 [] [] [r2] [r13]))
    ) else (
     (r06_P_must r8 s_in).bind fun r10 =>
     (r06_P_must r10 s_x28).bind fun r11 =>
     (T.r06_P_Query r11).bind fun (r12, r13) =>
     (r06_P_must r12 s_x29).bind fun r14 =>
     some (r14, (Expr.mk 13 0 [] [] [r2] [r13]))
    )
   ) else (
    (r06_P_is r5 s_in).bind fun r8 =>
    if r8 = true then (
     (r06_P_take r5 s_not).bind fun (r9, r10) =>
     if r10 = true then (
      (r06_P_must r9 s_in).bind fun r11 =>
      (r06_P_must r11 s_x28).bind fun r12 =>
      (T.r06_P_Query r12).bind fun (r13, r14) =>
      (r06_P_must r13 s_x29).bind fun r15 =>
      some (r15, (Expr.mk 13 1 [] [] [r2] [r14]))
     ) else (
      (r06_P_must r9 s_in).bind fun r11 =>
      (r06_P_must r11 s_x28).bind fun r12 =>
      (T.r06_P_Query r12).bind fun (r13, r14) =>
      (r06_P_must r13 s_x29).bind fun r15 =>
      some (r15, (Expr.mk 13 0 [] [] [r2] [r14]))
     )
    ) else (
     some (r5, r2)
    )
   )
  )
 ) else (
  (T.r06_P_sum r3).bind fun (r5, r6) =>
  (r06_bin r4 r2 r6).bind fun r7 =>
  some (r5, r7)
 )
noncomputable def r06_P_exprs_b (T : Tab_r06_P_Expr) (a0 : PT) : Option (PT × (List Expr)) :=
 (T.r06_P_Expr a0).bind fun (r1, r2) =>
 T.r06_P_exprs_l1 r1 [r2]
noncomputable def r06_P_exprs_l1_b (T : Tab_r06_P_Expr) (a0 : PT) (a1 : List Expr) : Option (PT × (List Expr)) :=
 (r06_P_take a0 s_x2c).bind fun (r1, r2) =>
 if r2 = true then (
  (T.r06_P_Expr r1).bind fun (r3, r4) =>
  chk (CapOk 96 a1 [r4]) <|
  T.r06_P_exprs_l1 r3 (a1 ++ [r4])
 ) else (
  some (r1, a1)
 )
noncomputable def r06_P_not_b (T : Tab_r06_P_Expr) (a0 : PT) : Option (PT × Expr) :=
 if a0.E = 0 then (
  (r06_P_take a0 s_not).bind fun (r1, r2) =>
  if r2 = true then (
   (r06_P_down r1).bind fun r3 =>
   (T.r06_P_not r3).bind fun (r4, r5) =>
   some ((PT.mk r4.T r4.I (IntKind.i64.wrap (r4.Deep - 1)) r4.At r4.E), (Expr.mk 8 0 [] [] [r5] []))
  ) else (
   (T.r06_P_cmp r1).bind fun (r3, r4) =>
   some (r3, r4)
  )
 ) else (
  some (a0, (Expr.mk 0 0 [] [] [] []))
 )
noncomputable def r06_P_one_b (T : Tab_r06_P_Expr) (a0 : PT) : Option (PT × From) :=
 (r06_P_take a0 s_x28).bind fun (r1, r2) =>
 if r2 = true then (
  (T.r06_P_Query r1).bind fun (r3, r4) =>
  (r06_P_must r3 s_x29).bind fun r5 =>
  (r06_P_must r5 s_as).bind fun r6 =>
  (r06_P_name T.k r6).bind fun (r7, r8) =>
  some (r7, (From.mk 2 [] false r8 [r4] [] []))
 ) else (
  (r06_P_name T.k r1).bind fun (r3, r4) =>
  (r06_P_take r3 s_visible).bind fun (r5, r6) =>
  (r06_P_take r5 s_as).bind fun (r7, r8) =>
  if r8 = true then (
   (r06_P_name T.k r7).bind fun (r9, r10) =>
   some (r9, (From.mk 1 r4 r6 r10 [] [] []))
  ) else (
   some (r7, (From.mk 1 r4 r6 r4 [] [] []))
  )
 )
noncomputable def r06_P_part_b (T : Tab_r06_P_Expr) (a0 : PT) : Option (PT × Query) :=
 (r06_P_take a0 s_x28).bind fun (r1, r2) =>
 if r2 = true then (
  (T.r06_P_Query r1).bind fun (r3, r4) =>
  (r06_P_must r3 s_x29).bind fun r5 =>
  some (r5, r4)
 ) else (
  (r06_P_must r1 s_select).bind fun r3 =>
  (r06_P_take r3 s_distinct).bind fun (r4, r5) =>
  T.r06_P_part_l1 r4 r5 [] true
 )
noncomputable def r06_P_part_j4_b (T : Tab_r06_P_Expr) (a0 : PT) (a1 : Bool) (a2 : List ItemT) (a3 : List From) (a4 a5 a6 : List Expr) : Option (PT × Query) :=
 (r06_P_take a0 s_order).bind fun (r1, r2) =>
 if r2 = true then (
  (r06_P_must r1 s_by).bind fun r3 =>
  T.r06_P_part_l5 r3 a1 a2 a3 a4 a5 a6 [] true
 ) else (
  (r06_P_take r1 s_limit).bind fun (r3, r4) =>
  if r4 = true then (
   (r06_P_int r3).bind fun (r5, r6) =>
   some (r5, (Query.mk 1 a1 a2 a3 a4 a5 a6 [] r6 []))
  ) else (
   some (r3, (Query.mk 1 a1 a2 a3 a4 a5 a6 [] (-1) []))
  )
 )
noncomputable def r06_P_part_j3_b (T : Tab_r06_P_Expr) (a0 : PT) (a1 : Bool) (a2 : List ItemT) (a3 : List From) (a4 : List Expr) : Option (PT × Query) :=
 (r06_P_take a0 s_group).bind fun (r1, r2) =>
 if r2 = true then (
  (r06_P_must r1 s_by).bind fun r3 =>
  (T.r06_P_exprs r3).bind fun (r4, r5) =>
  (r06_P_take r4 s_having).bind fun (r6, r7) =>
  if r7 = true then (
   (T.r06_P_Expr r6).bind fun (r8, r9) =>
   r06_P_part_j4_b T r8 a1 a2 a3 a4 r5 [r9]
  ) else (
   r06_P_part_j4_b T r6 a1 a2 a3 a4 r5 []
  )
 ) else (
  r06_P_part_j4_b T r1 a1 a2 a3 a4 [] []
 )
noncomputable def r06_P_part_j2_b (T : Tab_r06_P_Expr) (a0 : PT) (a1 : Bool) (a2 : List ItemT) (a3 : List From) : Option (PT × Query) :=
 (r06_P_take a0 s_where).bind fun (r1, r2) =>
 if r2 = true then (
  (T.r06_P_Expr r1).bind fun (r3, r4) =>
  r06_P_part_j3_b T r3 a1 a2 a3 [r4]
 ) else (
  r06_P_part_j3_b T r1 a1 a2 a3 []
 )
noncomputable def r06_P_part_l1_b (T : Tab_r06_P_Expr) (a0 : PT) (a1 : Bool) (a2 : List ItemT) (a3 : Bool) : Option (PT × Query) :=
 if a3 = true then (
  (T.r06_P_Expr a0).bind fun (r1, r2) =>
  (r06_P_must r1 s_as).bind fun r3 =>
  (r06_P_name T.k r3).bind fun (r4, r5) =>
  chk (CapOk 112 a2 [(ItemT.mk r2 r5)]) <|
  (r06_P_take r4 s_x2c).bind fun (r6, r7) =>
  T.r06_P_part_l1 r6 a1 (a2 ++ [(ItemT.mk r2 r5)]) r7
 ) else (
  (r06_P_take a0 s_from).bind fun (r1, r2) =>
  if r2 = true then (
   (T.r06_P_src r1).bind fun (r3, r4) =>
   r06_P_part_j2_b T r3 a1 a2 [r4]
  ) else (
   r06_P_part_j2_b T r1 a1 a2 []
  )
 )
noncomputable def r06_P_part_l5_b (T : Tab_r06_P_Expr) (a0 : PT) (a1 : Bool) (a2 : List ItemT) (a3 : List From) (a4 a5 a6 : List Expr) (a7 : List Key) (a8 : Bool) : Option (PT × Query) :=
 if a8 = true then (
  (T.r06_P_Expr a0).bind fun (r1, r2) =>
  (r06_P_take r1 s_desc).bind fun (r3, r4) =>
  chk (CapOk 104 a7 [(Key.mk r2 r4)]) <|
  (r06_P_take r3 s_x2c).bind fun (r5, r6) =>
  T.r06_P_part_l5 r5 a1 a2 a3 a4 a5 a6 (a7 ++ [(Key.mk r2 r4)]) r6
 ) else (
  (r06_P_take a0 s_limit).bind fun (r1, r2) =>
  if r2 = true then (
   (r06_P_int r1).bind fun (r3, r4) =>
   some (r3, (Query.mk 1 a1 a2 a3 a4 a5 a6 a7 r4 []))
  ) else (
   some (r1, (Query.mk 1 a1 a2 a3 a4 a5 a6 a7 (-1) []))
  )
 )
noncomputable def r06_P_prim_j2_b (T : Tab_r06_P_Expr) (a0 : PT) (a1 : Str) (a2 : Bool) : Option (PT × Expr) :=
 if a2 = true then (
  if a1 = s_count then (
   (r06_P_take a0 s_x2a).bind fun (r1, r2) =>
   if r2 = true then (
    (r06_P_must r1 s_x29).bind fun r3 =>
    some (r3, (Expr.mk 15 0 a1 [] [] []))
   ) else (
    (T.r06_P_Expr r1).bind fun (r3, r4) =>
    (r06_P_must r3 s_x29).bind fun r5 =>
    some (r5, (Expr.mk 15 0 a1 [] [r4] []))
   )
  ) else (
   (T.r06_P_Expr a0).bind fun (r1, r2) =>
   (r06_P_must r1 s_x29).bind fun r3 =>
   some (r3, (Expr.mk 15 0 a1 [] [r2] []))
  )
 ) else (
  (r06_P_take a0 s_x2e).bind fun (r1, r2) =>
  if r2 = true then (
   (r06_P_name T.k r1).bind fun (r3, r4) =>
   some (r3, (Expr.mk 5 0 r4 a1 [] []))
  ) else (
   some (r1, (Expr.mk 5 0 a1 [] [] []))
  )
 )
noncomputable def r06_P_prim_b (T : Tab_r06_P_Expr) (a0 : PT) : Option (PT × Expr) :=
 if a0.E = 0 then (
  (idx a0.T a0.I).bind fun x1 =>
  if x1.Kind = 2 then (
   some ((PT.mk a0.T (IntKind.i64.wrap (a0.I + 1)) a0.Deep a0.At a0.E), (Expr.mk 3 x1.N [] [] [] []))
  ) else (
   if x1.Kind = 3 then (
    some ((PT.mk a0.T (IntKind.i64.wrap (a0.I + 1)) a0.Deep a0.At a0.E), (Expr.mk 4 0 x1.Text [] [] []))
   ) else (
    (r06_P_take a0 s_null).bind fun (r2, r3) =>
    if r3 = true then (
     some (r2, (Expr.mk 1 0 [] [] [] []))
    ) else (
     (r06_P_take r2 s_true).bind fun (r4, r5) =>
     if r5 = true then (
      some (r4, (Expr.mk 2 1 [] [] [] []))
     ) else (
      (r06_P_take r4 s_false).bind fun (r6, r7) =>
      if r7 = true then (
       some (r6, (Expr.mk 2 0 [] [] [] []))
      ) else (
       (r06_P_take r6 s_x3a).bind fun (r8, r9) =>
       if r9 = true then (
        (r06_P_name T.k r8).bind fun (r10, r11) =>
        some (r10, (Expr.mk 6 0 r11 [] [] []))
       ) else (
        (r06_P_take r8 s_case).bind fun (r10, r11) =>
        if r11 = true then (
         (r06_P_must r10 s_when).bind fun r12 =>
         (T.r06_P_Expr r12).bind fun (r13, r14) =>
         (r06_P_must r13 s_then).bind fun r15 =>
         (T.r06_P_Expr r15).bind fun (r16, r17) =>
         (r06_P_must r16 s_else).bind fun r18 =>
         (T.r06_P_Expr r18).bind fun (r19, r20) =>
         (r06_P_must r19 s_end).bind fun r21 =>
         some (r21, (Expr.mk 11 0 [] [] [r14, r17, r20] []))
        ) else (
         (r06_P_take r10 s_exists).bind fun (r12, r13) =>
         if r13 = true then (
          (r06_P_must r12 s_x28).bind fun r14 =>
          (T.r06_P_Query r14).bind fun (r15, r16) =>
          (r06_P_must r15 s_x29).bind fun r17 =>
          some (r17, (Expr.mk 12 0 [] [] [] [r16]))
         ) else (
          (r06_P_take r12 s_x28).bind fun (r14, r15) =>
          if r15 = true then (
           (r06_P_is r14 s_select).bind fun r16 =>
           if r16 = true then (
            (T.r06_P_Query r14).bind fun (r17, r18) =>
            r06_P_prim_j1 r17 (Expr.mk 14 0 [] [] [] [r18])
           ) else (
            (T.r06_P_Expr r14).bind fun (r17, r18) =>
            r06_P_prim_j1 r17 r18
           )
          ) else (
           (r06_P_name T.k r14).bind fun (r16, r17) =>
           if r17 = s_count then (
            (r06_P_take r16 s_x28).bind fun (r18, r19) =>
            r06_P_prim_j2_b T r18 r17 r19
           ) else (
            if r17 = s_sum then (
            (r06_P_take r16 s_x28).bind fun (r18, r19) =>
            r06_P_prim_j2_b T r18 r17 r19
            ) else (
            if r17 = s_min then (
            (r06_P_take r16 s_x28).bind fun (r18, r19) =>
            r06_P_prim_j2_b T r18 r17 r19
            ) else (
            if r17 = s_max then (
            (r06_P_take r16 s_x28).bind fun (r18, r19) =>
            r06_P_prim_j2_b T r18 r17 r19
            ) else (
            r06_P_prim_j2_b T r16 r17 false
            )
            )
            )
           )
          )
         )
        )
       )
      )
     )
    )
   )
  )
 ) else (
  some (a0, (Expr.mk 0 0 [] [] [] []))
 )
noncomputable def r06_P_prod_b (T : Tab_r06_P_Expr) (a0 : PT) : Option (PT × Expr) :=
 (T.r06_P_unary a0).bind fun (r1, r2) =>
 (r06_P_oneOf T.k r1 [s_x2a, s_x2f, s_x25]).bind fun (r3, r4) =>
 T.r06_P_prod_l1 r3 r2 r4
noncomputable def r06_P_prod_l1_b (T : Tab_r06_P_Expr) (a0 : PT) (a1 : Expr) (a2 : Str) : Option (PT × Expr) :=
 if a2 = [] then (
  some (a0, a1)
 ) else (
  (T.r06_P_unary a0).bind fun (r1, r2) =>
  (r06_bin a2 a1 r2).bind fun r3 =>
  (r06_P_oneOf T.k r1 [s_x2a, s_x2f, s_x25]).bind fun (r4, r5) =>
  T.r06_P_prod_l1 r4 r3 r5
 )
noncomputable def r06_P_src_b (T : Tab_r06_P_Expr) (a0 : PT) : Option (PT × From) :=
 (T.r06_P_one a0).bind fun (r1, r2) =>
 T.r06_P_src_l1 r1 r2
noncomputable def r06_P_src_j3_b (T : Tab_r06_P_Expr) (a0 : PT) (a1 : From) (a2 : Int) : Option (PT × From) :=
 (r06_P_must a0 s_join).bind fun r1 =>
 (T.r06_P_one r1).bind fun (r2, r3) =>
 (r06_P_must r2 s_on).bind fun r4 =>
 (T.r06_P_Expr r4).bind fun (r5, r6) =>
 T.r06_P_src_l1 r5 (From.mk a2 [] false [] [] [a1, r3] [r6])
noncomputable def r06_P_src_j2_b (T : Tab_r06_P_Expr) (a0 : PT) (a1 : From) (a2 : Bool) : Option (PT × From) :=
 if a2 = true then (
  (r06_P_take a0 s_left).bind fun (r1, r2) =>
  if r2 = true then (
   r06_P_src_j3_b T r1 a1 4
  ) else (
   r06_P_src_j3_b T r1 a1 3
  )
 ) else (
  some (a0, a1)
 )
noncomputable def r06_P_src_l1_b (T : Tab_r06_P_Expr) (a0 : PT) (a1 : From) : Option (PT × From) :=
 if a0.E = 0 then (
  (r06_P_is a0 s_left).bind fun r1 =>
  if r1 = true then (
   r06_P_src_j2_b T a0 a1 true
  ) else (
   (r06_P_is a0 s_join).bind fun r2 =>
   r06_P_src_j2_b T a0 a1 r2
  )
 ) else (
  r06_P_src_j2_b T a0 a1 false
 )
noncomputable def r06_P_sum_b (T : Tab_r06_P_Expr) (a0 : PT) : Option (PT × Expr) :=
 (T.r06_P_prod a0).bind fun (r1, r2) =>
 (r06_P_oneOf T.k r1 [s_x2b, s_x2d, s_x7cx7c]).bind fun (r3, r4) =>
 T.r06_P_sum_l1 r3 r2 r4
noncomputable def r06_P_sum_l1_b (T : Tab_r06_P_Expr) (a0 : PT) (a1 : Expr) (a2 : Str) : Option (PT × Expr) :=
 if a2 = [] then (
  some (a0, a1)
 ) else (
  (T.r06_P_prod a0).bind fun (r1, r2) =>
  (r06_bin a2 a1 r2).bind fun r3 =>
  (r06_P_oneOf T.k r1 [s_x2b, s_x2d, s_x7cx7c]).bind fun (r4, r5) =>
  T.r06_P_sum_l1 r4 r3 r5
 )
noncomputable def r06_P_unary_b (T : Tab_r06_P_Expr) (a0 : PT) : Option (PT × Expr) :=
 (r06_P_take a0 s_x2d).bind fun (r1, r2) =>
 if r2 = true then (
  (r06_P_down r1).bind fun r3 =>
  if r3.E = 0 then (
   (T.r06_P_unary r3).bind fun (r4, r5) =>
   some ((PT.mk r4.T r4.I (IntKind.i64.wrap (r4.Deep - 1)) r4.At r4.E), (Expr.mk 7 0 [] [] [r5] []))
  ) else (
   some ((PT.mk r3.T r3.I (IntKind.i64.wrap (r3.Deep - 1)) r3.At r3.E), (Expr.mk 0 0 [] [] [] []))
  )
 ) else (
  (T.r06_P_prim r1).bind fun (r3, r4) =>
  some (r3, r4)
 )
noncomputable def tab_r06_P_Expr : Nat → Tab_r06_P_Expr
 | 0 => ⟨0, fun _ => none, fun _ _ => none, fun _ => none, fun _ _ => none, fun _ => none, fun _ _ => none, fun _ => none, fun _ => none, fun _ _ => none, fun _ => none, fun _ => none, fun _ => none, fun _ _ _ _ => none, fun _ _ _ _ _ _ _ _ _ => none, fun _ => none, fun _ => none, fun _ _ _ => none, fun _ => none, fun _ _ => none, fun _ => none, fun _ _ _ => none, fun _ => none⟩
 | k + 1 => ⟨k + 1, r06_P_Expr_b (tab_r06_P_Expr k), r06_P_Expr_l1_b (tab_r06_P_Expr k), r06_P_Query_b (tab_r06_P_Expr k), r06_P_Query_l1_b (tab_r06_P_Expr k), r06_P_and_b (tab_r06_P_Expr k), r06_P_and_l1_b (tab_r06_P_Expr k), r06_P_cmp_b (tab_r06_P_Expr k), r06_P_exprs_b (tab_r06_P_Expr k), r06_P_exprs_l1_b (tab_r06_P_Expr k), r06_P_not_b (tab_r06_P_Expr k), r06_P_one_b (tab_r06_P_Expr k), r06_P_part_b (tab_r06_P_Expr k), r06_P_part_l1_b (tab_r06_P_Expr k), r06_P_part_l5_b (tab_r06_P_Expr k), r06_P_prim_b (tab_r06_P_Expr k), r06_P_prod_b (tab_r06_P_Expr k), r06_P_prod_l1_b (tab_r06_P_Expr k), r06_P_src_b (tab_r06_P_Expr k), r06_P_src_l1_b (tab_r06_P_Expr k), r06_P_sum_b (tab_r06_P_Expr k), r06_P_sum_l1_b (tab_r06_P_Expr k), r06_P_unary_b (tab_r06_P_Expr k)⟩
noncomputable def r06_P_Expr (k : Nat) := (tab_r06_P_Expr k).r06_P_Expr
noncomputable def r06_P_Expr_l1 (k : Nat) := (tab_r06_P_Expr k).r06_P_Expr_l1
noncomputable def r06_P_Query (k : Nat) := (tab_r06_P_Expr k).r06_P_Query
noncomputable def r06_P_Query_l1 (k : Nat) := (tab_r06_P_Expr k).r06_P_Query_l1
noncomputable def r06_P_and (k : Nat) := (tab_r06_P_Expr k).r06_P_and
noncomputable def r06_P_and_l1 (k : Nat) := (tab_r06_P_Expr k).r06_P_and_l1
noncomputable def r06_P_cmp (k : Nat) := (tab_r06_P_Expr k).r06_P_cmp
noncomputable def r06_P_exprs (k : Nat) := (tab_r06_P_Expr k).r06_P_exprs
noncomputable def r06_P_exprs_l1 (k : Nat) := (tab_r06_P_Expr k).r06_P_exprs_l1
noncomputable def r06_P_not (k : Nat) := (tab_r06_P_Expr k).r06_P_not
noncomputable def r06_P_one (k : Nat) := (tab_r06_P_Expr k).r06_P_one
noncomputable def r06_P_part (k : Nat) := (tab_r06_P_Expr k).r06_P_part
noncomputable def r06_P_part_l1 (k : Nat) := (tab_r06_P_Expr k).r06_P_part_l1
noncomputable def r06_P_part_l5 (k : Nat) := (tab_r06_P_Expr k).r06_P_part_l5
noncomputable def r06_P_prim (k : Nat) := (tab_r06_P_Expr k).r06_P_prim
noncomputable def r06_P_prod (k : Nat) := (tab_r06_P_Expr k).r06_P_prod
noncomputable def r06_P_prod_l1 (k : Nat) := (tab_r06_P_Expr k).r06_P_prod_l1
noncomputable def r06_P_src (k : Nat) := (tab_r06_P_Expr k).r06_P_src
noncomputable def r06_P_src_l1 (k : Nat) := (tab_r06_P_Expr k).r06_P_src_l1
noncomputable def r06_P_sum (k : Nat) := (tab_r06_P_Expr k).r06_P_sum
noncomputable def r06_P_sum_l1 (k : Nat) := (tab_r06_P_Expr k).r06_P_sum_l1
noncomputable def r06_P_unary (k : Nat) := (tab_r06_P_Expr k).r06_P_unary
noncomputable def r06_Expr (k : Nat) (a0 : Str) : Option (Expr × Int × Int) :=
 (r06_New k a0 0).bind fun r1 =>
 if r1.E = 0 then (
  (r06_P_Expr k r1).bind fun (r2, r3) =>
  (r06_P_End r2).bind fun (r4, r5, r6) =>
  if r6 = 0 then (
   some (r3, r5, r6)
  ) else (
   some ((Expr.mk 0 0 [] [] [] []), r5, r6)
  )
 ) else (
  some ((Expr.mk 0 0 [] [] [] []), r1.At, r1.E)
 )
noncomputable def r06_Query (k : Nat) (a0 : Str) : Option (Query × Int × Int) :=
 (r06_New k a0 0).bind fun r1 =>
 if r1.E = 0 then (
  (r06_P_Query k r1).bind fun (r2, r3) =>
  (r06_P_End r2).bind fun (r4, r5, r6) =>
  if r6 = 0 then (
   some (r3, r5, r6)
  ) else (
   some ((Query.mk 0 false [] [] [] [] [] [] 0 []), r5, r6)
  )
 ) else (
  some ((Query.mk 0 false [] [] [] [] [] [] 0 []), r1.At, r1.E)
 )
end Go.Syn
