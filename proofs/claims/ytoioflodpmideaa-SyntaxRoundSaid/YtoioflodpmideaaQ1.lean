/- Once something is wrong in a parser, it stays so. (Printed by a program of this work.) -/
import Derived.Test.YtoioflodpmideaaP17
namespace Go.Syn
open Go.Abs
set_option linter.unusedVariables false

/-- The answer's state has seen e. -/
def Kp {α : Type} (e : Int) (m : Option (Parser × α)) : Prop := ∀ r, m = some r → r.1.e = e
def Kq (e : Int) (m : Option Parser) : Prop := ∀ r, m = some r → r.e = e

variable {e : Int} {α β : Type} {p : Parser}

theorem Kp.done {x : α} (h : p.e = e) : Kp e (some (p, x)) := fun r hr => by obtain rfl := Option.some.inj hr; exact h
theorem Kq.done (h : p.e = e) : Kq e (some p) := fun r hr => by obtain rfl := Option.some.inj hr; exact h
theorem Kp.ite {c : Prop} [Decidable c] {a b : Option (Parser × α)} (h1 : Kp e a) (h2 : Kp e b) : Kp e (if c then a else b) := by split <;> assumption
theorem Kq.ite {c : Prop} [Decidable c] {a b : Option Parser} (h1 : Kq e a) (h2 : Kq e b) : Kq e (if c then a else b) := by split <;> assumption
theorem Kp.chk {c : Prop} [Decidable c] {a : Option (Parser × α)} (h : Kp e a) : Kp e (Go.Abs.chk c a) := by
  unfold Go.Abs.chk
  split
  · exact h
  · intro r hr; cases hr
theorem Kp.bind {m : Option (Parser × β)} {c : Parser × β → Option (Parser × α)} (h1 : Kp e m) (h2 : ∀ p x, p.e = e → Kp e (c (p, x))) : Kp e (m.bind c) := by
  intro r hr
  cases hm : m with
  | none => rw [hm] at hr; cases hr
  | some a => rw [hm] at hr; exact h2 a.1 a.2 (h1 a hm) r hr
theorem Kp.bindq {m : Option Parser} {c : Parser → Option (Parser × α)} (h1 : Kq e m) (h2 : ∀ p, p.e = e → Kp e (c p)) : Kp e (m.bind c) := by
  intro r hr
  cases hm : m with
  | none => rw [hm] at hr; cases hr
  | some a => rw [hm] at hr; exact h2 a (h1 a hm) r hr
theorem Kp.bind0 {m : Option β} {c : β → Option (Parser × α)} (h2 : ∀ x, Kp e (c x)) : Kp e (m.bind c) := by
  intro r hr
  cases hm : m with
  | none => rw [hm] at hr; cases hr
  | some a => rw [hm] at hr; exact h2 a r hr
theorem Kq.bind {m : Option (Parser × β)} {c : Parser × β → Option Parser} (h1 : Kp e m) (h2 : ∀ p x, p.e = e → Kq e (c (p, x))) : Kq e (m.bind c) := by
  intro r hr
  cases hm : m with
  | none => rw [hm] at hr; cases hr
  | some a => rw [hm] at hr; exact h2 a.1 a.2 (h1 a hm) r hr
theorem Kq.bindq {m : Option Parser} {c : Parser → Option Parser} (h1 : Kq e m) (h2 : ∀ p, p.e = e → Kq e (c p)) : Kq e (m.bind c) := by
  intro r hr
  cases hm : m with
  | none => rw [hm] at hr; cases hr
  | some a => rw [hm] at hr; exact h2 a (h1 a hm) r hr

theorem k_sp_fail (he : e ≠ 0) (h : p.e = e) {n : Int} : Kq e (sp_fail p n) := by
  unfold sp_fail; rw [if_neg (by rw [h]; exact he)]; exact Kq.done h
theorem k_sees (he : e ≠ 0) (h : p.e = e) {n : Int} {s : Str} : sp_sees p n s = some false := by
  unfold sp_sees; rw [if_neg (by rw [h]; exact he)]
theorem k_sp_word (he : e ≠ 0) (h : p.e = e) {s : Str} : Kp e (sp_word p s) := by
  unfold sp_word; rw [k_sees he h, Option.bind_some, if_neg (by decide)]; exact Kp.done h
theorem k_sp_mark (he : e ≠ 0) (h : p.e = e) {s : Str} : Kp e (sp_mark p s) := by
  unfold sp_mark; rw [k_sees he h, Option.bind_some, if_neg (by decide)]; exact Kp.done h
theorem k_sp_next (_he : e ≠ 0) (h : p.e = e) : Kq e (sp_next p) := by
  unfold sp_next; exact Kq.ite (Kq.done h) (Kq.done h)
theorem k_sp_must (he : e ≠ 0) (h : p.e = e) {s : Str} : Kq e (sp_must p s) := by
  unfold sp_must; exact Kq.bind (k_sp_word he h) fun p x h => Kq.ite (Kq.done h) (Kq.bindq (k_sp_fail he h) fun p h => Kq.done h)
theorem k_sp_need (he : e ≠ 0) (h : p.e = e) {s : Str} : Kq e (sp_need p s) := by
  unfold sp_need; exact Kq.bind (k_sp_mark he h) fun p x h => Kq.ite (Kq.done h) (Kq.bindq (k_sp_fail he h) fun p h => Kq.done h)
theorem k_sp_enter (he : e ≠ 0) (h : p.e = e) : Kp e (sp_enter p) := by
  unfold sp_enter; exact Kp.ite (Kp.bindq (k_sp_fail he (show (Parser.mk p.t p.i (IntKind.i64.wrap (p.deep + 1)) p.at_ p.e).e = e from h)) fun p h => Kp.done h) (Kp.done h)
theorem k_sp_leave (_he : e ≠ 0) (h : p.e = e) : Kq e (sp_leave p) := by
  unfold sp_leave; exact Kq.done h
theorem k_sp_name (he : e ≠ 0) (h : p.e = e) : Kp e (sp_name p) := by
  unfold sp_name
  refine Kp.bind0 fun x => Kp.ite (Kp.bind0 fun y => Kp.bindq (k_sp_next he h) fun p h => Kp.done h) (Kp.bindq (k_sp_fail he h) fun p h => Kp.done h)
theorem k_sp_number (he : e ≠ 0) (h : p.e = e) : Kp e (sp_number p) := by
  unfold sp_number
  rw [if_neg (by rw [h]; exact he)]
  exact Kp.bindq (k_sp_fail he h) fun p h => Kp.done h
theorem k_sp_column_j2 (he : e ≠ 0) (h : p.e = e) {s : Str} {l : List Expr} : Kp e (sp_column_j2 p s l) := by
  unfold sp_column_j2; exact Kp.bindq (k_sp_need he h) fun p h => Kp.done h
theorem k_sp_compared_j1 (he : e ≠ 0) (h : p.e = e) {n : Int} {l : List Expr} : Kp e (sp_compared_j1 p n l) := by
  unfold sp_compared_j1; exact Kp.bindq (k_sp_must he h) fun p h => Kp.done h

structure KT (e : Int) (T : Tab_sp_bracketed) : Prop where
  sp_bracketed : ∀ (p : Parser), p.e = e → Kp e (T.sp_bracketed p)
  sp_cases : ∀ (p : Parser), p.e = e → Kp e (T.sp_cases p)
  sp_column : ∀ (p : Parser), p.e = e → Kp e (T.sp_column p)
  sp_compared : ∀ (p : Parser), p.e = e → Kp e (T.sp_compared p)
  sp_expr : ∀ (p : Parser), p.e = e → Kp e (T.sp_expr p)
  sp_expr_1 : ∀ (p : Parser), p.e = e → Kp e (T.sp_expr_1 p)
  sp_inner_not : ∀ (p : Parser) (x0 : Int), p.e = e → Kp e (T.sp_inner_not p x0)
  sp_inner_unary : ∀ (p : Parser) (x0 : Int), p.e = e → Kp e (T.sp_inner_unary p x0)
  sp_item : ∀ (p : Parser), p.e = e → Kp e (T.sp_item p)
  sp_key : ∀ (p : Parser), p.e = e → Kp e (T.sp_key p)
  sp_left_expr_1 : ∀ (p : Parser) (x0 : (List Str)), p.e = e → Kp e (T.sp_left_expr_1 p x0)
  sp_left_expr_1_l1 : ∀ (p : Parser) (x0 : Expr) (x1 : (List Str)), p.e = e → Kp e (T.sp_left_expr_1_l1 p x0 x1)
  sp_left_expr_1_l2 : ∀ (p : Parser) (x0 : Expr) (x1 : (List Str)) (x2 : (List Str)) (x3 : Int) (x4 : Int), p.e = e → Kp e (T.sp_left_expr_1_l2 p x0 x1 x2 x3 x4)
  sp_left_not : ∀ (p : Parser) (x0 : (List Str)), p.e = e → Kp e (T.sp_left_not p x0)
  sp_left_not_l1 : ∀ (p : Parser) (x0 : Expr) (x1 : (List Str)), p.e = e → Kp e (T.sp_left_not_l1 p x0 x1)
  sp_left_not_l2 : ∀ (p : Parser) (x0 : Expr) (x1 : (List Str)) (x2 : (List Str)) (x3 : Int) (x4 : Int), p.e = e → Kp e (T.sp_left_not_l2 p x0 x1 x2 x3 x4)
  sp_left_prod : ∀ (p : Parser) (x0 : (List Str)), p.e = e → Kp e (T.sp_left_prod p x0)
  sp_left_prod_l1 : ∀ (p : Parser) (x0 : Expr) (x1 : (List Str)), p.e = e → Kp e (T.sp_left_prod_l1 p x0 x1)
  sp_left_prod_l2 : ∀ (p : Parser) (x0 : Expr) (x1 : (List Str)) (x2 : (List Str)) (x3 : Int) (x4 : Int), p.e = e → Kp e (T.sp_left_prod_l2 p x0 x1 x2 x3 x4)
  sp_left_unary : ∀ (p : Parser) (x0 : (List Str)), p.e = e → Kp e (T.sp_left_unary p x0)
  sp_left_unary_l1 : ∀ (p : Parser) (x0 : Expr) (x1 : (List Str)), p.e = e → Kp e (T.sp_left_unary_l1 p x0 x1)
  sp_left_unary_l2 : ∀ (p : Parser) (x0 : Expr) (x1 : (List Str)) (x2 : (List Str)) (x3 : Int) (x4 : Int), p.e = e → Kp e (T.sp_left_unary_l2 p x0 x1 x2 x3 x4)
  sp_not : ∀ (p : Parser), p.e = e → Kp e (T.sp_not p)
  sp_part : ∀ (p : Parser), p.e = e → Kp e (T.sp_part p)
  sp_prim : ∀ (p : Parser), p.e = e → Kp e (T.sp_prim p)
  sp_prod : ∀ (p : Parser), p.e = e → Kp e (T.sp_prod p)
  sp_query : ∀ (p : Parser), p.e = e → Kp e (T.sp_query p)
  sp_query_l1 : ∀ (p : Parser) (x0 : Query), p.e = e → Kp e (T.sp_query_l1 p x0)
  sp_round : ∀ (p : Parser), p.e = e → Kp e (T.sp_round p)
  sp_single : ∀ (p : Parser), p.e = e → Kp e (T.sp_single p)
  sp_source : ∀ (p : Parser), p.e = e → Kp e (T.sp_source p)
  sp_source_l1 : ∀ (p : Parser) (x0 : From), p.e = e → Kp e (T.sp_source_l1 p x0)
  sp_sum : ∀ (p : Parser), p.e = e → Kp e (T.sp_sum p)
  sp_unary : ∀ (p : Parser), p.e = e → Kp e (T.sp_unary p)
  syntax_list_m : ∀ (p : Parser), p.e = e → Kp e (T.syntax_list_m p)
  syntax_list_m_l1 : ∀ (p : Parser) (x0 : (List ItemT)), p.e = e → Kp e (T.syntax_list_m_l1 p x0)
  syntax_list_r_2 : ∀ (p : Parser), p.e = e → Kp e (T.syntax_list_r_2 p)
  syntax_list_r_2_l1 : ∀ (p : Parser) (x0 : (List Expr)), p.e = e → Kp e (T.syntax_list_r_2_l1 p x0)
  syntax_list_y : ∀ (p : Parser), p.e = e → Kp e (T.syntax_list_y p)
  syntax_list_y_l1 : ∀ (p : Parser) (x0 : (List Key)), p.e = e → Kp e (T.syntax_list_y_l1 p x0)

variable {T : Tab_sp_bracketed}
theorem kb_sp_bracketed (he : e ≠ 0) (hT : KT e T) (h : p.e = e) : Kp e (sp_bracketed_b T p) := by
  unfold sp_bracketed_b
  repeat' (first
    | with_reducible exact Kp.done (by assumption)
    | with_reducible exact hT.sp_query _ (by assumption)
    | with_reducible exact k_sp_need he (by assumption)
    | with_reducible refine Kp.ite ?_ ?_
    | with_reducible refine Kp.chk ?_
    | with_reducible refine Kp.bind ?_ (fun p x h => ?_)
    | with_reducible refine Kp.bindq ?_ (fun p h => ?_)
    | with_reducible refine Kp.bind0 (fun x => ?_)
    | dsimp only)
theorem kb_sp_cases (he : e ≠ 0) (hT : KT e T) (h : p.e = e) : Kp e (sp_cases_b T p) := by
  unfold sp_cases_b
  repeat' (first
    | with_reducible exact Kp.done (by assumption)
    | with_reducible exact hT.sp_expr _ (by assumption)
    | with_reducible exact k_sp_must he (by assumption)
    | with_reducible refine Kp.ite ?_ ?_
    | with_reducible refine Kp.chk ?_
    | with_reducible refine Kp.bind ?_ (fun p x h => ?_)
    | with_reducible refine Kp.bindq ?_ (fun p h => ?_)
    | with_reducible refine Kp.bind0 (fun x => ?_)
    | dsimp only)
theorem kb_sp_column_j1 (he : e ≠ 0) (hT : KT e T) (h : p.e = e) {a1 : Str} {a2 : Bool} : Kp e (sp_column_j1_b T p a1 a2) := by
  unfold sp_column_j1_b
  repeat' (first
    | with_reducible exact Kp.done (by assumption)
    | with_reducible exact hT.sp_expr _ (by assumption)
    | with_reducible exact k_sp_column_j2 he (by assumption)
    | with_reducible exact k_sp_mark he (by assumption)
    | with_reducible exact k_sp_name he (by assumption)
    | with_reducible refine Kp.ite ?_ ?_
    | with_reducible refine Kp.chk ?_
    | with_reducible refine Kp.bind ?_ (fun p x h => ?_)
    | with_reducible refine Kp.bindq ?_ (fun p h => ?_)
    | with_reducible refine Kp.bind0 (fun x => ?_)
    | dsimp only)
theorem kb_sp_column (he : e ≠ 0) (hT : KT e T) (h : p.e = e) : Kp e (sp_column_b T p) := by
  unfold sp_column_b
  repeat' (first
    | with_reducible exact Kp.done (by assumption)
    | with_reducible exact kb_sp_column_j1 he hT (by assumption)
    | with_reducible exact k_sp_mark he (by assumption)
    | with_reducible exact k_sp_name he (by assumption)
    | with_reducible refine Kp.ite ?_ ?_
    | with_reducible refine Kp.chk ?_
    | with_reducible refine Kp.bind ?_ (fun p x h => ?_)
    | with_reducible refine Kp.bindq ?_ (fun p h => ?_)
    | with_reducible refine Kp.bind0 (fun x => ?_)
    | dsimp only)
theorem kb_sp_compared (he : e ≠ 0) (hT : KT e T) (h : p.e = e) : Kp e (sp_compared_b T p) := by
  unfold sp_compared_b
  repeat' (first
    | with_reducible exact Kp.done (by assumption)
    | with_reducible exact hT.sp_bracketed _ (by assumption)
    | with_reducible exact hT.sp_sum _ (by assumption)
    | with_reducible exact k_sp_compared_j1 he (by assumption)
    | with_reducible exact k_sp_mark he (by assumption)
    | with_reducible exact k_sp_must he (by assumption)
    | with_reducible exact k_sp_word he (by assumption)
    | with_reducible refine Kp.ite ?_ ?_
    | with_reducible refine Kp.chk ?_
    | with_reducible refine Kp.bind ?_ (fun p x h => ?_)
    | with_reducible refine Kp.bindq ?_ (fun p h => ?_)
    | with_reducible refine Kp.bind0 (fun x => ?_)
    | dsimp only)
theorem kb_sp_expr (he : e ≠ 0) (hT : KT e T) (h : p.e = e) : Kp e (sp_expr_b T p) := by
  unfold sp_expr_b
  repeat' (first
    | with_reducible exact Kp.done (by assumption)
    | with_reducible exact hT.sp_left_expr_1 _ _ (by assumption)
    | with_reducible exact k_sp_enter he (by assumption)
    | with_reducible exact k_sp_leave he (by assumption)
    | with_reducible refine Kp.ite ?_ ?_
    | with_reducible refine Kp.chk ?_
    | with_reducible refine Kp.bind ?_ (fun p x h => ?_)
    | with_reducible refine Kp.bindq ?_ (fun p h => ?_)
    | with_reducible refine Kp.bind0 (fun x => ?_)
    | dsimp only)
theorem kb_sp_expr_1 (he : e ≠ 0) (hT : KT e T) (h : p.e = e) : Kp e (sp_expr_1_b T p) := by
  unfold sp_expr_1_b
  repeat' (first
    | with_reducible exact Kp.done (by assumption)
    | with_reducible exact hT.sp_left_not _ _ (by assumption)
    | with_reducible refine Kp.ite ?_ ?_
    | with_reducible refine Kp.chk ?_
    | with_reducible refine Kp.bind ?_ (fun p x h => ?_)
    | with_reducible refine Kp.bindq ?_ (fun p h => ?_)
    | with_reducible refine Kp.bind0 (fun x => ?_)
    | dsimp only)
theorem kb_sp_inner_not (he : e ≠ 0) (hT : KT e T) (h : p.e = e) {a1 : Int} : Kp e (sp_inner_not_b T p a1) := by
  unfold sp_inner_not_b
  repeat' (first
    | with_reducible exact Kp.done (by assumption)
    | with_reducible exact hT.sp_not _ (by assumption)
    | with_reducible exact k_sp_enter he (by assumption)
    | with_reducible exact k_sp_leave he (by assumption)
    | with_reducible refine Kp.ite ?_ ?_
    | with_reducible refine Kp.chk ?_
    | with_reducible refine Kp.bind ?_ (fun p x h => ?_)
    | with_reducible refine Kp.bindq ?_ (fun p h => ?_)
    | with_reducible refine Kp.bind0 (fun x => ?_)
    | dsimp only)
theorem kb_sp_inner_unary (he : e ≠ 0) (hT : KT e T) (h : p.e = e) {a1 : Int} : Kp e (sp_inner_unary_b T p a1) := by
  unfold sp_inner_unary_b
  repeat' (first
    | with_reducible exact Kp.done (by assumption)
    | with_reducible exact hT.sp_unary _ (by assumption)
    | with_reducible exact k_sp_enter he (by assumption)
    | with_reducible exact k_sp_leave he (by assumption)
    | with_reducible refine Kp.ite ?_ ?_
    | with_reducible refine Kp.chk ?_
    | with_reducible refine Kp.bind ?_ (fun p x h => ?_)
    | with_reducible refine Kp.bindq ?_ (fun p h => ?_)
    | with_reducible refine Kp.bind0 (fun x => ?_)
    | dsimp only)
theorem kb_sp_item (he : e ≠ 0) (hT : KT e T) (h : p.e = e) : Kp e (sp_item_b T p) := by
  unfold sp_item_b
  repeat' (first
    | with_reducible exact Kp.done (by assumption)
    | with_reducible exact hT.sp_expr _ (by assumption)
    | with_reducible exact k_sp_must he (by assumption)
    | with_reducible exact k_sp_name he (by assumption)
    | with_reducible refine Kp.ite ?_ ?_
    | with_reducible refine Kp.chk ?_
    | with_reducible refine Kp.bind ?_ (fun p x h => ?_)
    | with_reducible refine Kp.bindq ?_ (fun p h => ?_)
    | with_reducible refine Kp.bind0 (fun x => ?_)
    | dsimp only)
theorem kb_sp_key (he : e ≠ 0) (hT : KT e T) (h : p.e = e) : Kp e (sp_key_b T p) := by
  unfold sp_key_b
  repeat' (first
    | with_reducible exact Kp.done (by assumption)
    | with_reducible exact hT.sp_expr _ (by assumption)
    | with_reducible exact k_sp_word he (by assumption)
    | with_reducible refine Kp.ite ?_ ?_
    | with_reducible refine Kp.chk ?_
    | with_reducible refine Kp.bind ?_ (fun p x h => ?_)
    | with_reducible refine Kp.bindq ?_ (fun p h => ?_)
    | with_reducible refine Kp.bind0 (fun x => ?_)
    | dsimp only)
theorem kb_sp_left_expr_1 (he : e ≠ 0) (hT : KT e T) (h : p.e = e) {a1 : List Str} : Kp e (sp_left_expr_1_b T p a1) := by
  unfold sp_left_expr_1_b
  repeat' (first
    | with_reducible exact Kp.done (by assumption)
    | with_reducible exact hT.sp_expr_1 _ (by assumption)
    | with_reducible exact hT.sp_left_expr_1_l1 _ _ _ (by assumption)
    | with_reducible refine Kp.ite ?_ ?_
    | with_reducible refine Kp.chk ?_
    | with_reducible refine Kp.bind ?_ (fun p x h => ?_)
    | with_reducible refine Kp.bindq ?_ (fun p h => ?_)
    | with_reducible refine Kp.bind0 (fun x => ?_)
    | dsimp only)
theorem kb_sp_left_expr_1_l1 (he : e ≠ 0) (hT : KT e T) (h : p.e = e) {a1 : Expr} {a2 : List Str} : Kp e (sp_left_expr_1_l1_b T p a1 a2) := by
  unfold sp_left_expr_1_l1_b
  repeat' (first
    | with_reducible exact Kp.done (by assumption)
    | with_reducible exact hT.sp_left_expr_1_l2 _ _ _ _ _ _ (by assumption)
    | with_reducible refine Kp.ite ?_ ?_
    | with_reducible refine Kp.chk ?_
    | with_reducible refine Kp.bind ?_ (fun p x h => ?_)
    | with_reducible refine Kp.bindq ?_ (fun p h => ?_)
    | with_reducible refine Kp.bind0 (fun x => ?_)
    | dsimp only)
theorem kb_sp_left_expr_1_l2 (he : e ≠ 0) (hT : KT e T) (h : p.e = e) {a1 : Expr} {a2 : List Str} {a3 : List Str} {a4 : Int} {a5 : Int} : Kp e (sp_left_expr_1_l2_b T p a1 a2 a3 a4 a5) := by
  unfold sp_left_expr_1_l2_b
  repeat' (first
    | with_reducible exact Kp.done (by assumption)
    | with_reducible exact hT.sp_expr_1 _ (by assumption)
    | with_reducible exact hT.sp_left_expr_1_l1 _ _ _ (by assumption)
    | with_reducible exact hT.sp_left_expr_1_l2 _ _ _ _ _ _ (by assumption)
    | with_reducible exact k_sp_word he (by assumption)
    | with_reducible refine Kp.ite ?_ ?_
    | with_reducible refine Kp.chk ?_
    | with_reducible refine Kp.bind ?_ (fun p x h => ?_)
    | with_reducible refine Kp.bindq ?_ (fun p h => ?_)
    | with_reducible refine Kp.bind0 (fun x => ?_)
    | dsimp only)
theorem kb_sp_left_not (he : e ≠ 0) (hT : KT e T) (h : p.e = e) {a1 : List Str} : Kp e (sp_left_not_b T p a1) := by
  unfold sp_left_not_b
  repeat' (first
    | with_reducible exact Kp.done (by assumption)
    | with_reducible exact hT.sp_left_not_l1 _ _ _ (by assumption)
    | with_reducible exact hT.sp_not _ (by assumption)
    | with_reducible refine Kp.ite ?_ ?_
    | with_reducible refine Kp.chk ?_
    | with_reducible refine Kp.bind ?_ (fun p x h => ?_)
    | with_reducible refine Kp.bindq ?_ (fun p h => ?_)
    | with_reducible refine Kp.bind0 (fun x => ?_)
    | dsimp only)
theorem kb_sp_left_not_l1 (he : e ≠ 0) (hT : KT e T) (h : p.e = e) {a1 : Expr} {a2 : List Str} : Kp e (sp_left_not_l1_b T p a1 a2) := by
  unfold sp_left_not_l1_b
  repeat' (first
    | with_reducible exact Kp.done (by assumption)
    | with_reducible exact hT.sp_left_not_l2 _ _ _ _ _ _ (by assumption)
    | with_reducible refine Kp.ite ?_ ?_
    | with_reducible refine Kp.chk ?_
    | with_reducible refine Kp.bind ?_ (fun p x h => ?_)
    | with_reducible refine Kp.bindq ?_ (fun p h => ?_)
    | with_reducible refine Kp.bind0 (fun x => ?_)
    | dsimp only)
theorem kb_sp_left_not_l2 (he : e ≠ 0) (hT : KT e T) (h : p.e = e) {a1 : Expr} {a2 : List Str} {a3 : List Str} {a4 : Int} {a5 : Int} : Kp e (sp_left_not_l2_b T p a1 a2 a3 a4 a5) := by
  unfold sp_left_not_l2_b
  repeat' (first
    | with_reducible exact Kp.done (by assumption)
    | with_reducible exact hT.sp_left_not_l1 _ _ _ (by assumption)
    | with_reducible exact hT.sp_left_not_l2 _ _ _ _ _ _ (by assumption)
    | with_reducible exact hT.sp_not _ (by assumption)
    | with_reducible exact k_sp_word he (by assumption)
    | with_reducible refine Kp.ite ?_ ?_
    | with_reducible refine Kp.chk ?_
    | with_reducible refine Kp.bind ?_ (fun p x h => ?_)
    | with_reducible refine Kp.bindq ?_ (fun p h => ?_)
    | with_reducible refine Kp.bind0 (fun x => ?_)
    | dsimp only)
theorem kb_sp_left_prod (he : e ≠ 0) (hT : KT e T) (h : p.e = e) {a1 : List Str} : Kp e (sp_left_prod_b T p a1) := by
  unfold sp_left_prod_b
  repeat' (first
    | with_reducible exact Kp.done (by assumption)
    | with_reducible exact hT.sp_left_prod_l1 _ _ _ (by assumption)
    | with_reducible exact hT.sp_prod _ (by assumption)
    | with_reducible refine Kp.ite ?_ ?_
    | with_reducible refine Kp.chk ?_
    | with_reducible refine Kp.bind ?_ (fun p x h => ?_)
    | with_reducible refine Kp.bindq ?_ (fun p h => ?_)
    | with_reducible refine Kp.bind0 (fun x => ?_)
    | dsimp only)
theorem kb_sp_left_prod_l1 (he : e ≠ 0) (hT : KT e T) (h : p.e = e) {a1 : Expr} {a2 : List Str} : Kp e (sp_left_prod_l1_b T p a1 a2) := by
  unfold sp_left_prod_l1_b
  repeat' (first
    | with_reducible exact Kp.done (by assumption)
    | with_reducible exact hT.sp_left_prod_l2 _ _ _ _ _ _ (by assumption)
    | with_reducible refine Kp.ite ?_ ?_
    | with_reducible refine Kp.chk ?_
    | with_reducible refine Kp.bind ?_ (fun p x h => ?_)
    | with_reducible refine Kp.bindq ?_ (fun p h => ?_)
    | with_reducible refine Kp.bind0 (fun x => ?_)
    | dsimp only)
theorem kb_sp_left_prod_l2 (he : e ≠ 0) (hT : KT e T) (h : p.e = e) {a1 : Expr} {a2 : List Str} {a3 : List Str} {a4 : Int} {a5 : Int} : Kp e (sp_left_prod_l2_b T p a1 a2 a3 a4 a5) := by
  unfold sp_left_prod_l2_b
  repeat' (first
    | with_reducible exact Kp.done (by assumption)
    | with_reducible exact hT.sp_left_prod_l1 _ _ _ (by assumption)
    | with_reducible exact hT.sp_left_prod_l2 _ _ _ _ _ _ (by assumption)
    | with_reducible exact hT.sp_prod _ (by assumption)
    | with_reducible exact k_sp_mark he (by assumption)
    | with_reducible refine Kp.ite ?_ ?_
    | with_reducible refine Kp.chk ?_
    | with_reducible refine Kp.bind ?_ (fun p x h => ?_)
    | with_reducible refine Kp.bindq ?_ (fun p h => ?_)
    | with_reducible refine Kp.bind0 (fun x => ?_)
    | dsimp only)
theorem kb_sp_left_unary (he : e ≠ 0) (hT : KT e T) (h : p.e = e) {a1 : List Str} : Kp e (sp_left_unary_b T p a1) := by
  unfold sp_left_unary_b
  repeat' (first
    | with_reducible exact Kp.done (by assumption)
    | with_reducible exact hT.sp_left_unary_l1 _ _ _ (by assumption)
    | with_reducible exact hT.sp_unary _ (by assumption)
    | with_reducible refine Kp.ite ?_ ?_
    | with_reducible refine Kp.chk ?_
    | with_reducible refine Kp.bind ?_ (fun p x h => ?_)
    | with_reducible refine Kp.bindq ?_ (fun p h => ?_)
    | with_reducible refine Kp.bind0 (fun x => ?_)
    | dsimp only)
theorem kb_sp_left_unary_l1 (he : e ≠ 0) (hT : KT e T) (h : p.e = e) {a1 : Expr} {a2 : List Str} : Kp e (sp_left_unary_l1_b T p a1 a2) := by
  unfold sp_left_unary_l1_b
  repeat' (first
    | with_reducible exact Kp.done (by assumption)
    | with_reducible exact hT.sp_left_unary_l2 _ _ _ _ _ _ (by assumption)
    | with_reducible refine Kp.ite ?_ ?_
    | with_reducible refine Kp.chk ?_
    | with_reducible refine Kp.bind ?_ (fun p x h => ?_)
    | with_reducible refine Kp.bindq ?_ (fun p h => ?_)
    | with_reducible refine Kp.bind0 (fun x => ?_)
    | dsimp only)
theorem kb_sp_left_unary_l2 (he : e ≠ 0) (hT : KT e T) (h : p.e = e) {a1 : Expr} {a2 : List Str} {a3 : List Str} {a4 : Int} {a5 : Int} : Kp e (sp_left_unary_l2_b T p a1 a2 a3 a4 a5) := by
  unfold sp_left_unary_l2_b
  repeat' (first
    | with_reducible exact Kp.done (by assumption)
    | with_reducible exact hT.sp_left_unary_l1 _ _ _ (by assumption)
    | with_reducible exact hT.sp_left_unary_l2 _ _ _ _ _ _ (by assumption)
    | with_reducible exact hT.sp_unary _ (by assumption)
    | with_reducible exact k_sp_mark he (by assumption)
    | with_reducible refine Kp.ite ?_ ?_
    | with_reducible refine Kp.chk ?_
    | with_reducible refine Kp.bind ?_ (fun p x h => ?_)
    | with_reducible refine Kp.bindq ?_ (fun p h => ?_)
    | with_reducible refine Kp.bind0 (fun x => ?_)
    | dsimp only)
theorem kb_sp_not (he : e ≠ 0) (hT : KT e T) (h : p.e = e) : Kp e (sp_not_b T p) := by
  unfold sp_not_b
  repeat' (first
    | with_reducible exact Kp.done (by assumption)
    | with_reducible exact hT.sp_compared _ (by assumption)
    | with_reducible exact hT.sp_inner_not _ _ (by assumption)
    | with_reducible exact k_sp_word he (by assumption)
    | with_reducible refine Kp.ite ?_ ?_
    | with_reducible refine Kp.chk ?_
    | with_reducible refine Kp.bind ?_ (fun p x h => ?_)
    | with_reducible refine Kp.bindq ?_ (fun p h => ?_)
    | with_reducible refine Kp.bind0 (fun x => ?_)
    | dsimp only)
theorem kb_sp_part_j2 (he : e ≠ 0) (hT : KT e T) (h : p.e = e) {a1 : Bool} {a2 : List ItemT} {a3 : List From} {a4 : List Expr} : Kp e (sp_part_j2_b T p a1 a2 a3 a4) := by
  unfold sp_part_j2_b
  repeat' (first
    | with_reducible exact Kp.done (by assumption)
    | with_reducible exact hT.sp_expr _ (by assumption)
    | with_reducible exact hT.syntax_list_r_2 _ (by assumption)
    | with_reducible exact hT.syntax_list_y _ (by assumption)
    | with_reducible exact k_sp_must he (by assumption)
    | with_reducible exact k_sp_number he (by assumption)
    | with_reducible exact k_sp_word he (by assumption)
    | with_reducible refine Kp.ite ?_ ?_
    | with_reducible refine Kp.chk ?_
    | with_reducible refine Kp.bind ?_ (fun p x h => ?_)
    | with_reducible refine Kp.bindq ?_ (fun p h => ?_)
    | with_reducible refine Kp.bind0 (fun x => ?_)
    | dsimp only)
theorem kb_sp_part_j1 (he : e ≠ 0) (hT : KT e T) (h : p.e = e) {a1 : Bool} {a2 : List ItemT} {a3 : List From} : Kp e (sp_part_j1_b T p a1 a2 a3) := by
  unfold sp_part_j1_b
  repeat' (first
    | with_reducible exact Kp.done (by assumption)
    | with_reducible exact hT.sp_expr _ (by assumption)
    | with_reducible exact kb_sp_part_j2 he hT (by assumption)
    | with_reducible exact k_sp_word he (by assumption)
    | with_reducible refine Kp.ite ?_ ?_
    | with_reducible refine Kp.chk ?_
    | with_reducible refine Kp.bind ?_ (fun p x h => ?_)
    | with_reducible refine Kp.bindq ?_ (fun p h => ?_)
    | with_reducible refine Kp.bind0 (fun x => ?_)
    | dsimp only)
theorem kb_sp_part (he : e ≠ 0) (hT : KT e T) (h : p.e = e) : Kp e (sp_part_b T p) := by
  unfold sp_part_b
  repeat' (first
    | with_reducible exact Kp.done (by assumption)
    | with_reducible exact hT.sp_query _ (by assumption)
    | with_reducible exact hT.sp_source _ (by assumption)
    | with_reducible exact hT.syntax_list_m _ (by assumption)
    | with_reducible exact k_sp_mark he (by assumption)
    | with_reducible exact k_sp_must he (by assumption)
    | with_reducible exact k_sp_need he (by assumption)
    | with_reducible exact kb_sp_part_j1 he hT (by assumption)
    | with_reducible exact k_sp_word he (by assumption)
    | with_reducible refine Kp.ite ?_ ?_
    | with_reducible refine Kp.chk ?_
    | with_reducible refine Kp.bind ?_ (fun p x h => ?_)
    | with_reducible refine Kp.bindq ?_ (fun p h => ?_)
    | with_reducible refine Kp.bind0 (fun x => ?_)
    | dsimp only)
theorem kb_sp_prim (he : e ≠ 0) (hT : KT e T) (h : p.e = e) : Kp e (sp_prim_b T p) := by
  unfold sp_prim_b
  repeat' (first
    | with_reducible exact Kp.done (by assumption)
    | with_reducible exact hT.sp_bracketed _ (by assumption)
    | with_reducible exact hT.sp_cases _ (by assumption)
    | with_reducible exact hT.sp_column _ (by assumption)
    | with_reducible exact hT.sp_round _ (by assumption)
    | with_reducible exact k_sp_mark he (by assumption)
    | with_reducible exact k_sp_name he (by assumption)
    | with_reducible exact k_sp_next he (by assumption)
    | with_reducible exact k_sp_word he (by assumption)
    | with_reducible refine Kp.ite ?_ ?_
    | with_reducible refine Kp.chk ?_
    | with_reducible refine Kp.bind ?_ (fun p x h => ?_)
    | with_reducible refine Kp.bindq ?_ (fun p h => ?_)
    | with_reducible refine Kp.bind0 (fun x => ?_)
    | dsimp only)
theorem kb_sp_prod (he : e ≠ 0) (hT : KT e T) (h : p.e = e) : Kp e (sp_prod_b T p) := by
  unfold sp_prod_b
  repeat' (first
    | with_reducible exact Kp.done (by assumption)
    | with_reducible exact hT.sp_left_unary _ _ (by assumption)
    | with_reducible refine Kp.ite ?_ ?_
    | with_reducible refine Kp.chk ?_
    | with_reducible refine Kp.bind ?_ (fun p x h => ?_)
    | with_reducible refine Kp.bindq ?_ (fun p h => ?_)
    | with_reducible refine Kp.bind0 (fun x => ?_)
    | dsimp only)
theorem kb_sp_query (he : e ≠ 0) (hT : KT e T) (h : p.e = e) : Kp e (sp_query_b T p) := by
  unfold sp_query_b
  repeat' (first
    | with_reducible exact Kp.done (by assumption)
    | with_reducible exact hT.sp_part _ (by assumption)
    | with_reducible exact hT.sp_query_l1 _ _ (by assumption)
    | with_reducible exact k_sp_enter he (by assumption)
    | with_reducible refine Kp.ite ?_ ?_
    | with_reducible refine Kp.chk ?_
    | with_reducible refine Kp.bind ?_ (fun p x h => ?_)
    | with_reducible refine Kp.bindq ?_ (fun p h => ?_)
    | with_reducible refine Kp.bind0 (fun x => ?_)
    | dsimp only)
theorem kb_sp_query_j2 (he : e ≠ 0) (hT : KT e T) (h : p.e = e) {a1 : Query} {a2 : Int} : Kp e (sp_query_j2_b T p a1 a2) := by
  unfold sp_query_j2_b
  repeat' (first
    | with_reducible exact Kp.done (by assumption)
    | with_reducible exact hT.sp_part _ (by assumption)
    | with_reducible exact hT.sp_query_l1 _ _ (by assumption)
    | with_reducible exact k_sp_leave he (by assumption)
    | with_reducible refine Kp.ite ?_ ?_
    | with_reducible refine Kp.chk ?_
    | with_reducible refine Kp.bind ?_ (fun p x h => ?_)
    | with_reducible refine Kp.bindq ?_ (fun p h => ?_)
    | with_reducible refine Kp.bind0 (fun x => ?_)
    | dsimp only)
theorem kb_sp_query_l1 (he : e ≠ 0) (hT : KT e T) (h : p.e = e) {a1 : Query} : Kp e (sp_query_l1_b T p a1) := by
  unfold sp_query_l1_b
  repeat' (first
    | with_reducible exact Kp.done (by assumption)
    | with_reducible exact k_sp_leave he (by assumption)
    | with_reducible exact kb_sp_query_j2 he hT (by assumption)
    | with_reducible exact k_sp_word he (by assumption)
    | with_reducible refine Kp.ite ?_ ?_
    | with_reducible refine Kp.chk ?_
    | with_reducible refine Kp.bind ?_ (fun p x h => ?_)
    | with_reducible refine Kp.bindq ?_ (fun p h => ?_)
    | with_reducible refine Kp.bind0 (fun x => ?_)
    | dsimp only)
theorem kb_sp_round (he : e ≠ 0) (hT : KT e T) (h : p.e = e) : Kp e (sp_round_b T p) := by
  unfold sp_round_b
  repeat' (first
    | with_reducible exact Kp.done (by assumption)
    | with_reducible exact hT.sp_expr _ (by assumption)
    | with_reducible exact hT.sp_query _ (by assumption)
    | with_reducible exact k_sp_need he (by assumption)
    | with_reducible refine Kp.ite ?_ ?_
    | with_reducible refine Kp.chk ?_
    | with_reducible refine Kp.bind ?_ (fun p x h => ?_)
    | with_reducible refine Kp.bindq ?_ (fun p h => ?_)
    | with_reducible refine Kp.bind0 (fun x => ?_)
    | dsimp only)
theorem kb_sp_single (he : e ≠ 0) (hT : KT e T) (h : p.e = e) : Kp e (sp_single_b T p) := by
  unfold sp_single_b
  repeat' (first
    | with_reducible exact Kp.done (by assumption)
    | with_reducible exact hT.sp_query _ (by assumption)
    | with_reducible exact k_sp_mark he (by assumption)
    | with_reducible exact k_sp_must he (by assumption)
    | with_reducible exact k_sp_name he (by assumption)
    | with_reducible exact k_sp_need he (by assumption)
    | with_reducible exact k_sp_word he (by assumption)
    | with_reducible refine Kp.ite ?_ ?_
    | with_reducible refine Kp.chk ?_
    | with_reducible refine Kp.bind ?_ (fun p x h => ?_)
    | with_reducible refine Kp.bindq ?_ (fun p h => ?_)
    | with_reducible refine Kp.bind0 (fun x => ?_)
    | dsimp only)
theorem kb_sp_source (he : e ≠ 0) (hT : KT e T) (h : p.e = e) : Kp e (sp_source_b T p) := by
  unfold sp_source_b
  repeat' (first
    | with_reducible exact Kp.done (by assumption)
    | with_reducible exact hT.sp_single _ (by assumption)
    | with_reducible exact hT.sp_source_l1 _ _ (by assumption)
    | with_reducible refine Kp.ite ?_ ?_
    | with_reducible refine Kp.chk ?_
    | with_reducible refine Kp.bind ?_ (fun p x h => ?_)
    | with_reducible refine Kp.bindq ?_ (fun p h => ?_)
    | with_reducible refine Kp.bind0 (fun x => ?_)
    | dsimp only)
theorem kb_sp_source_j2 (he : e ≠ 0) (hT : KT e T) (h : p.e = e) {a1 : From} {a2 : Int} : Kp e (sp_source_j2_b T p a1 a2) := by
  unfold sp_source_j2_b
  repeat' (first
    | with_reducible exact Kp.done (by assumption)
    | with_reducible exact hT.sp_expr _ (by assumption)
    | with_reducible exact hT.sp_single _ (by assumption)
    | with_reducible exact hT.sp_source_l1 _ _ (by assumption)
    | with_reducible exact k_sp_must he (by assumption)
    | with_reducible refine Kp.ite ?_ ?_
    | with_reducible refine Kp.chk ?_
    | with_reducible refine Kp.bind ?_ (fun p x h => ?_)
    | with_reducible refine Kp.bindq ?_ (fun p h => ?_)
    | with_reducible refine Kp.bind0 (fun x => ?_)
    | dsimp only)
theorem kb_sp_source_l1 (he : e ≠ 0) (hT : KT e T) (h : p.e = e) {a1 : From} : Kp e (sp_source_l1_b T p a1) := by
  unfold sp_source_l1_b
  repeat' (first
    | with_reducible exact Kp.done (by assumption)
    | with_reducible exact k_sp_must he (by assumption)
    | with_reducible exact kb_sp_source_j2 he hT (by assumption)
    | with_reducible exact k_sp_word he (by assumption)
    | with_reducible refine Kp.ite ?_ ?_
    | with_reducible refine Kp.chk ?_
    | with_reducible refine Kp.bind ?_ (fun p x h => ?_)
    | with_reducible refine Kp.bindq ?_ (fun p h => ?_)
    | with_reducible refine Kp.bind0 (fun x => ?_)
    | dsimp only)
theorem kb_sp_sum (he : e ≠ 0) (hT : KT e T) (h : p.e = e) : Kp e (sp_sum_b T p) := by
  unfold sp_sum_b
  repeat' (first
    | with_reducible exact Kp.done (by assumption)
    | with_reducible exact hT.sp_left_prod _ _ (by assumption)
    | with_reducible refine Kp.ite ?_ ?_
    | with_reducible refine Kp.chk ?_
    | with_reducible refine Kp.bind ?_ (fun p x h => ?_)
    | with_reducible refine Kp.bindq ?_ (fun p h => ?_)
    | with_reducible refine Kp.bind0 (fun x => ?_)
    | dsimp only)
theorem kb_sp_unary (he : e ≠ 0) (hT : KT e T) (h : p.e = e) : Kp e (sp_unary_b T p) := by
  unfold sp_unary_b
  repeat' (first
    | with_reducible exact Kp.done (by assumption)
    | with_reducible exact hT.sp_inner_unary _ _ (by assumption)
    | with_reducible exact hT.sp_prim _ (by assumption)
    | with_reducible exact k_sp_mark he (by assumption)
    | with_reducible refine Kp.ite ?_ ?_
    | with_reducible refine Kp.chk ?_
    | with_reducible refine Kp.bind ?_ (fun p x h => ?_)
    | with_reducible refine Kp.bindq ?_ (fun p h => ?_)
    | with_reducible refine Kp.bind0 (fun x => ?_)
    | dsimp only)
theorem kb_syntax_list_m (he : e ≠ 0) (hT : KT e T) (h : p.e = e) : Kp e (syntax_list_m_b T p) := by
  unfold syntax_list_m_b
  repeat' (first
    | with_reducible exact Kp.done (by assumption)
    | with_reducible exact hT.sp_item _ (by assumption)
    | with_reducible exact hT.syntax_list_m_l1 _ _ (by assumption)
    | with_reducible refine Kp.ite ?_ ?_
    | with_reducible refine Kp.chk ?_
    | with_reducible refine Kp.bind ?_ (fun p x h => ?_)
    | with_reducible refine Kp.bindq ?_ (fun p h => ?_)
    | with_reducible refine Kp.bind0 (fun x => ?_)
    | dsimp only)
theorem kb_syntax_list_m_l1 (he : e ≠ 0) (hT : KT e T) (h : p.e = e) {a1 : List ItemT} : Kp e (syntax_list_m_l1_b T p a1) := by
  unfold syntax_list_m_l1_b
  repeat' (first
    | with_reducible exact Kp.done (by assumption)
    | with_reducible exact hT.sp_item _ (by assumption)
    | with_reducible exact hT.syntax_list_m_l1 _ _ (by assumption)
    | with_reducible exact k_sp_mark he (by assumption)
    | with_reducible refine Kp.ite ?_ ?_
    | with_reducible refine Kp.chk ?_
    | with_reducible refine Kp.bind ?_ (fun p x h => ?_)
    | with_reducible refine Kp.bindq ?_ (fun p h => ?_)
    | with_reducible refine Kp.bind0 (fun x => ?_)
    | dsimp only)
theorem kb_syntax_list_r_2 (he : e ≠ 0) (hT : KT e T) (h : p.e = e) : Kp e (syntax_list_r_2_b T p) := by
  unfold syntax_list_r_2_b
  repeat' (first
    | with_reducible exact Kp.done (by assumption)
    | with_reducible exact hT.sp_expr _ (by assumption)
    | with_reducible exact hT.syntax_list_r_2_l1 _ _ (by assumption)
    | with_reducible refine Kp.ite ?_ ?_
    | with_reducible refine Kp.chk ?_
    | with_reducible refine Kp.bind ?_ (fun p x h => ?_)
    | with_reducible refine Kp.bindq ?_ (fun p h => ?_)
    | with_reducible refine Kp.bind0 (fun x => ?_)
    | dsimp only)
theorem kb_syntax_list_r_2_l1 (he : e ≠ 0) (hT : KT e T) (h : p.e = e) {a1 : List Expr} : Kp e (syntax_list_r_2_l1_b T p a1) := by
  unfold syntax_list_r_2_l1_b
  repeat' (first
    | with_reducible exact Kp.done (by assumption)
    | with_reducible exact hT.sp_expr _ (by assumption)
    | with_reducible exact hT.syntax_list_r_2_l1 _ _ (by assumption)
    | with_reducible exact k_sp_mark he (by assumption)
    | with_reducible refine Kp.ite ?_ ?_
    | with_reducible refine Kp.chk ?_
    | with_reducible refine Kp.bind ?_ (fun p x h => ?_)
    | with_reducible refine Kp.bindq ?_ (fun p h => ?_)
    | with_reducible refine Kp.bind0 (fun x => ?_)
    | dsimp only)
theorem kb_syntax_list_y (he : e ≠ 0) (hT : KT e T) (h : p.e = e) : Kp e (syntax_list_y_b T p) := by
  unfold syntax_list_y_b
  repeat' (first
    | with_reducible exact Kp.done (by assumption)
    | with_reducible exact hT.sp_key _ (by assumption)
    | with_reducible exact hT.syntax_list_y_l1 _ _ (by assumption)
    | with_reducible refine Kp.ite ?_ ?_
    | with_reducible refine Kp.chk ?_
    | with_reducible refine Kp.bind ?_ (fun p x h => ?_)
    | with_reducible refine Kp.bindq ?_ (fun p h => ?_)
    | with_reducible refine Kp.bind0 (fun x => ?_)
    | dsimp only)
theorem kb_syntax_list_y_l1 (he : e ≠ 0) (hT : KT e T) (h : p.e = e) {a1 : List Key} : Kp e (syntax_list_y_l1_b T p a1) := by
  unfold syntax_list_y_l1_b
  repeat' (first
    | with_reducible exact Kp.done (by assumption)
    | with_reducible exact hT.sp_key _ (by assumption)
    | with_reducible exact hT.syntax_list_y_l1 _ _ (by assumption)
    | with_reducible exact k_sp_mark he (by assumption)
    | with_reducible refine Kp.ite ?_ ?_
    | with_reducible refine Kp.chk ?_
    | with_reducible refine Kp.bind ?_ (fun p x h => ?_)
    | with_reducible refine Kp.bindq ?_ (fun p h => ?_)
    | with_reducible refine Kp.bind0 (fun x => ?_)
    | dsimp only)

theorem kt (he : e ≠ 0) : ∀ k, KT e (tab_sp_bracketed k)
  | 0 => ⟨(fun _ _ _ h => nomatch (show none = some _ from h)), (fun _ _ _ h => nomatch (show none = some _ from h)), (fun _ _ _ h => nomatch (show none = some _ from h)), (fun _ _ _ h => nomatch (show none = some _ from h)), (fun _ _ _ h => nomatch (show none = some _ from h)), (fun _ _ _ h => nomatch (show none = some _ from h)), (fun _ _ _ _ h => nomatch (show none = some _ from h)), (fun _ _ _ _ h => nomatch (show none = some _ from h)), (fun _ _ _ h => nomatch (show none = some _ from h)), (fun _ _ _ h => nomatch (show none = some _ from h)), (fun _ _ _ _ h => nomatch (show none = some _ from h)), (fun _ _ _ _ _ h => nomatch (show none = some _ from h)), (fun _ _ _ _ _ _ _ _ h => nomatch (show none = some _ from h)), (fun _ _ _ _ h => nomatch (show none = some _ from h)), (fun _ _ _ _ _ h => nomatch (show none = some _ from h)), (fun _ _ _ _ _ _ _ _ h => nomatch (show none = some _ from h)), (fun _ _ _ _ h => nomatch (show none = some _ from h)), (fun _ _ _ _ _ h => nomatch (show none = some _ from h)), (fun _ _ _ _ _ _ _ _ h => nomatch (show none = some _ from h)), (fun _ _ _ _ h => nomatch (show none = some _ from h)), (fun _ _ _ _ _ h => nomatch (show none = some _ from h)), (fun _ _ _ _ _ _ _ _ h => nomatch (show none = some _ from h)), (fun _ _ _ h => nomatch (show none = some _ from h)), (fun _ _ _ h => nomatch (show none = some _ from h)), (fun _ _ _ h => nomatch (show none = some _ from h)), (fun _ _ _ h => nomatch (show none = some _ from h)), (fun _ _ _ h => nomatch (show none = some _ from h)), (fun _ _ _ _ h => nomatch (show none = some _ from h)), (fun _ _ _ h => nomatch (show none = some _ from h)), (fun _ _ _ h => nomatch (show none = some _ from h)), (fun _ _ _ h => nomatch (show none = some _ from h)), (fun _ _ _ _ h => nomatch (show none = some _ from h)), (fun _ _ _ h => nomatch (show none = some _ from h)), (fun _ _ _ h => nomatch (show none = some _ from h)), (fun _ _ _ h => nomatch (show none = some _ from h)), (fun _ _ _ _ h => nomatch (show none = some _ from h)), (fun _ _ _ h => nomatch (show none = some _ from h)), (fun _ _ _ _ h => nomatch (show none = some _ from h)), (fun _ _ _ h => nomatch (show none = some _ from h)), (fun _ _ _ _ h => nomatch (show none = some _ from h))⟩
  | k + 1 => ⟨fun _ h => kb_sp_bracketed he (kt he k) h, fun _ h => kb_sp_cases he (kt he k) h, fun _ h => kb_sp_column he (kt he k) h, fun _ h => kb_sp_compared he (kt he k) h, fun _ h => kb_sp_expr he (kt he k) h, fun _ h => kb_sp_expr_1 he (kt he k) h, fun _ _ h => kb_sp_inner_not he (kt he k) h, fun _ _ h => kb_sp_inner_unary he (kt he k) h, fun _ h => kb_sp_item he (kt he k) h, fun _ h => kb_sp_key he (kt he k) h, fun _ _ h => kb_sp_left_expr_1 he (kt he k) h, fun _ _ _ h => kb_sp_left_expr_1_l1 he (kt he k) h, fun _ _ _ _ _ _ h => kb_sp_left_expr_1_l2 he (kt he k) h, fun _ _ h => kb_sp_left_not he (kt he k) h, fun _ _ _ h => kb_sp_left_not_l1 he (kt he k) h, fun _ _ _ _ _ _ h => kb_sp_left_not_l2 he (kt he k) h, fun _ _ h => kb_sp_left_prod he (kt he k) h, fun _ _ _ h => kb_sp_left_prod_l1 he (kt he k) h, fun _ _ _ _ _ _ h => kb_sp_left_prod_l2 he (kt he k) h, fun _ _ h => kb_sp_left_unary he (kt he k) h, fun _ _ _ h => kb_sp_left_unary_l1 he (kt he k) h, fun _ _ _ _ _ _ h => kb_sp_left_unary_l2 he (kt he k) h, fun _ h => kb_sp_not he (kt he k) h, fun _ h => kb_sp_part he (kt he k) h, fun _ h => kb_sp_prim he (kt he k) h, fun _ h => kb_sp_prod he (kt he k) h, fun _ h => kb_sp_query he (kt he k) h, fun _ _ h => kb_sp_query_l1 he (kt he k) h, fun _ h => kb_sp_round he (kt he k) h, fun _ h => kb_sp_single he (kt he k) h, fun _ h => kb_sp_source he (kt he k) h, fun _ _ h => kb_sp_source_l1 he (kt he k) h, fun _ h => kb_sp_sum he (kt he k) h, fun _ h => kb_sp_unary he (kt he k) h, fun _ h => kb_syntax_list_m he (kt he k) h, fun _ _ h => kb_syntax_list_m_l1 he (kt he k) h, fun _ h => kb_syntax_list_r_2 he (kt he k) h, fun _ _ h => kb_syntax_list_r_2_l1 he (kt he k) h, fun _ h => kb_syntax_list_y he (kt he k) h, fun _ _ h => kb_syntax_list_y_l1 he (kt he k) h⟩

end Go.Syn
