/- An operand alone: what stands around it in an expression, where nothing follows. -/
import Derived.Test.YtoioflodpmideaaQ2
import Derived.Test.YtoioflodpmideaaP17
namespace Go.Syn
open Go.Abs

variable {p p3 : Parser} {x : Expr}

/-- Nothing follows that a parser would take. -/
def Quiet (p : Parser) : Prop := ∀ s, sp_word p s = some (p, false) ∧ sp_mark p s = some (p, false)

theorem quiet_dead (he : p.e ≠ 0) : Quiet p := fun s => by
  refine ⟨?_, ?_⟩
  · unfold sp_word; rw [k_sees he rfl, Option.bind_some, if_neg (by decide)]
  · unfold sp_mark; rw [k_sees he rfl, Option.bind_some, if_neg (by decide)]

theorem quiet_end (he : p.e = 0) {z : Token} (hz : sp_now p = some z) (hk : z.Kind = 0) : Quiet p := fun s => by
  refine ⟨?_, ?_⟩
  · unfold sp_word
    rw [sees_at he hz, decide_eq_false (by rw [hk]; intro h; exact absurd h.1 (by decide)), Option.bind_some, if_neg (by decide)]
  · unfold sp_mark
    rw [sees_at he hz, decide_eq_false (by rw [hk]; intro h; exact absurd h.1 (by decide)), Option.bind_some, if_neg (by decide)]

theorem z_left_unary (hq : Quiet p3) (a2 a3 : List Str) (hl : a3.length ≤ 1000) : ∀ n j : Nat, j + n = a3.length → Ev (fun k => sp_left_unary_l2 k p3 x a2 a3 (a3.length : Int) (j : Int)) (p3, x) := by
  intro n
  induction n with
  | zero =>
    intro j hj
    refine Ev.step (Ev.now fun k => ?_)
    show sp_left_unary_l2_b (tab_sp_bracketed k) p3 x a2 a3 (a3.length : Int) (j : Int) = _
    unfold sp_left_unary_l2_b
    rw [if_neg (by omega)]
  | succ n ih =>
    intro j hj
    have hlt : j < a3.length := by omega
    refine Ev.step ?_
    show Ev (fun k => sp_left_unary_l2_b (tab_sp_bracketed k) p3 x a2 a3 (a3.length : Int) (j : Int)) _
    unfold sp_left_unary_l2_b
    simp only [if_pos (show (j : Int) < (a3.length : Int) by omega), idx_nat hlt, Option.bind_some, (hq a3[j]).2, Bool.false_eq_true, if_false, wrap_one (show j < 1000000 by omega)]
    exact ih (j + 1) (by omega)

theorem w_left_unary (hq : Quiet p3) {a : List Str} (ha : a.length ≤ 1000) (h : Ev (fun k => sp_unary k p) (p3, x)) : Ev (fun k => sp_left_unary k p a) (p3, x) := by
  refine Ev.step ?_
  show Ev (fun k => sp_left_unary_b (tab_sp_bracketed k) p a) _
  unfold sp_left_unary_b
  refine Ev.bind h (Ev.step ?_)
  show Ev (fun k => sp_left_unary_l1_b (tab_sp_bracketed k) p3 x a) _
  unfold sp_left_unary_l1_b
  exact z_left_unary hq a a ha a.length 0 (Nat.zero_add _)

theorem z_left_prod (hq : Quiet p3) (a2 a3 : List Str) (hl : a3.length ≤ 1000) : ∀ n j : Nat, j + n = a3.length → Ev (fun k => sp_left_prod_l2 k p3 x a2 a3 (a3.length : Int) (j : Int)) (p3, x) := by
  intro n
  induction n with
  | zero =>
    intro j hj
    refine Ev.step (Ev.now fun k => ?_)
    show sp_left_prod_l2_b (tab_sp_bracketed k) p3 x a2 a3 (a3.length : Int) (j : Int) = _
    unfold sp_left_prod_l2_b
    rw [if_neg (by omega)]
  | succ n ih =>
    intro j hj
    have hlt : j < a3.length := by omega
    refine Ev.step ?_
    show Ev (fun k => sp_left_prod_l2_b (tab_sp_bracketed k) p3 x a2 a3 (a3.length : Int) (j : Int)) _
    unfold sp_left_prod_l2_b
    simp only [if_pos (show (j : Int) < (a3.length : Int) by omega), idx_nat hlt, Option.bind_some, (hq a3[j]).2, Bool.false_eq_true, if_false, wrap_one (show j < 1000000 by omega)]
    exact ih (j + 1) (by omega)

theorem w_left_prod (hq : Quiet p3) {a : List Str} (ha : a.length ≤ 1000) (h : Ev (fun k => sp_prod k p) (p3, x)) : Ev (fun k => sp_left_prod k p a) (p3, x) := by
  refine Ev.step ?_
  show Ev (fun k => sp_left_prod_b (tab_sp_bracketed k) p a) _
  unfold sp_left_prod_b
  refine Ev.bind h (Ev.step ?_)
  show Ev (fun k => sp_left_prod_l1_b (tab_sp_bracketed k) p3 x a) _
  unfold sp_left_prod_l1_b
  exact z_left_prod hq a a ha a.length 0 (Nat.zero_add _)

theorem z_left_not (hq : Quiet p3) (a2 a3 : List Str) (hl : a3.length ≤ 1000) : ∀ n j : Nat, j + n = a3.length → Ev (fun k => sp_left_not_l2 k p3 x a2 a3 (a3.length : Int) (j : Int)) (p3, x) := by
  intro n
  induction n with
  | zero =>
    intro j hj
    refine Ev.step (Ev.now fun k => ?_)
    show sp_left_not_l2_b (tab_sp_bracketed k) p3 x a2 a3 (a3.length : Int) (j : Int) = _
    unfold sp_left_not_l2_b
    rw [if_neg (by omega)]
  | succ n ih =>
    intro j hj
    have hlt : j < a3.length := by omega
    refine Ev.step ?_
    show Ev (fun k => sp_left_not_l2_b (tab_sp_bracketed k) p3 x a2 a3 (a3.length : Int) (j : Int)) _
    unfold sp_left_not_l2_b
    simp only [if_pos (show (j : Int) < (a3.length : Int) by omega), idx_nat hlt, Option.bind_some, (hq a3[j]).1, Bool.false_eq_true, if_false, wrap_one (show j < 1000000 by omega)]
    exact ih (j + 1) (by omega)

theorem w_left_not (hq : Quiet p3) {a : List Str} (ha : a.length ≤ 1000) (h : Ev (fun k => sp_not k p) (p3, x)) : Ev (fun k => sp_left_not k p a) (p3, x) := by
  refine Ev.step ?_
  show Ev (fun k => sp_left_not_b (tab_sp_bracketed k) p a) _
  unfold sp_left_not_b
  refine Ev.bind h (Ev.step ?_)
  show Ev (fun k => sp_left_not_l1_b (tab_sp_bracketed k) p3 x a) _
  unfold sp_left_not_l1_b
  exact z_left_not hq a a ha a.length 0 (Nat.zero_add _)

theorem z_left_expr_1 (hq : Quiet p3) (a2 a3 : List Str) (hl : a3.length ≤ 1000) : ∀ n j : Nat, j + n = a3.length → Ev (fun k => sp_left_expr_1_l2 k p3 x a2 a3 (a3.length : Int) (j : Int)) (p3, x) := by
  intro n
  induction n with
  | zero =>
    intro j hj
    refine Ev.step (Ev.now fun k => ?_)
    show sp_left_expr_1_l2_b (tab_sp_bracketed k) p3 x a2 a3 (a3.length : Int) (j : Int) = _
    unfold sp_left_expr_1_l2_b
    rw [if_neg (by omega)]
  | succ n ih =>
    intro j hj
    have hlt : j < a3.length := by omega
    refine Ev.step ?_
    show Ev (fun k => sp_left_expr_1_l2_b (tab_sp_bracketed k) p3 x a2 a3 (a3.length : Int) (j : Int)) _
    unfold sp_left_expr_1_l2_b
    simp only [if_pos (show (j : Int) < (a3.length : Int) by omega), idx_nat hlt, Option.bind_some, (hq a3[j]).1, Bool.false_eq_true, if_false, wrap_one (show j < 1000000 by omega)]
    exact ih (j + 1) (by omega)

theorem w_left_expr_1 (hq : Quiet p3) {a : List Str} (ha : a.length ≤ 1000) (h : Ev (fun k => sp_expr_1 k p) (p3, x)) : Ev (fun k => sp_left_expr_1 k p a) (p3, x) := by
  refine Ev.step ?_
  show Ev (fun k => sp_left_expr_1_b (tab_sp_bracketed k) p a) _
  unfold sp_left_expr_1_b
  refine Ev.bind h (Ev.step ?_)
  show Ev (fun k => sp_left_expr_1_l1_b (tab_sp_bracketed k) p3 x a) _
  unfold sp_left_expr_1_l1_b
  exact z_left_expr_1 hq a a ha a.length 0 (Nat.zero_add _)

theorem w_unary (hm : sp_mark p s_x2d = some (p, false)) (h : Ev (fun k => sp_prim k p) (p3, x)) : Ev (fun k => sp_unary k p) (p3, x) := by
  refine Ev.step ?_
  show Ev (fun k => sp_unary_b (tab_sp_bracketed k) p) _
  unfold sp_unary_b
  simp only [hm, Option.bind_some, Bool.false_eq_true, if_false]
  exact Ev.bind h (Ev.now fun _ => rfl)

theorem w_prod (h : Ev (fun k => sp_left_unary k p [s_x2a, s_x2f, s_x25]) (p3, x)) : Ev (fun k => sp_prod k p) (p3, x) := by
  refine Ev.step ?_
  show Ev (fun k => sp_prod_b (tab_sp_bracketed k) p) _
  unfold sp_prod_b
  exact Ev.bind h (Ev.now fun _ => rfl)

theorem w_sum (h : Ev (fun k => sp_left_prod k p [s_x2b, s_x2d, s_x7cx7c]) (p3, x)) : Ev (fun k => sp_sum k p) (p3, x) := by
  refine Ev.step ?_
  show Ev (fun k => sp_sum_b (tab_sp_bracketed k) p) _
  unfold sp_sum_b
  exact Ev.bind h (Ev.now fun _ => rfl)

theorem w_compared (hq : Quiet p3) (h : Ev (fun k => sp_sum k p) (p3, x)) : Ev (fun k => sp_compared k p) (p3, x) := by
  refine Ev.step ?_
  show Ev (fun k => sp_compared_b (tab_sp_bracketed k) p) _
  unfold sp_compared_b
  refine Ev.bind h ?_
  simp only [(hq s_x3d).2, (hq s_x3cx3e).2, (hq s_x3c).2, (hq s_x3cx3d).2, (hq s_x3e).2, (hq s_x3ex3d).2, (hq s_is).1, (hq s_not).1, (hq s_in).1, Option.bind_some, Bool.false_eq_true, if_false]
  exact Ev.now fun _ => rfl

theorem w_not (hw : sp_word p s_not = some (p, false)) (h : Ev (fun k => sp_compared k p) (p3, x)) : Ev (fun k => sp_not k p) (p3, x) := by
  refine Ev.step ?_
  show Ev (fun k => sp_not_b (tab_sp_bracketed k) p) _
  unfold sp_not_b
  simp only [hw, Option.bind_some, Bool.false_eq_true, if_false]
  exact Ev.bind h (Ev.now fun _ => rfl)

theorem w_expr_1 (h : Ev (fun k => sp_left_not k p [s_and]) (p3, x)) : Ev (fun k => sp_expr_1 k p) (p3, x) := by
  refine Ev.step ?_
  show Ev (fun k => sp_expr_1_b (tab_sp_bracketed k) p) _
  unfold sp_expr_1_b
  exact Ev.bind h (Ev.now fun _ => rfl)

/-- An operand with nothing behind it is the whole expression. -/
theorem w_expr {p0 : Parser} (hen : sp_enter p0 = some (p, true)) (hm : sp_mark p s_x2d = some (p, false)) (hw : sp_word p s_not = some (p, false)) (hq : Quiet p3) (h : Ev (fun k => sp_prim k p) (p3, x)) : Ev (fun k => sp_expr k p0) (up p3, x) := by
  have h1 := w_left_unary (a := [s_x2a, s_x2f, s_x25]) hq (by decide) (w_unary hm h)
  have h2 := w_left_prod (a := [s_x2b, s_x2d, s_x7cx7c]) hq (by decide) (w_prod h1)
  have h3 := w_not hw (w_compared hq (w_sum h2))
  have h4 := w_left_not (a := [s_and]) hq (by decide) h3
  have h5 := w_left_expr_1 (a := [s_or]) hq (by decide) (w_expr_1 h4)
  refine Ev.step ?_
  show Ev (fun k => sp_expr_b (tab_sp_bracketed k) p0) _
  unfold sp_expr_b
  simp only [hen, Option.bind_some, if_true]
  refine Ev.bind h5 ?_
  exact Ev.now fun _ => rfl

theorem Ev.uniq {α : Type} {m : Nat → Option α} {a b : α} (h : Ev m a) (h2 : Ev m b) : a = b := by
  obtain ⟨K, hK⟩ := h
  obtain ⟨K2, hK2⟩ := h2
  exact Option.some.inj ((hK (max K K2) (by omega)).symm.trans (hK2 (max K K2) (by omega)))

/-- An operand in brackets. -/
theorem prim_round {p1 : Parser} {z : Token} (he : p.e = 0) (hz : sp_now p = some z) (hk : z.Kind = 4) (ht : z.Text = s_x28) (hn : sp_next p = some p1) (hs : sp_sees p1 1 s_select = some false) {p2 : Parser} (hx : Ev (fun k => sp_expr k p1) (p2, x)) (hd : sp_need p2 s_x29 = some p3) :
    Ev (fun k => sp_prim k p) (p3, x) := by
  have w : ∀ s, sp_word p s = some (p, false) := fun s => by
    unfold sp_word
    rw [sees_at he hz, decide_eq_false (by rw [hk]; intro h; exact absurd h.1 (by decide)), Option.bind_some, if_neg (by decide)]
  have m1 : sp_mark p s_x3a = some (p, false) := by
    unfold sp_mark
    rw [sees_at he hz, decide_eq_false (by rw [ht]; intro h; exact absurd h.2 (by decide)), Option.bind_some, if_neg (by decide)]
  have m2 : sp_mark p s_x28 = some (p1, true) := by
    unfold sp_mark
    rw [sees_at he hz, decide_eq_true ⟨hk, ht⟩, Option.bind_some, if_pos rfl, hn, Option.bind_some]
  refine Ev.step ?_
  show Ev (fun k => sp_prim_b (tab_sp_bracketed k) p) _
  unfold sp_prim_b
  have k2 : ¬ z.Kind = 2 := by omega
  have k3 : ¬ z.Kind = 3 := by omega
  simp only [if_pos he, hz, Option.bind_some, if_neg k2, if_neg k3, w, m1, m2, Bool.false_eq_true, if_false, if_true]
  refine Ev.bind (a := (p3, x)) (Ev.step ?_) (Ev.now fun _ => rfl)
  show Ev (fun k => sp_round_b (tab_sp_bracketed k) p1) _
  unfold sp_round_b
  simp only [hs, Option.bind_some, Bool.false_eq_true, if_false]
  refine Ev.bind hx ?_
  simp only [hd, Option.bind_some]
  exact Ev.now fun _ => rfl

/-- No expression begins with the word select. -/
theorem prim_select {z : Token} (he : p.e = 0) (hz : sp_now p = some z) (hk : z.Kind = 1) (ht : z.Text = s_select) : ∃ p3 x, p3.e = 10 ∧ Ev (fun k => sp_prim k p) (p3, x) := by
  have w : ∀ s, s ≠ s_select → sp_word p s = some (p, false) := fun s h => by
    unfold sp_word
    rw [sees_at he hz, decide_eq_false (by rw [ht]; intro g; exact h g.2.symm), Option.bind_some, if_neg (by decide)]
  have m : ∀ s, sp_mark p s = some (p, false) := fun s => by
    unfold sp_mark
    rw [sees_at he hz, decide_eq_false (by rw [hk]; intro h; exact absurd h.1 (by decide)), Option.bind_some, if_neg (by decide)]
  let p3 : Parser := ⟨p.t, p.i, p.deep, z.At, 10⟩
  have hf : sp_fail p 10 = some p3 := by
    unfold sp_fail; rw [if_pos he, hz]; rfl
  have hw : token_Word s_select = some true := by
    rw [word_prog]; exact congrArg some (decide_eq_true (by unfold L0 L1 L2 L3; simp))
  have hname : sp_name p = some (p3, []) := by
    unfold sp_name sp_named
    rw [if_pos he, hz, Option.bind_some, if_pos hk, Option.bind_some, ht, hw]
    simp only [Option.bind_some, Bool.not_true, Bool.false_eq_true, if_false, hf]
  have hq : Quiet p3 := quiet_dead (show (10 : Int) ≠ 0 by decide)
  refine ⟨p3, Expr.mk 5 0 [] [] [] [], rfl, Ev.step ?_⟩
  show Ev (fun k => sp_prim_b (tab_sp_bracketed k) p) _
  unfold sp_prim_b
  have k2 : ¬ z.Kind = 2 := by omega
  have k3 : ¬ z.Kind = 3 := by omega
  simp only [if_pos he, hz, Option.bind_some, if_neg k2, if_neg k3, w s_null (by decide), w s_true (by decide), w s_false (by decide), w s_case (by decide), w s_exists (by decide), m, Bool.false_eq_true, if_false]
  refine Ev.bind (a := (p3, Expr.mk 5 0 [] [] [] [])) (Ev.step ?_) (Ev.now fun _ => rfl)
  show Ev (fun k => sp_column_b (tab_sp_bracketed k) p) _
  unfold sp_column_b
  have hg : syntax_gathers [] = some false := by
    unfold syntax_gathers
    rw [if_neg (by decide), if_neg (by decide), if_neg (by decide), if_neg (by decide)]
  simp only [hname, Option.bind_some, hg, Bool.false_eq_true, if_false]
  unfold sp_column_j1_b
  simp only [Bool.false_eq_true, if_false, (hq s_x2e).2, Option.bind_some]
  exact Ev.now fun _ => rfl

end Go.Syn

namespace Go.Syn
open Go.Abs

structure Brk (t u : List Token) : Prop extends Lk t u where
  fin : ∀ (i : Nat) x, t[i]? = some x → x.Kind = 0 → i + 1 = t.length
  begins : ∃ z, u[0]? = some z ∧ z.Kind = 4 ∧ z.Text = s_x28
  ends : ∃ z, u[t.length + 1]? = some z ∧ z.Kind = 0

theorem now_of {p : Parser} {i : Nat} {z : Token} (h : p.i = (i : Int)) (hz : p.t[i]? = some z) : sp_now p = some z := by
  unfold sp_now idx
  rw [h, if_pos (by omega), Int.toNat_natCast, hz]; rfl

theorem parse_round {t u : List Token} (hB : Brk t u) (_ht : Toks t) (hu : Toks u) {p1 : Parser} {x : Expr} (h : Ev (fun k => sp_expr k (Parser.mk t 0 0 0 0)) (p1, x)) (he : p1.e = 0) {z : Token} (hz : sp_now p1 = some z) (hk : z.Kind = 0) :
    ∃ q y, Ev (fun k => sp_expr k (Parser.mk u 0 0 0 0)) (q, y) ∧ (q.e = 9 ∨ (q.e = 0 ∧ y = x ∧ ∃ w, sp_now q = some w ∧ w.Kind = 0)) := by
  have hL : Lk t u := hB.toLk
  have l1 := hL.len
  have l2 := hL.len2
  have l3 := hL.room
  have l4 := hL.ne
  obtain ⟨b, hb, bk, bt⟩ := hB.begins
  have en : ∀ (v : List Token), sp_enter (Parser.mk v 0 0 0 0) = some (Parser.mk v 0 1 0 0, true) := fun v => rfl
  have hv : sp_now (Parser.mk u 0 1 0 0) = some b := now_of (i := 0) rfl hb
  have w2 : IntKind.i64.wrap ((u.length : Int) - 1) = (u.length : Int) - 1 := wrap_eq (by omega) (by omega)
  have hn : sp_next (Parser.mk u 0 1 0 0) = some (Parser.mk u 1 1 0 0) := by
    unfold sp_next
    rw [show (Parser.mk u 0 1 0 0).t = u from rfl, w2, if_pos (by show (0 : Int) < _; omega)]
    rfl
  have hm : sp_mark (Parser.mk u 0 1 0 0) s_x2d = some (Parser.mk u 0 1 0 0, false) := by
    unfold sp_mark
    rw [sees_at rfl hv, decide_eq_false (by rw [bt]; intro g; exact absurd g.2 (by decide)), Option.bind_some, if_neg (by decide)]
  have hw : sp_word (Parser.mk u 0 1 0 0) s_not = some (Parser.mk u 0 1 0 0, false) := by
    unfold sp_word
    rw [sees_at rfl hv, decide_eq_false (by rw [bk]; intro g; exact absurd g.1 (by decide)), Option.bind_some, if_neg (by decide)]
  have hR : Rel t u (Parser.mk t 0 0 0 0) (Parser.mk u 1 1 0 0) := ⟨rfl, rfl, rfl, rfl, Int.le_refl _, by show (0 : Int) < t.length; omega, rfl, rfl⟩
  obtain ⟨a, c, n1, n2, _, _, _⟩ := nows hL hR
  have hs : sp_sees (Parser.mk u 1 1 0 0) 1 s_select = some false := by
    rw [r_sees1 hL hR, sees_at rfl n1]
    refine congrArg some (decide_eq_false fun g => ?_)
    obtain ⟨p3, x3, e3, h3⟩ := prim_select (p := Parser.mk t 0 1 0 0) (z := a) rfl n1 g.1 g.2
    have m1 : sp_mark (Parser.mk t 0 1 0 0) s_x2d = some (Parser.mk t 0 1 0 0, false) := by
      unfold sp_mark
      rw [sees_at (p := Parser.mk t 0 1 0 0) (x := a) rfl n1, decide_eq_false (by rw [g.1]; intro g; exact absurd g.1 (by decide)), Option.bind_some, if_neg (by decide)]
    have m2 : sp_word (Parser.mk t 0 1 0 0) s_not = some (Parser.mk t 0 1 0 0, false) := by
      unfold sp_word
      rw [sees_at (p := Parser.mk t 0 1 0 0) (x := a) rfl n1, decide_eq_false (by rw [g.2]; intro g; exact absurd g.2 (by decide)), Option.bind_some, if_neg (by decide)]
    have := Ev.uniq h (w_expr (en t) m1 m2 (quiet_dead (by rw [e3]; decide)) h3)
    have h1 : p1 = up p3 := congrArg Prod.fst this
    rw [h1] at he
    have : p3.e = 0 := he
    omega
  have hsim : Sim u (Parser.mk u 1 1 0 0) (PT.mk u 1 1 0 0) :=
    ⟨rfl, by show (0 : Int) ≤ 1; omega, by show (1 : Int) < u.length; omega, .inl ⟨rfl, by show (0 : Int) ≤ 1; omega, by show (1 : Int) ≤ 40; omega, rfl⟩⟩
  obtain ⟨r2, y, _, _, g1, _, _⟩ := (all_sim hu (rem u (Parser.mk u 1 1 0 0) + 1)).exprS hsim fun _ => by omega
  have key : r2.e = 9 ∨ (Rel t u p1 r2 ∧ y = x) := by
    obtain ⟨K, hK⟩ := h
    obtain ⟨K2, hK2⟩ := g1
    exact (rt hL K K2).sp_expr _ _ hR _ _ (hK K (Nat.le_refl _)) (hK2 K2 (Nat.le_refl _)) he
  rcases key with h9 | ⟨hR2, rfl⟩
  · have hd : r2.e ≠ 0 := by rw [h9]; decide
    have hneed : sp_need r2 s_x29 = some r2 := by
      unfold sp_need
      rw [(quiet_dead hd s_x29).2, Option.bind_some]
      simp only [Bool.false_eq_true, if_false]
      unfold sp_fail
      rw [if_neg hd]; rfl
    exact ⟨up r2, y, w_expr (en u) hm hw (quiet_dead hd) (prim_round rfl hv bk bt hn hs g1 hneed), .inl h9⟩
  · obtain ⟨a2, c2, n3, n4, n5, _, d2⟩ := nows hL hR2
    obtain rfl := Option.some.inj (hz.symm.trans n3)
    have hi := hB.fin _ _ n5 hk
    have i0 := hR2.i0
    have i2 := hR2.i2
    rcases d2 with ⟨d, _⟩ | ⟨_, d3, d4⟩
    · exact absurd hk d
    let r3 : Parser := ⟨r2.t, r2.i + 1, r2.deep, r2.at_, r2.e⟩
    have hnx : sp_next r2 = some r3 := by
      unfold sp_next
      rw [hR2.t2, w2, if_pos (by omega), wrap_eq (by omega) (by omega), ← hR2.t2]
    have hneed : sp_need r2 s_x29 = some r3 := by
      unfold sp_need sp_mark
      rw [sees_at hR2.e2 n4, decide_eq_true ⟨d3, d4⟩, Option.bind_some, if_pos rfl, hnx]
      rfl
    obtain ⟨w, hw1, hw2⟩ := hB.ends
    have hwn : sp_now r3 = some w := now_of (i := t.length + 1) (by show r2.i + 1 = _; omega) (by show r2.t[_]? = _; rw [hR2.t2]; exact hw1)
    exact ⟨up r3, y, w_expr (en u) hm hw (quiet_end (show r2.e = 0 from hR2.e2) hwn hw2) (prim_round rfl hv bk bt hn hs g1 hneed), .inr ⟨hR2.e2, rfl, w, hwn, hw2⟩⟩

end Go.Syn
