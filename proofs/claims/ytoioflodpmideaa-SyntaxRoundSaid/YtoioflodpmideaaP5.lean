/- Plain laws of the two parsers: what is not put together; signs, products, sums. -/
import Derived.Test.YtoioflodpmideaaP4
namespace Go.Syn
open Go.Abs

variable {t : List Token} {p : Parser} {q : PT} {n : Nat}

theorem Ev.k128 {α β : Type} {f : Nat → α → Option β} {x : α} {r : β} (h : Ev (fun k => f k x) r) : Ev (fun k => f (tab_r06_P_Expr k).k x) r := by
  obtain ⟨K, hK⟩ := h
  refine ⟨K, fun k hk => ?_⟩
  have : (tab_r06_P_Expr k).k = k := by cases k <;> rfl
  show f (tab_r06_P_Expr k).k x = _
  rw [this]; exact hK k hk

theorem Ev.same {α : Type} {m m' : Nat → Option α} {r : α} (h : Ev m r) (e : ∀ k, m' k = m k) : Ev m' r := by
  obtain ⟨K, hK⟩ := h
  exact ⟨K, fun k hk => by rw [e k]; exact hK k hk⟩

theorem prim_sim (ht : Toks t) (ih : IH t n) (h : Sim t p q) (he : p.e = 0) (hn : rem t p ≤ n) : Duo t 1 sp_prim r06_P_prim p q := by
  obtain ⟨x, hx1, hx2, hx3⟩ := now_some h
  obtain ⟨h1, h2, h3, h8, h9, h10⟩ := h.live he
  have hx : idx t p.i = some x := by rw [h1] at hx2; exact hx2
  have hE : q.E = 0 := by rw [h.e]; exact he
  have hqx : idx q.T q.I = some x := by rw [h2]; exact hx
  have hqp : idx q.T p.i = some x := by rw [h2]; exact hx
  by_cases hk2 : x.Kind = 2
  · obtain ⟨g1, g2, g3⟩ := go_on ht h he hx3 (by rw [hk2]; decide)
    refine ⟨_, Expr.mk 3 x.N [] [] [] [], ⟨q.T, p.i + 1, q.Deep, q.At, q.E⟩, Expr.mk 3 x.N [] [] [] [], Ev.step (Ev.now fun k => ?_), Ev.step (Ev.now fun k => ?_), g3, fun _ => ⟨he, rfl, rfl, by show p.i + 1 ≤ p.i + 1; omega⟩⟩
    rotate_left
    · show r06_P_prim_b (tab_r06_P_Expr k) q = _
      unfold r06_P_prim_b
      simp only [if_pos hE, show q.I = p.i by rw [h2], hqp, Option.bind_some, if_pos hk2, g2]
    · show sp_prim_b (tab_sp_bracketed k) p = _
      unfold sp_prim_b
      simp only [if_pos he, hx1, Option.bind_some, if_pos hk2, g1]
  by_cases hk3 : x.Kind = 3
  · obtain ⟨g1, g2, g3⟩ := go_on ht h he hx3 (by rw [hk3]; decide)
    refine ⟨_, Expr.mk 4 0 x.Text [] [] [], ⟨q.T, p.i + 1, q.Deep, q.At, q.E⟩, Expr.mk 4 0 x.Text [] [] [], Ev.step (Ev.now fun k => ?_), Ev.step (Ev.now fun k => ?_), g3, fun _ => ⟨he, rfl, rfl, by show p.i + 1 ≤ p.i + 1; omega⟩⟩
    rotate_left
    · show r06_P_prim_b (tab_r06_P_Expr k) q = _
      unfold r06_P_prim_b
      simp only [if_pos hE, show q.I = p.i by rw [h2], hqp, Option.bind_some, if_neg hk2, if_pos hk3, g2]
    · show sp_prim_b (tab_sp_bracketed k) p = _
      unfold sp_prim_b
      simp only [if_pos he, hx1, Option.bind_some, if_neg hk2, if_pos hk3, g1]
  -- null
  obtain ⟨p0, q0, c0, a0, b0, _, _, k0⟩ := word_take ht h (s := s_null) ⟨_, _, rfl, by decide⟩
  cases c0 with
  | true =>
    obtain ⟨t0, _, _⟩ := (At.refl h).took k0
    refine ⟨p0, Expr.mk 1 0 [] [] [] [], q0, Expr.mk 1 0 [] [] [] [], Ev.step (Ev.now fun k => ?_), Ev.step (Ev.now fun k => ?_), t0.stp (by decide) fun _ => rfl⟩
    · show sp_prim_b (tab_sp_bracketed k) p = _
      unfold sp_prim_b
      simp only [if_pos he, hx1, Option.bind_some, if_neg hk2, if_neg hk3, a0, if_true]
    · show r06_P_prim_b (tab_r06_P_Expr k) q = _
      unfold r06_P_prim_b
      simp only [if_pos hE, hqx, Option.bind_some, if_neg hk2, if_neg hk3, b0, if_true]
  | false =>
  obtain ⟨e1, e2⟩ := k0.f
  rw [e1] at a0; rw [e2] at b0; clear e1 e2 k0
  -- true
  obtain ⟨p1, q1, c1, a1, b1, _, _, k1⟩ := word_take ht h (s := s_true) ⟨_, _, rfl, by decide⟩
  cases c1 with
  | true =>
    obtain ⟨t1, _, _⟩ := (At.refl h).took k1
    refine ⟨p1, Expr.mk 2 1 [] [] [] [], q1, Expr.mk 2 1 [] [] [] [], Ev.step (Ev.now fun k => ?_), Ev.step (Ev.now fun k => ?_), t1.stp (by decide) fun _ => rfl⟩
    · show sp_prim_b (tab_sp_bracketed k) p = _
      unfold sp_prim_b
      simp only [if_pos he, hx1, Option.bind_some, if_neg hk2, if_neg hk3, Bool.false_eq_true, if_false, a0, a1, if_true]
    · show r06_P_prim_b (tab_r06_P_Expr k) q = _
      unfold r06_P_prim_b
      simp only [if_pos hE, hqx, Option.bind_some, if_neg hk2, if_neg hk3, Bool.false_eq_true, if_false, b0, b1, if_true]
  | false =>
  obtain ⟨e1, e2⟩ := k1.f
  rw [e1] at a1; rw [e2] at b1; clear e1 e2 k1
  -- false
  obtain ⟨p2, q2, c2, a2, b2, _, _, k2⟩ := word_take ht h (s := s_false) ⟨_, _, rfl, by decide⟩
  cases c2 with
  | true =>
    obtain ⟨t2, _, _⟩ := (At.refl h).took k2
    refine ⟨p2, Expr.mk 2 0 [] [] [] [], q2, Expr.mk 2 0 [] [] [] [], Ev.step (Ev.now fun k => ?_), Ev.step (Ev.now fun k => ?_), t2.stp (by decide) fun _ => rfl⟩
    · show sp_prim_b (tab_sp_bracketed k) p = _
      unfold sp_prim_b
      simp only [if_pos he, hx1, Option.bind_some, if_neg hk2, if_neg hk3, Bool.false_eq_true, if_false, a0, a1, a2, if_true]
    · show r06_P_prim_b (tab_r06_P_Expr k) q = _
      unfold r06_P_prim_b
      simp only [if_pos hE, hqx, Option.bind_some, if_neg hk2, if_neg hk3, Bool.false_eq_true, if_false, b0, b1, b2, if_true]
  | false =>
  obtain ⟨e1, e2⟩ := k2.f
  rw [e1] at a2; rw [e2] at b2; clear e1 e2 k2
  -- x3a
  obtain ⟨p3, q3, c3, a3, b3, _, _, k3⟩ := mark_take ht h (s := s_x3a) ⟨_, _, rfl, by decide⟩
  cases c3 with
  | true =>
    obtain ⟨t3, _, _⟩ := (At.refl h).took k3
    obtain ⟨p9, q9, x9, y9, a9, b9, s9, rfl⟩ := name_sim ht t3.sim
    refine ⟨p9, Expr.mk 6 0 x9 [] [] [], q9, Expr.mk 6 0 x9 [] [] [], Ev.step ?_, Ev.step ?_, (t3.step s9).stp (by decide) fun _ => rfl⟩
    · show Ev (fun k => sp_prim_b (tab_sp_bracketed k) p) _
      unfold sp_prim_b
      simp only [if_pos he, hx1, Option.bind_some, if_neg hk2, if_neg hk3, Bool.false_eq_true, if_false, a0, a1, a2, a3, if_true, a9]
      exact Ev.now fun _ => rfl
    · show Ev (fun k => r06_P_prim_b (tab_r06_P_Expr k) q) _
      unfold r06_P_prim_b
      simp only [if_pos hE, hqx, Option.bind_some, if_neg hk2, if_neg hk3, Bool.false_eq_true, if_false, b0, b1, b2, b3, if_true]
      exact Ev.bind (Ev.k128 (f := r06_P_name) b9) (Ev.now fun _ => rfl)
  | false =>
  obtain ⟨e1, e2⟩ := k3.f
  rw [e1] at a3; rw [e2] at b3; clear e1 e2 k3
  -- case
  obtain ⟨p4, q4, c4, a4, b4, _, _, k4⟩ := word_take ht h (s := s_case) ⟨_, _, rfl, by decide⟩
  cases c4 with
  | true =>
    obtain ⟨t4, _, _⟩ := (At.refl h).took k4
    obtain ⟨p9, x9, q9, y9, a9, b9, s9⟩ := cases_sim ht ih t4.sim fun he9 => Nat.le_of_lt (At.rem h hn t4 (by decide) he9)
    refine ⟨p9, x9, q9, y9, Ev.step ?_, Ev.step ?_, (t4.step s9).stp (by decide) fun he9 => (s9.live he9).2.1⟩
    · show Ev (fun k => sp_prim_b (tab_sp_bracketed k) p) _
      unfold sp_prim_b
      simp only [if_pos he, hx1, Option.bind_some, if_neg hk2, if_neg hk3, Bool.false_eq_true, if_false, a0, a1, a2, a3, a4, if_true]
      exact Ev.bind a9 (Ev.now fun _ => rfl)
    · show Ev (fun k => r06_P_prim_b (tab_r06_P_Expr k) q) _
      unfold r06_P_prim_b
      simp only [if_pos hE, hqx, Option.bind_some, if_neg hk2, if_neg hk3, Bool.false_eq_true, if_false, b0, b1, b2, b3, b4, if_true]
      exact b9
  | false =>
  obtain ⟨e1, e2⟩ := k4.f
  rw [e1] at a4; rw [e2] at b4; clear e1 e2 k4
  -- exists
  obtain ⟨p5, q5, c5, a5, b5, _, _, k5⟩ := word_take ht h (s := s_exists) ⟨_, _, rfl, by decide⟩
  cases c5 with
  | true =>
    obtain ⟨t5, _, _⟩ := (At.refl h).took k5
    obtain ⟨p9, x9, q9, y9, a9, b9, s9⟩ := bracketed_sim ht ih t5.sim fun he9 => Nat.le_of_lt (At.rem h hn t5 (by decide) he9)
    refine ⟨p9, Expr.mk 12 0 [] [] [] [x9], q9, Expr.mk 12 0 [] [] [] [y9], Ev.step ?_, Ev.step ?_, (t5.step s9).stp (by decide) fun he9 => by rw [(s9.live he9).2.1]⟩
    · show Ev (fun k => sp_prim_b (tab_sp_bracketed k) p) _
      unfold sp_prim_b
      simp only [if_pos he, hx1, Option.bind_some, if_neg hk2, if_neg hk3, Bool.false_eq_true, if_false, a0, a1, a2, a3, a4, a5, if_true]
      exact Ev.bind a9 (Ev.now fun _ => rfl)
    · show Ev (fun k => r06_P_prim_b (tab_r06_P_Expr k) q) _
      unfold r06_P_prim_b
      simp only [if_pos hE, hqx, Option.bind_some, if_neg hk2, if_neg hk3, Bool.false_eq_true, if_false, b0, b1, b2, b3, b4, b5, if_true]
      refine Ev.same (m := fun k => (rBr k q5).bind fun (r1, r2) => some (r1, Expr.mk 12 0 [] [] [] [r2])) (Ev.bind b9 (Ev.now fun _ => rfl)) fun k => ?_
      unfold rBr
      simp only [Option.bind_assoc]
      congr 1
  | false =>
  obtain ⟨e1, e2⟩ := k5.f
  rw [e1] at a5; rw [e2] at b5; clear e1 e2 k5
  -- x28
  obtain ⟨p6, q6, c6, a6, b6, _, _, k6⟩ := mark_take ht h (s := s_x28) ⟨_, _, rfl, by decide⟩
  cases c6 with
  | true =>
    obtain ⟨t6, _, _⟩ := (At.refl h).took k6
    obtain ⟨p9, x9, q9, y9, a9, b9, s9⟩ := round_sim ht ih t6.sim fun he9 => At.rem h hn t6 (by decide) he9
    refine ⟨p9, x9, q9, y9, Ev.step ?_, Ev.step ?_, (t6.step s9).stp (by decide) fun he9 => (s9.live he9).2.1⟩
    · show Ev (fun k => sp_prim_b (tab_sp_bracketed k) p) _
      unfold sp_prim_b
      simp only [if_pos he, hx1, Option.bind_some, if_neg hk2, if_neg hk3, Bool.false_eq_true, if_false, a0, a1, a2, a3, a4, a5, a6, if_true]
      exact Ev.bind a9 (Ev.now fun _ => rfl)
    · show Ev (fun k => r06_P_prim_b (tab_r06_P_Expr k) q) _
      unfold r06_P_prim_b
      simp only [if_pos hE, hqx, Option.bind_some, if_neg hk2, if_neg hk3, Bool.false_eq_true, if_false, b0, b1, b2, b3, b4, b5, b6, if_true]
      exact b9
  | false =>
  obtain ⟨e1, e2⟩ := k6.f
  rw [e1] at a6; rw [e2] at b6; clear e1 e2 k6
  -- a column
  obtain ⟨p9, x9, q9, y9, a9, b9, s9⟩ := column_sim ht ih h fun _ => hn
  refine ⟨p9, x9, q9, y9, Ev.step ?_, Ev.step ?_, s9⟩
  · show Ev (fun k => sp_prim_b (tab_sp_bracketed k) p) _
    unfold sp_prim_b
    simp only [if_pos he, hx1, Option.bind_some, if_neg hk2, if_neg hk3, Bool.false_eq_true, if_false, a0, a1, a2, a3, a4, a5, a6]
    exact Ev.bind a9 (Ev.now fun _ => rfl)
  · show Ev (fun k => r06_P_prim_b (tab_r06_P_Expr k) q) _
    unfold r06_P_prim_b
    simp only [if_pos hE, hqx, Option.bind_some, if_neg hk2, if_neg hk3, Bool.false_eq_true, if_false, b0, b1, b2, b3, b4, b5, b6]
    refine Ev.same b9 fun k => ?_
    unfold rCol
    have hk : (tab_r06_P_Expr k).k = k := by cases k <;> rfl
    rw [hk]

end Go.Syn
