/- Plain laws of the two parsers: lists, sources. -/
import Derived.Test.YtoioflodpmideaaP7
namespace Go.Syn
open Go.Abs

variable {t : List Token} {p : Parser} {q : PT} {n : Nat}

theorem cap_ok {α : Type} (b : Nat) (hb : b ≤ 1000) (l : List α) (x : α) (h : l.length ≤ 1000000) : CapOk b l [x] := by
  unfold CapOk maxLen
  simp only [List.length_cons, List.length_nil]
  refine ⟨by omega, ?_⟩
  calc (l.length + 1) * b ≤ 1000001 * 1000 := Nat.mul_le_mul (by omega) hb
    _ ≤ 140737488355328 := by decide

theorem single_sim (ht : Toks t) (ih : IH t n) (h : Sim t p q) (hn : p.e = 0 → rem t p ≤ n) : Duo t 1 sp_single r06_P_one p q := by
  obtain ⟨p1, q1, b, a1, b1, _, _, k1⟩ := mark_take ht h (s := s_x28) ⟨_, _, rfl, by decide⟩
  cases b with
  | true =>
    obtain ⟨t1, e0, e1⟩ := (At.refl h).took k1
    obtain ⟨p2, x2, q2, y2, a2, b2, s2⟩ := ih.queryS t1.sim fun he => At.rem h (hn e0) t1 (by decide) he
    have t2 := t1.step s2
    obtain ⟨p3, q3, a3, b3, s3⟩ := need_sim ht t2.sim (s := s_x29) ⟨_, _, rfl, by decide⟩
    have t3 := t2.step s3
    obtain ⟨p4, q4, a4, b4, s4⟩ := must_sim ht t3.sim (s := s_as) ⟨_, _, rfl, by decide⟩
    have t4 := t3.step s4
    obtain ⟨p5, q5, x5, y5, a5, b5, s5, rfl⟩ := name_sim ht t4.sim
    have t5 := t4.step s5
    refine ⟨p5, From.mk 2 [] false x5 [x2] [] [], q5, From.mk 2 [] false x5 [y2] [] [], Ev.step ?_, Ev.step ?_, t5.stp (by decide) fun he => by rw [(s2.live (s3.live (s4.live (s5.live he).1).1).1).2.1]⟩
    · show Ev (fun k => sp_single_b (tab_sp_bracketed k) p) _
      unfold sp_single_b
      simp only [a1, Option.bind_some, if_true]
      refine Ev.bind a2 ?_
      simp only [a3, a4, a5, Option.bind_some]
      exact Ev.now fun _ => rfl
    · show Ev (fun k => r06_P_one_b (tab_r06_P_Expr k) q) _
      unfold r06_P_one_b
      simp only [b1, Option.bind_some, if_true]
      refine Ev.bind b2 ?_
      simp only [b3, b4, Option.bind_some]
      exact Ev.bind (Ev.k128 (f := r06_P_name) b5) (Ev.now fun _ => rfl)
  | false =>
    obtain ⟨z1, z2⟩ := k1.f
    rw [z1] at a1; rw [z2] at b1
    obtain ⟨p2, q2, x2, y2, a2, b2, s2, rfl⟩ := name_sim ht h
    have t2 := (At.refl h).step s2
    obtain ⟨p3, q3, b3', a3, b3, _, _, k3⟩ := word_take ht t2.sim (s := s_visible) ⟨_, _, rfl, by decide⟩
    have t3 : At t p 1 p3 q3 := by
      cases b3' with
      | true => exact ⟨(t2.took k3).1.sim, fun he => by obtain ⟨u1, u2, u3⟩ := (t2.took k3).1.adv he; exact ⟨u1, u2, by omega⟩⟩
      | false => obtain ⟨rfl, rfl⟩ := k3.f; exact ⟨t2.sim, fun he => by obtain ⟨u1, u2, u3⟩ := t2.adv he; exact ⟨u1, u2, by omega⟩⟩
    obtain ⟨p4, q4, b4', a4, b4, _, _, k4⟩ := word_take ht t3.sim (s := s_as) ⟨_, _, rfl, by decide⟩
    cases b4' with
    | true =>
      obtain ⟨t4, _, _⟩ := t3.took k4
      obtain ⟨p5, q5, x5, y5, a5, b5, s5, rfl⟩ := name_sim ht t4.sim
      refine ⟨p5, From.mk 1 x2 b3' x5 [] [] [], q5, From.mk 1 x2 b3' x5 [] [] [], Ev.step ?_, Ev.step ?_, (t4.step s5).stp (by decide) fun _ => rfl⟩
      · show Ev (fun k => sp_single_b (tab_sp_bracketed k) p) _
        unfold sp_single_b
        simp only [a1, a2, a3, a4, a5, Option.bind_some, if_true, Bool.false_eq_true, if_false]
        exact Ev.now fun _ => rfl
      · show Ev (fun k => r06_P_one_b (tab_r06_P_Expr k) q) _
        unfold r06_P_one_b
        simp only [b1, Option.bind_some, Bool.false_eq_true, if_false]
        refine Ev.bind (Ev.k128 (f := r06_P_name) b2) ?_
        simp only [b3, b4, Option.bind_some, if_true]
        exact Ev.bind (Ev.k128 (f := r06_P_name) b5) (Ev.now fun _ => rfl)
    | false =>
      obtain ⟨z3, z4⟩ := k4.f
      rw [z3] at a4; rw [z4] at b4
      refine ⟨p3, From.mk 1 x2 b3' x2 [] [] [], q3, From.mk 1 x2 b3' x2 [] [] [], Ev.step ?_, Ev.step ?_, t3.stp (by decide) fun _ => rfl⟩
      · show Ev (fun k => sp_single_b (tab_sp_bracketed k) p) _
        unfold sp_single_b
        simp only [a1, a2, a3, a4, Option.bind_some, Bool.false_eq_true, if_false]
        exact Ev.now fun _ => rfl
      · show Ev (fun k => r06_P_one_b (tab_r06_P_Expr k) q) _
        unfold r06_P_one_b
        simp only [b1, Option.bind_some, Bool.false_eq_true, if_false]
        refine Ev.bind (Ev.k128 (f := r06_P_name) b2) ?_
        simp only [b3, b4, Option.bind_some, Bool.false_eq_true, if_false]
        exact Ev.now fun _ => rfl

/-- What is joined: behind the words. -/
theorem joined_sim (ht : Toks t) (ih : IH t n) (h : Sim t p q) (hn : p.e = 0 → rem t p < n) (x y : From) (hv : p.e = 0 → y = x) (kind : Int) : ∃ p' x' q' y',
    (∀ r, Ev (fun k => sp_source_l1 k p' x') r → Ev (fun k => (sp_single k p).bind fun a => (sp_must a.1 s_on).bind fun b => (sp_expr k b).bind fun c => sp_source_l1 k c.1 (From.mk kind [] false [] [] [x, a.2] [c.2])) r) ∧
    (∀ r, Ev (fun k => r06_P_src_l1 k q' y') r → Ev (fun k => (r06_P_one k q).bind fun a => (r06_P_must a.1 s_on).bind fun b => (r06_P_Expr k b).bind fun c => r06_P_src_l1 k c.1 (From.mk kind [] false [] [] [y, a.2] [c.2])) r) ∧ Stp t 1 p p' x' q' y' := by
  obtain ⟨p1, x1, q1, y1, a1, b1, s1⟩ := single_sim ht ih h fun he => Nat.le_of_lt (hn he)
  have t1 := (At.refl h).step s1
  obtain ⟨p2, q2, a2, b2, s2⟩ := must_sim ht t1.sim (s := s_on) ⟨_, _, rfl, by decide⟩
  have t2 := t1.step s2
  obtain ⟨p3, x3, q3, y3, a3, b3, s3⟩ := ih.exprS t2.sim fun he => At.rem h (Nat.le_of_lt (hn (t2.adv he).1)) t2 (by decide) he
  have t3 := t2.step s3
  refine ⟨p3, From.mk kind [] false [] [] [x, x1] [x3], q3, From.mk kind [] false [] [] [y, y1] [y3], fun r hr => ?_, fun r hr => ?_, t3.stp (by decide) fun he => ?_⟩
  · refine Ev.bind a1 ?_
    simp only [a2, Option.bind_some]
    exact Ev.bind a3 hr
  · refine Ev.bind b1 ?_
    simp only [b2, Option.bind_some]
    exact Ev.bind b3 hr
  · obtain ⟨e2, v3, _⟩ := s3.live he
    obtain ⟨e1, _⟩ := s2.live e2
    obtain ⟨e0, v1, _⟩ := s1.live e1
    rw [v3, v1, hv e0]

theorem loop_source (ht : Toks t) (ih : IH t n) : ∀ N p q x y, Sim t p q → rem t p ≤ N → N ≤ n → (p.e = 0 → y = x) →
    ∃ p' x' q' y', Ev (fun k => sp_source_l1 k p x) (p', x') ∧ Ev (fun k => r06_P_src_l1 k q y) (q', y') ∧ Stp t 0 p p' x' q' y' := by
  intro N
  induction N with
  | zero =>
    intro p q x y h hr hN hv
    have he : p.e ≠ 0 := fun he => by have := rem_live h he; omega
    refine ⟨p, x, q, y, Ev.step (Ev.now fun k => ?_), Ev.step (Ev.now fun k => ?_), h, fun h => absurd h he⟩
    · show sp_source_l1_b (tab_sp_bracketed k) p x = _
      unfold sp_source_l1_b
      rw [if_neg he]
    · show r06_P_src_l1_b (tab_r06_P_Expr k) q y = _
      unfold r06_P_src_l1_b r06_P_src_j2_b
      rw [if_neg (show ¬ q.E = 0 by rw [h.e]; exact he)]
      rfl
  | succ N ihN =>
    intro p q x y h hr hN hv
    by_cases he : p.e = 0
    rotate_left
    · refine ⟨p, x, q, y, Ev.step (Ev.now fun k => ?_), Ev.step (Ev.now fun k => ?_), h, fun h => absurd h he⟩
      · show sp_source_l1_b (tab_sp_bracketed k) p x = _
        unfold sp_source_l1_b
        rw [if_neg he]
      · show r06_P_src_l1_b (tab_r06_P_Expr k) q y = _
        unfold r06_P_src_l1_b r06_P_src_j2_b
        rw [if_neg (show ¬ q.E = 0 by rw [h.e]; exact he)]
        rfl
    have hE : q.E = 0 := by rw [h.e]; exact he
    obtain ⟨p1, q1, c1, a1, b1, _, i1, k1⟩ := word_take ht h (s := s_left) ⟨_, _, rfl, by decide⟩
    cases c1 with
    | true =>
      obtain ⟨t1, _, e1⟩ := (At.refl h).took k1
      obtain ⟨p2, q2, a2, b2, s2⟩ := must_sim ht t1.sim (s := s_join) ⟨_, _, rfl, by decide⟩
      have t2 := t1.step s2
      obtain ⟨p3, x3, q3, y3, f3, g3, s3⟩ := joined_sim ht ih t2.sim (fun he => At.rem h (by omega) t2 (by decide) he) x y (fun _ => hv he) 4
      have t3 := t2.step s3
      have r3 : rem t p3 ≤ N := by
        by_cases e3 : p3.e = 0
        · have := At.rem (n := N + 1) h hr t3 (by decide) e3; omega
        · rw [rem_dead e3]; omega
      obtain ⟨p', x', q', y', a', b', s'⟩ := ihN p3 q3 x3 y3 s3.sim r3 (by omega) fun he => (s3.live he).2.1
      refine ⟨p', x', q', y', Ev.step ?_, Ev.step ?_, (t3.step s').stp (by decide) fun he => (s'.live he).2.1⟩
      · show Ev (fun k => sp_source_l1_b (tab_sp_bracketed k) p x) _
        unfold sp_source_l1_b
        simp only [if_pos he, a1, Option.bind_some, if_true, a2]
        unfold sp_source_j2_b
        simp only [if_neg (show ¬ (4 : Int) = 0 by decide)]
        exact f3 _ a'
      · show Ev (fun k => r06_P_src_l1_b (tab_r06_P_Expr k) q y) _
        unfold r06_P_src_l1_b
        simp only [if_pos hE, i1, Option.bind_some, if_true]
        unfold r06_P_src_j2_b
        simp only [if_true, b1, Option.bind_some]
        unfold r06_P_src_j3_b
        simp only [b2, Option.bind_some]
        exact g3 _ b'
    | false =>
    obtain ⟨z1, z2⟩ := k1.f
    rw [z1] at a1; rw [z2] at b1; clear k1 z1 z2
    obtain ⟨p2, q2, c2, a2, b2, _, i2, k2⟩ := word_take ht h (s := s_join) ⟨_, _, rfl, by decide⟩
    cases c2 with
    | true =>
      obtain ⟨t2, _, e2⟩ := (At.refl h).took k2
      obtain ⟨p3, x3, q3, y3, f3, g3, s3⟩ := joined_sim ht ih t2.sim (fun he => At.rem h (by omega) t2 (by decide) he) x y (fun _ => hv he) 3
      have t3 := t2.step s3
      have r3 : rem t p3 ≤ N := by
        by_cases e3 : p3.e = 0
        · have := At.rem (n := N + 1) h hr t3 (by decide) e3; omega
        · rw [rem_dead e3]; omega
      obtain ⟨p', x', q', y', a', b', s'⟩ := ihN p3 q3 x3 y3 s3.sim r3 (by omega) fun he => (s3.live he).2.1
      refine ⟨p', x', q', y', Ev.step ?_, Ev.step ?_, (t3.step s').stp (by decide) fun he => (s'.live he).2.1⟩
      · show Ev (fun k => sp_source_l1_b (tab_sp_bracketed k) p x) _
        unfold sp_source_l1_b
        simp only [if_pos he, a1, Option.bind_some, Bool.false_eq_true, if_false, a2, if_true]
        unfold sp_source_j2_b
        simp only [if_neg (show ¬ (3 : Int) = 0 by decide)]
        exact f3 _ a'
      · show Ev (fun k => r06_P_src_l1_b (tab_r06_P_Expr k) q y) _
        unfold r06_P_src_l1_b
        simp only [if_pos hE, i1, i2, Option.bind_some, Bool.false_eq_true, if_false]
        unfold r06_P_src_j2_b
        simp only [if_true, b1, Option.bind_some, Bool.false_eq_true, if_false]
        unfold r06_P_src_j3_b
        simp only [must_of_take b2, Option.bind_some]
        exact g3 _ b'
    | false =>
      obtain ⟨z1, z2⟩ := k2.f
      rw [z1] at a2; rw [z2] at b2
      refine ⟨p, x, q, y, Ev.step (Ev.now fun k => ?_), Ev.step (Ev.now fun k => ?_), h, fun _ => ⟨he, hv he, rfl, by omega⟩⟩
      · show sp_source_l1_b (tab_sp_bracketed k) p x = _
        unfold sp_source_l1_b
        simp only [if_pos he, a1, Option.bind_some, Bool.false_eq_true, if_false, a2]
        rfl
      · show r06_P_src_l1_b (tab_r06_P_Expr k) q y = _
        unfold r06_P_src_l1_b
        simp only [if_pos hE, i1, i2, Option.bind_some, Bool.false_eq_true, if_false]
        rfl

theorem source_sim (ht : Toks t) (ih : IH t n) (h : Sim t p q) (hn : p.e = 0 → rem t p ≤ n) : Duo t 1 sp_source r06_P_src p q := by
  obtain ⟨p1, x1, q1, y1, a1, b1, s1⟩ := single_sim ht ih h hn
  have r1 : rem t p1 ≤ n := by
    by_cases e : p1.e = 0
    · have := s1.rem_le h (by decide); have := hn (s1.live e).1; omega
    · rw [rem_dead e]; omega
  obtain ⟨p', x', q', y', a', b', s'⟩ := loop_source ht ih n p1 q1 x1 y1 s1.sim r1 (by omega) fun he => (s1.live he).2.1
  have t2 := ((At.refl h).step s1).step s'
  refine ⟨p', x', q', y', Ev.step ?_, Ev.step ?_, t2.stp (by decide) fun he => (s'.live he).2.1⟩
  · show Ev (fun k => sp_source_b (tab_sp_bracketed k) p) _
    unfold sp_source_b
    exact Ev.bind a1 a'
  · show Ev (fun k => r06_P_src_b (tab_r06_P_Expr k) q) _
    unfold r06_P_src_b
    exact Ev.bind b1 b'

/- Lists: of expressions. -/
theorem loop_exprs (ht : Toks t) (ih : IH t n) : ∀ N p q (x y : List Expr), Sim t p q → rem t p ≤ N → N ≤ n → (p.e = 0 → y = x) → y.length = x.length → (p.e = 0 → (x.length : Int) ≤ p.i + 1) →
    ∃ p' x' q' y', Ev (fun k => syntax_list_r_2_l1 k p x) (p', x') ∧ Ev (fun k => r06_P_exprs_l1 k q y) (q', y') ∧ Stp t 0 p p' x' q' y' := by
  have stop : ∀ p q (x y : List Expr), Sim t p q → sp_mark p s_x2c = some (p, false) → r06_P_take q s_x2c = some (q, false) → Ev (fun k => syntax_list_r_2_l1 k p x) (p, x) ∧ Ev (fun k => r06_P_exprs_l1 k q y) (q, y) := by
    intro p q x y h a1 b1
    refine ⟨Ev.step (Ev.now fun k => ?_), Ev.step (Ev.now fun k => ?_)⟩
    · show syntax_list_r_2_l1_b (tab_sp_bracketed k) p x = _
      unfold syntax_list_r_2_l1_b
      rw [a1]; rfl
    · show r06_P_exprs_l1_b (tab_r06_P_Expr k) q y = _
      unfold r06_P_exprs_l1_b
      rw [b1]; rfl
  intro N
  induction N with
  | zero =>
    intro p q x y h hr hN hv _ _
    have he : p.e ≠ 0 := fun he => by have := rem_live h he; omega
    obtain ⟨p1, q1, c1, a1, b1, _, i1, k1⟩ := mark_take ht h (s := s_x2c) ⟨_, _, rfl, by decide⟩
    rcases k1 with ⟨rfl, rfl, rfl⟩ | ⟨_, e, _⟩
    · obtain ⟨u, v⟩ := stop p1 q1 x y h a1 b1
      exact ⟨p1, x, q1, y, u, v, h, fun h => absurd h he⟩
    · exact absurd e he
  | succ N ihN =>
    intro p q x y h hr hN hv hl hb
    obtain ⟨p1, q1, c1, a1, b1, _, i1, k1⟩ := mark_take ht h (s := s_x2c) ⟨_, _, rfl, by decide⟩
    cases c1 with
    | false =>
      obtain ⟨rfl, rfl⟩ := k1.f
      obtain ⟨u, v⟩ := stop p1 q1 x y h a1 b1
      exact ⟨p1, x, q1, y, u, v, h, fun he => ⟨he, hv he, rfl, by omega⟩⟩
    | true =>
      obtain ⟨t1, e0, e1⟩ := (At.refl h).took k1
      obtain ⟨p2, x2, q2, y2, a2, b2, s2⟩ := ih.exprS t1.sim fun he => At.rem h (by omega) t1 (by decide) he
      have t2 := t1.step s2
      have r2 : rem t p2 ≤ N := by
        by_cases e3 : p2.e = 0
        · have := At.rem (n := N + 1) h hr t2 (by decide) e3; omega
        · rw [rem_dead e3]; omega
      have hlen := hb e0
      have hti := ht.len
      have hpi := h.2.2.1
      obtain ⟨p', x', q', y', a', b', s'⟩ := ihN p2 q2 (x ++ [x2]) (y ++ [y2]) s2.sim r2 (by omega) (fun he => by rw [(s2.live he).2.1, hv e0]) (by simp [hl]) (fun he => by
        obtain ⟨_, _, w⟩ := t2.adv he
        simp only [List.length_append, List.length_cons, List.length_nil]; omega)
      refine ⟨p', x', q', y', Ev.step ?_, Ev.step ?_, (t2.step s').stp (by decide) fun he => (s'.live he).2.1⟩
      · show Ev (fun k => syntax_list_r_2_l1_b (tab_sp_bracketed k) p x) _
        unfold syntax_list_r_2_l1_b
        simp only [a1, Option.bind_some, if_true]
        refine Ev.bind a2 ?_
        exact Ev.chk (cap_ok 96 (by decide) x x2 (by omega)) a'
      · show Ev (fun k => r06_P_exprs_l1_b (tab_r06_P_Expr k) q y) _
        unfold r06_P_exprs_l1_b
        simp only [b1, Option.bind_some, if_true]
        refine Ev.bind b2 ?_
        exact Ev.chk (cap_ok 96 (by decide) y y2 (by omega)) b'

theorem exprs_sim (ht : Toks t) (ih : IH t n) (h : Sim t p q) (hn : p.e = 0 → rem t p < n) : Duo t 1 syntax_list_r_2 r06_P_exprs p q := by
  obtain ⟨p1, x1, q1, y1, a1, b1, s1⟩ := ih.exprS h hn
  have r1 : rem t p1 ≤ n := by
    by_cases e : p1.e = 0
    · have := s1.rem_le h (by decide); have := hn (s1.live e).1; omega
    · rw [rem_dead e]; omega
  obtain ⟨p', x', q', y', a', b', s'⟩ := loop_exprs ht ih n p1 q1 [x1] [y1] s1.sim r1 (by omega) (fun he => by rw [(s1.live he).2.1]) rfl (fun he => by
    obtain ⟨_, _, _, w⟩ := s1.live he
    have := h.2.1
    simp only [List.length_cons, List.length_nil]; omega)
  have t2 := ((At.refl h).step s1).step s'
  refine ⟨p', x', q', y', Ev.step ?_, Ev.step ?_, t2.stp (by decide) fun he => (s'.live he).2.1⟩
  · show Ev (fun k => syntax_list_r_2_b (tab_sp_bracketed k) p) _
    unfold syntax_list_r_2_b
    exact Ev.bind a1 a'
  · show Ev (fun k => r06_P_exprs_b (tab_r06_P_Expr k) q) _
    unfold r06_P_exprs_b
    exact Ev.bind b1 b'

/- .. of what is told, and its names. -/
noncomputable def rItem (k : Nat) (q : PT) : Option (PT × ItemT) :=
  (r06_P_Expr k q).bind fun a => (r06_P_must a.1 s_as).bind fun b => (r06_P_name k b).bind fun c => some (c.1, ItemT.mk a.2 c.2)

theorem item_sim (ht : Toks t) (ih : IH t n) (h : Sim t p q) (hn : p.e = 0 → rem t p < n) : Duo t 1 sp_item rItem p q := by
  obtain ⟨p1, x1, q1, y1, a1, b1, s1⟩ := ih.exprS h hn
  have t1 := (At.refl h).step s1
  obtain ⟨p2, q2, a2, b2, s2⟩ := must_sim ht t1.sim (s := s_as) ⟨_, _, rfl, by decide⟩
  have t2 := t1.step s2
  obtain ⟨p3, q3, x3, y3, a3, b3, s3, rfl⟩ := name_sim ht t2.sim
  have t3 := t2.step s3
  refine ⟨p3, ItemT.mk x1 x3, q3, ItemT.mk y1 x3, Ev.step ?_, ?_, t3.stp (by decide) fun he => by rw [(s1.live (s2.live (s3.live he).1).1).2.1]⟩
  · show Ev (fun k => sp_item_b (tab_sp_bracketed k) p) _
    unfold sp_item_b
    refine Ev.bind a1 ?_
    simp only [a2, a3, Option.bind_some]
    exact Ev.now fun _ => rfl
  · unfold rItem
    refine Ev.bind b1 ?_
    simp only [b2, Option.bind_some]
    exact Ev.bind b3 (Ev.now fun _ => rfl)

theorem item_ref {q q1 : PT} {d _more : Bool} {l : List ItemT} {y : ItemT} {r : PT × Query} (hl : l.length ≤ 1000000) (h : Ev (fun k => rItem k q) (q1, y)) (h2 : Ev (fun k => (r06_P_take q1 s_x2c).bind fun a => r06_P_part_l1 k a.1 d (l ++ [y]) a.2) r) :
    Ev (fun k => r06_P_part_l1 k q d l true) r := by
  refine Ev.step ?_
  show Ev (fun k => r06_P_part_l1_b (tab_r06_P_Expr k) q d l true) _
  unfold r06_P_part_l1_b
  simp only [if_true]
  refine Ev.same (Ev.bind (c := fun k z => chk (CapOk 112 l [z.2]) ((r06_P_take z.1 s_x2c).bind fun a => r06_P_part_l1 k a.1 d (l ++ [z.2]) a.2)) h (Ev.chk (cap_ok 112 (by decide) l y hl) h2)) fun k => ?_
  unfold rItem
  simp only [Option.bind_assoc, Option.bind_some, tabk]
  rfl

theorem loop_items (ht : Toks t) (ih : IH t n) (d : Bool) : ∀ N p q (x y : List ItemT), Sim t p q → rem t p ≤ N → N ≤ n → (p.e = 0 → y = x) → y.length = x.length → (p.e = 0 → (x.length : Int) ≤ p.i + 1) →
    ∃ p' x' q' y', Ev (fun k => syntax_list_m_l1 k p x) (p', x') ∧ (∀ r, Ev (fun k => r06_P_part_l1 k q' d y' false) r → Ev (fun k => (r06_P_take q s_x2c).bind fun a => r06_P_part_l1 k a.1 d y a.2) r) ∧ Stp t 0 p p' x' q' y' := by
  have stop : ∀ p q (x y : List ItemT), Sim t p q → sp_mark p s_x2c = some (p, false) → r06_P_take q s_x2c = some (q, false) → Ev (fun k => syntax_list_m_l1 k p x) (p, x) ∧ ∀ r, Ev (fun k => r06_P_part_l1 k q d y false) r → Ev (fun k => (r06_P_take q s_x2c).bind fun a => r06_P_part_l1 k a.1 d y a.2) r := by
    intro p q x y h a1 b1
    refine ⟨Ev.step (Ev.now fun k => ?_), fun r hr => ?_⟩
    · show syntax_list_m_l1_b (tab_sp_bracketed k) p x = _
      unfold syntax_list_m_l1_b
      rw [a1]; rfl
    · simp only [b1, Option.bind_some]; exact hr
  intro N
  induction N with
  | zero =>
    intro p q x y h hr hN hv _ _
    have he : p.e ≠ 0 := fun he => by have := rem_live h he; omega
    obtain ⟨p1, q1, c1, a1, b1, _, i1, k1⟩ := mark_take ht h (s := s_x2c) ⟨_, _, rfl, by decide⟩
    rcases k1 with ⟨rfl, rfl, rfl⟩ | ⟨_, e, _⟩
    · obtain ⟨u, v⟩ := stop p1 q1 x y h a1 b1
      exact ⟨p1, x, q1, y, u, v, h, fun h => absurd h he⟩
    · exact absurd e he
  | succ N ihN =>
    intro p q x y h hr hN hv hl hb
    obtain ⟨p1, q1, c1, a1, b1, _, i1, k1⟩ := mark_take ht h (s := s_x2c) ⟨_, _, rfl, by decide⟩
    cases c1 with
    | false =>
      obtain ⟨rfl, rfl⟩ := k1.f
      obtain ⟨u, v⟩ := stop p1 q1 x y h a1 b1
      exact ⟨p1, x, q1, y, u, v, h, fun he => ⟨he, hv he, rfl, by omega⟩⟩
    | true =>
      obtain ⟨t1, e0, e1⟩ := (At.refl h).took k1
      obtain ⟨p2, x2, q2, y2, a2, b2, s2⟩ := item_sim ht ih t1.sim fun he => At.rem h (by omega) t1 (by decide) he
      have t2 := t1.step s2
      have r2 : rem t p2 ≤ N := by
        by_cases e3 : p2.e = 0
        · have := At.rem (n := N + 1) h hr t2 (by decide) e3; omega
        · rw [rem_dead e3]; omega
      have hlen := hb e0
      have hti := ht.len
      have hpi := h.2.2.1
      obtain ⟨p', x', q', y', a', b', s'⟩ := ihN p2 q2 (x ++ [x2]) (y ++ [y2]) s2.sim r2 (by omega) (fun he => by rw [(s2.live he).2.1, hv e0]) (by simp [hl]) (fun he => by
        obtain ⟨_, _, w⟩ := t2.adv he
        simp only [List.length_append, List.length_cons, List.length_nil]; omega)
      refine ⟨p', x', q', y', Ev.step ?_, fun r hr => ?_, (t2.step s').stp (by decide) fun he => (s'.live he).2.1⟩
      · show Ev (fun k => syntax_list_m_l1_b (tab_sp_bracketed k) p x) _
        unfold syntax_list_m_l1_b
        simp only [a1, Option.bind_some, if_true]
        refine Ev.bind a2 ?_
        exact Ev.chk (cap_ok 112 (by decide) x x2 (by omega)) a'
      · simp only [b1, Option.bind_some]
        exact item_ref (_more := true) (by omega) b2 (b' r hr)

/- .. of what rows are put in order by. -/
noncomputable def rKey (k : Nat) (q : PT) : Option (PT × Key) :=
  (r06_P_Expr k q).bind fun a => (r06_P_take a.1 s_desc).bind fun b => some (b.1, Key.mk a.2 b.2)

theorem key_sim (ht : Toks t) (ih : IH t n) (h : Sim t p q) (hn : p.e = 0 → rem t p < n) : Duo t 1 sp_key rKey p q := by
  obtain ⟨p1, x1, q1, y1, a1, b1, s1⟩ := ih.exprS h hn
  have t1 := (At.refl h).step s1
  obtain ⟨p2, q2, c2, a2, b2, _, _, k2⟩ := word_take ht t1.sim (s := s_desc) ⟨_, _, rfl, by decide⟩
  have t2 : At t p 1 p2 q2 ∧ (p2.e = 0 → p1.e = 0) := by
    cases c2 with
    | true => exact ⟨⟨(t1.took k2).1.sim, fun he => by obtain ⟨u1, u2, u3⟩ := (t1.took k2).1.adv he; exact ⟨u1, u2, by omega⟩⟩, fun _ => (t1.took k2).2.1⟩
    | false => obtain ⟨rfl, rfl⟩ := k2.f; exact ⟨⟨t1.sim, fun he => by obtain ⟨u1, u2, u3⟩ := t1.adv he; exact ⟨u1, u2, by omega⟩⟩, id⟩
  refine ⟨p2, Key.mk x1 c2, q2, Key.mk y1 c2, Ev.step ?_, ?_, t2.1.stp (by decide) fun he => by rw [(s1.live (t2.2 he)).2.1]⟩
  · show Ev (fun k => sp_key_b (tab_sp_bracketed k) p) _
    unfold sp_key_b
    refine Ev.bind a1 ?_
    simp only [a2, Option.bind_some]
    exact Ev.now fun _ => rfl
  · unfold rKey
    refine Ev.bind b1 ?_
    simp only [b2, Option.bind_some]
    exact Ev.now fun _ => rfl

theorem key_ref {q q1 : PT} {d : Bool} {u1 : List ItemT} {u2 : List From} {u3 u4 u5 : List Expr} {l : List Key} {y : Key} {r : PT × Query} (hl : l.length ≤ 1000000) (h : Ev (fun k => rKey k q) (q1, y)) (h2 : Ev (fun k => (r06_P_take q1 s_x2c).bind fun a => r06_P_part_l5 k a.1 d u1 u2 u3 u4 u5 (l ++ [y]) a.2) r) :
    Ev (fun k => r06_P_part_l5 k q d u1 u2 u3 u4 u5 l true) r := by
  refine Ev.step ?_
  show Ev (fun k => r06_P_part_l5_b (tab_r06_P_Expr k) q d u1 u2 u3 u4 u5 l true) _
  unfold r06_P_part_l5_b
  simp only [if_true]
  refine Ev.same (Ev.bind (c := fun k z => chk (CapOk 104 l [z.2]) ((r06_P_take z.1 s_x2c).bind fun a => r06_P_part_l5 k a.1 d u1 u2 u3 u4 u5 (l ++ [z.2]) a.2)) h (Ev.chk (cap_ok 104 (by decide) l y hl) h2)) fun k => ?_
  unfold rKey
  simp only [Option.bind_assoc, Option.bind_some]
  rfl

theorem loop_keys (ht : Toks t) (ih : IH t n) (d : Bool) (u1 : List ItemT) (u2 : List From) (u3 u4 u5 : List Expr) : ∀ N p q (x y : List Key), Sim t p q → rem t p ≤ N → N ≤ n → (p.e = 0 → y = x) → y.length = x.length → (p.e = 0 → (x.length : Int) ≤ p.i + 1) →
    ∃ p' x' q' y', Ev (fun k => syntax_list_y_l1 k p x) (p', x') ∧ (∀ r, Ev (fun k => r06_P_part_l5 k q' d u1 u2 u3 u4 u5 y' false) r → Ev (fun k => (r06_P_take q s_x2c).bind fun a => r06_P_part_l5 k a.1 d u1 u2 u3 u4 u5 y a.2) r) ∧ Stp t 0 p p' x' q' y' := by
  have stop : ∀ p q (x y : List Key), Sim t p q → sp_mark p s_x2c = some (p, false) → r06_P_take q s_x2c = some (q, false) → Ev (fun k => syntax_list_y_l1 k p x) (p, x) ∧ ∀ r, Ev (fun k => r06_P_part_l5 k q d u1 u2 u3 u4 u5 y false) r → Ev (fun k => (r06_P_take q s_x2c).bind fun a => r06_P_part_l5 k a.1 d u1 u2 u3 u4 u5 y a.2) r := by
    intro p q x y h a1 b1
    refine ⟨Ev.step (Ev.now fun k => ?_), fun r hr => ?_⟩
    · show syntax_list_y_l1_b (tab_sp_bracketed k) p x = _
      unfold syntax_list_y_l1_b
      rw [a1]; rfl
    · simp only [b1, Option.bind_some]; exact hr
  intro N
  induction N with
  | zero =>
    intro p q x y h hr hN hv _ _
    have he : p.e ≠ 0 := fun he => by have := rem_live h he; omega
    obtain ⟨p1, q1, c1, a1, b1, _, i1, k1⟩ := mark_take ht h (s := s_x2c) ⟨_, _, rfl, by decide⟩
    rcases k1 with ⟨rfl, rfl, rfl⟩ | ⟨_, e, _⟩
    · obtain ⟨u, v⟩ := stop p1 q1 x y h a1 b1
      exact ⟨p1, x, q1, y, u, v, h, fun h => absurd h he⟩
    · exact absurd e he
  | succ N ihN =>
    intro p q x y h hr hN hv hl hb
    obtain ⟨p1, q1, c1, a1, b1, _, i1, k1⟩ := mark_take ht h (s := s_x2c) ⟨_, _, rfl, by decide⟩
    cases c1 with
    | false =>
      obtain ⟨rfl, rfl⟩ := k1.f
      obtain ⟨u, v⟩ := stop p1 q1 x y h a1 b1
      exact ⟨p1, x, q1, y, u, v, h, fun he => ⟨he, hv he, rfl, by omega⟩⟩
    | true =>
      obtain ⟨t1, e0, e1⟩ := (At.refl h).took k1
      obtain ⟨p2, x2, q2, y2, a2, b2, s2⟩ := key_sim ht ih t1.sim fun he => At.rem h (by omega) t1 (by decide) he
      have t2 := t1.step s2
      have r2 : rem t p2 ≤ N := by
        by_cases e3 : p2.e = 0
        · have := At.rem (n := N + 1) h hr t2 (by decide) e3; omega
        · rw [rem_dead e3]; omega
      have hlen := hb e0
      have hti := ht.len
      have hpi := h.2.2.1
      obtain ⟨p', x', q', y', a', b', s'⟩ := ihN p2 q2 (x ++ [x2]) (y ++ [y2]) s2.sim r2 (by omega) (fun he => by rw [(s2.live he).2.1, hv e0]) (by simp [hl]) (fun he => by
        obtain ⟨_, _, w⟩ := t2.adv he
        simp only [List.length_append, List.length_cons, List.length_nil]; omega)
      refine ⟨p', x', q', y', Ev.step ?_, fun r hr => ?_, (t2.step s').stp (by decide) fun he => (s'.live he).2.1⟩
      · show Ev (fun k => syntax_list_y_l1_b (tab_sp_bracketed k) p x) _
        unfold syntax_list_y_l1_b
        simp only [a1, Option.bind_some, if_true]
        refine Ev.bind a2 ?_
        exact Ev.chk (cap_ok 104 (by decide) x x2 (by omega)) a'
      · simp only [b1, Option.bind_some]
        exact key_ref (by omega) b2 (b' r hr)

end Go.Syn
