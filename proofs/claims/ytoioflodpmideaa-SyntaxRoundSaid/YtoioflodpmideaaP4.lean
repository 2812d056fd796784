/- Plain laws of the two parsers: expressions, from the inside out. -/
import Derived.Test.YtoioflodpmideaaP3
namespace Go.Syn
open Go.Abs

variable {t : List Token} {p : Parser} {q : PT}

/-- A state that came of p0, with c tokens taken. -/
structure At (t : List Token) (p0 : Parser) (c : Int) (p : Parser) (q : PT) : Prop where
  sim : Sim t p q
  adv : p.e = 0 → p0.e = 0 ∧ p.deep = p0.deep ∧ p0.i + c ≤ p.i

theorem At.refl (h : Sim t p q) : At t p 0 p q := ⟨h, fun he => ⟨he, rfl, by omega⟩⟩

theorem At.step {p0 p' : Parser} {q' : PT} {c m : Int} {α : Type} {x y : α} (h : At t p0 c p q) (s : Stp t m p p' x q' y) : At t p0 (c + m) p' q' :=
  ⟨s.sim, fun he => by
    obtain ⟨h1, _, h3, h4⟩ := s.live he
    obtain ⟨h5, h6, h7⟩ := h.adv h1
    exact ⟨h5, by omega, by omega⟩⟩

theorem At.took {p0 p' : Parser} {q' : PT} {c : Int} (h : At t p0 c p q) (s : Took t p q p' q' true) : At t p0 (c + 1) p' q' ∧ p.e = 0 ∧ p'.e = 0 := by
  rcases s with ⟨h1, _⟩ | ⟨_, h1, h2, h3, h4, h5⟩
  · cases h1
  · obtain ⟨h6, h7, h8⟩ := h.adv h1
    exact ⟨⟨h5, fun _ => ⟨h6, by omega, by omega⟩⟩, h1, h2⟩

theorem Took.f {p' : Parser} {q' : PT} (s : Took t p q p' q' false) : p' = p ∧ q' = q := by
  rcases s with ⟨_, h⟩ | ⟨h, _⟩
  · exact h
  · cases h

theorem At.rem {p0 : Parser} {q0 : PT} {c : Int} {n : Nat} (h0 : Sim t p0 q0) (hn : rem t p0 ≤ n) (h : At t p0 c p q) (hc : 1 ≤ c) : p.e = 0 → rem t p < n := by
  intro he
  obtain ⟨h1, h2, h3⟩ := h.adv he
  obtain ⟨_, h4, h5, _⟩ := h.sim
  obtain ⟨_, h6, h7, _⟩ := h0
  unfold Go.Syn.rem at hn ⊢
  rw [if_pos h1] at hn
  rw [if_pos he]
  omega

/-- From p0's state on: the step's end. -/
theorem At.stp {p0 : Parser} {c m : Int} {α : Type} {x y : α} (h : At t p0 c p q) (hm : m ≤ c) (hv : p.e = 0 → y = x) : Stp t m p0 p x q y :=
  ⟨h.sim, fun he => by
    obtain ⟨h1, h2, h3⟩ := h.adv he
    exact ⟨h1, hv he, h2, by omega⟩⟩

def For (t : List Token) (n : Nat) {α : Type} (f : Nat → Parser → Option (Parser × α)) (g : Nat → PT → Option (PT × α)) : Prop :=
  ∀ p q, Sim t p q → p.e = 0 → rem t p < n → Duo t 1 f g p q

/-- What is known of all places with fewer than n tokens left. -/
structure IH (t : List Token) (n : Nat) : Prop where
  unary : For t n sp_unary r06_P_unary
  prod : For t n sp_prod r06_P_prod
  not : For t n sp_not r06_P_not
  and_ : For t n sp_expr_1 r06_P_and
  expr : For t n sp_expr r06_P_Expr
  query : For t n sp_query r06_P_Query
  part : For t n sp_part r06_P_part
  one : For t n sp_single r06_P_one

variable {n : Nat}

theorem IH.exprS (ih : IH t n) (h : Sim t p q) (hr : p.e = 0 → rem t p < n) : Duo t 1 sp_expr r06_P_Expr p q := by
  by_cases he : p.e = 0
  · exact ih.expr p q h he (hr he)
  · exact expr_sim_dead h he

theorem IH.queryS (ih : IH t n) (h : Sim t p q) (hr : p.e = 0 → rem t p < n) : Duo t 1 sp_query r06_P_Query p q := by
  by_cases he : p.e = 0
  · exact ih.query p q h he (hr he)
  · exact query_sim_dead h he

/-- A query in brackets. -/
noncomputable def rBr (k : Nat) (q : PT) : Option (PT × Query) :=
  (r06_P_must q s_x28).bind fun r1 => (r06_P_Query k r1).bind fun (r2, r3) => (r06_P_must r2 s_x29).bind fun r4 => some (r4, r3)

theorem bracketed_sim (ht : Toks t) (ih : IH t n) (h : Sim t p q) (hn : p.e = 0 → rem t p ≤ n) : Duo t 1 sp_bracketed rBr p q := by
  obtain ⟨p1, q1, a1, b1, s1⟩ := need_sim ht h (s := s_x28) ⟨_, _, rfl, by decide⟩
  have t1 := (At.refl h).step s1
  have r1 : p1.e = 0 → rem t p1 < n := fun he => At.rem h (hn (t1.adv he).1) t1 (by decide) he
  obtain ⟨p2, x, q2, y, a2, b2, s2⟩ := ih.queryS s1.sim r1
  have t2 := t1.step s2
  obtain ⟨p3, q3, a3, b3, s3⟩ := need_sim ht s2.sim (s := s_x29) ⟨_, _, rfl, by decide⟩
  have t3 := t2.step s3
  refine ⟨p3, x, q3, y, Ev.step ?_, ?_, t3.stp (by decide) fun he => (s2.live (s3.live he).1).2.1⟩
  · show Ev (fun k => sp_bracketed_b (tab_sp_bracketed k) p) _
    unfold sp_bracketed_b
    simp only [a1, Option.bind_some]
    refine Ev.bind a2 ?_
    simp only [a3, Option.bind_some]
    exact Ev.now fun _ => rfl
  · unfold rBr
    simp only [b1, Option.bind_some]
    refine Ev.bind b2 ?_
    simp only [b3, Option.bind_some]
    exact Ev.now fun _ => rfl

noncomputable def rCases (k : Nat) (q : PT) : Option (PT × Expr) :=
  (r06_P_must q s_when).bind fun r12 =>
  (r06_P_Expr k r12).bind fun (r13, r14) =>
  (r06_P_must r13 s_then).bind fun r15 =>
  (r06_P_Expr k r15).bind fun (r16, r17) =>
  (r06_P_must r16 s_else).bind fun r18 =>
  (r06_P_Expr k r18).bind fun (r19, r20) =>
  (r06_P_must r19 s_end).bind fun r21 =>
  some (r21, (Expr.mk 11 0 [] [] [r14, r17, r20] []))

theorem cases_sim (ht : Toks t) (ih : IH t n) (h : Sim t p q) (hn : p.e = 0 → rem t p ≤ n) : Duo t 1 sp_cases rCases p q := by
  obtain ⟨p1, q1, a1, b1, s1⟩ := must_sim ht h (s := s_when) ⟨_, _, rfl, by decide⟩
  have t1 := (At.refl h).step s1
  obtain ⟨p2, x2, q2, y2, a2, b2, s2⟩ := ih.exprS s1.sim fun he => At.rem h (hn (t1.adv he).1) t1 (by decide) he
  have t2 := t1.step s2
  obtain ⟨p3, q3, a3, b3, s3⟩ := must_sim ht s2.sim (s := s_then) ⟨_, _, rfl, by decide⟩
  have t3 := t2.step s3
  obtain ⟨p4, x4, q4, y4, a4, b4, s4⟩ := ih.exprS s3.sim fun he => At.rem h (hn (t3.adv he).1) t3 (by decide) he
  have t4 := t3.step s4
  obtain ⟨p5, q5, a5, b5, s5⟩ := must_sim ht s4.sim (s := s_else) ⟨_, _, rfl, by decide⟩
  have t5 := t4.step s5
  obtain ⟨p6, x6, q6, y6, a6, b6, s6⟩ := ih.exprS s5.sim fun he => At.rem h (hn (t5.adv he).1) t5 (by decide) he
  have t6 := t5.step s6
  obtain ⟨p7, q7, a7, b7, s7⟩ := must_sim ht s6.sim (s := s_end) ⟨_, _, rfl, by decide⟩
  have t7 := t6.step s7
  refine ⟨p7, Expr.mk 11 0 [] [] [x2, x4, x6] [], q7, Expr.mk 11 0 [] [] [y2, y4, y6] [], Ev.step ?_, ?_, t7.stp (by decide) fun he => ?_⟩
  · show Ev (fun k => sp_cases_b (tab_sp_bracketed k) p) _
    unfold sp_cases_b
    simp only [a1, Option.bind_some]
    refine Ev.bind a2 ?_
    simp only [a3, Option.bind_some]
    refine Ev.bind a4 ?_
    simp only [a5, Option.bind_some]
    refine Ev.bind a6 ?_
    simp only [a7, Option.bind_some]
    exact Ev.now fun _ => rfl
  · unfold rCases
    simp only [b1, Option.bind_some]
    refine Ev.bind b2 ?_
    simp only [b3, Option.bind_some]
    refine Ev.bind b4 ?_
    simp only [b5, Option.bind_some]
    refine Ev.bind b6 ?_
    simp only [b7, Option.bind_some]
    exact Ev.now fun _ => rfl
  · have e6 := s7.live he
    have v6 := s6.live e6.1
    have v5 := s5.live v6.1
    have v4 := s4.live v5.1
    have v3 := s3.live v4.1
    have v2 := s2.live v3.1
    rw [v6.2.1, v4.2.1, v2.2.1]

noncomputable def rRound (k : Nat) (q : PT) : Option (PT × Expr) :=
  (r06_P_is q s_select).bind fun r16 =>
  if r16 = true then (
   (r06_P_Query k q).bind fun (r17, r18) => r06_P_prim_j1 r17 (Expr.mk 14 0 [] [] [] [r18])
  ) else (
   (r06_P_Expr k q).bind fun (r17, r18) => r06_P_prim_j1 r17 r18
  )

theorem round_sim (ht : Toks t) (ih : IH t n) (h : Sim t p q) (hn : p.e = 0 → rem t p < n) : Duo t 1 sp_round rRound p q := by
  obtain ⟨_, _, b, _, _, g1, g2, _⟩ := word_take ht h (s := s_select) ⟨_, _, rfl, by decide⟩
  cases b with
  | true =>
    obtain ⟨p2, x2, q2, y2, a2, b2, s2⟩ := ih.queryS h hn
    have t2 := (At.refl h).step s2
    obtain ⟨p3, q3, a3, b3, s3⟩ := need_sim ht s2.sim (s := s_x29) ⟨_, _, rfl, by decide⟩
    have t3 := t2.step s3
    refine ⟨p3, Expr.mk 14 0 [] [] [] [x2], q3, Expr.mk 14 0 [] [] [] [y2], Ev.step ?_, ?_, t3.stp (by decide) fun he => ?_⟩
    · show Ev (fun k => sp_round_b (tab_sp_bracketed k) p) _
      unfold sp_round_b
      simp only [g1, Option.bind_some, if_true]
      refine Ev.bind a2 ?_
      simp only [a3, Option.bind_some]
      exact Ev.now fun _ => rfl
    · unfold rRound
      simp only [g2, Option.bind_some, if_true]
      refine Ev.bind b2 ?_
      unfold r06_P_prim_j1
      simp only [b3, Option.bind_some]
      exact Ev.now fun _ => rfl
    · rw [(s2.live (s3.live he).1).2.1]
  | false =>
    obtain ⟨p2, x2, q2, y2, a2, b2, s2⟩ := ih.exprS h hn
    have t2 := (At.refl h).step s2
    obtain ⟨p3, q3, a3, b3, s3⟩ := need_sim ht s2.sim (s := s_x29) ⟨_, _, rfl, by decide⟩
    have t3 := t2.step s3
    refine ⟨p3, x2, q3, y2, Ev.step ?_, ?_, t3.stp (by decide) fun he => ?_⟩
    · show Ev (fun k => sp_round_b (tab_sp_bracketed k) p) _
      unfold sp_round_b
      simp only [g1, Option.bind_some, Bool.false_eq_true, if_false]
      refine Ev.bind a2 ?_
      simp only [a3, Option.bind_some]
      exact Ev.now fun _ => rfl
    · unfold rRound
      simp only [g2, Option.bind_some, Bool.false_eq_true, if_false]
      refine Ev.bind b2 ?_
      unfold r06_P_prim_j1
      simp only [b3, Option.bind_some]
      exact Ev.now fun _ => rfl
    · rw [(s2.live (s3.live he).1).2.1]

/- A column, or what gathers values. -/
noncomputable def gath (s : Str) : Bool := decide (s = s_count) || (decide (s = s_sum) || (decide (s = s_min) || decide (s = s_max)))

theorem gathers_eq (s : Str) : syntax_gathers s = some (gath s) := by
  unfold syntax_gathers gath
  by_cases h1 : s = s_count
  · simp [h1]
  rw [if_neg h1]
  by_cases h2 : s = s_sum
  · simp [h2]
  rw [if_neg h2]
  by_cases h3 : s = s_min
  · simp [h3]
  rw [if_neg h3]
  by_cases h4 : s = s_max <;> simp [h1, h2, h3, h4]

noncomputable def rCol (k : Nat) (q : PT) : Option (PT × Expr) :=
  (r06_P_name k q).bind fun (r16, r17) =>
  if r17 = s_count then (
  (r06_P_take r16 s_x28).bind fun (r18, r19) =>
  r06_P_prim_j2_b (tab_r06_P_Expr k) r18 r17 r19
  ) else (
  if r17 = s_sum then (
  (r06_P_take r16 s_x28).bind fun (r18, r19) =>
  r06_P_prim_j2_b (tab_r06_P_Expr k) r18 r17 r19
  ) else (
  if r17 = s_min then (
  (r06_P_take r16 s_x28).bind fun (r18, r19) =>
  r06_P_prim_j2_b (tab_r06_P_Expr k) r18 r17 r19
  ) else (
  if r17 = s_max then (
  (r06_P_take r16 s_x28).bind fun (r18, r19) =>
  r06_P_prim_j2_b (tab_r06_P_Expr k) r18 r17 r19
  ) else (
  r06_P_prim_j2_b (tab_r06_P_Expr k) r16 r17 false
  )
  )
  )
  )

theorem rCol_eq (k : Nat) (q : PT) : rCol k q = (r06_P_name k q).bind fun x => if gath x.2 = true then (r06_P_take x.1 s_x28).bind fun y => r06_P_prim_j2_b (tab_r06_P_Expr k) y.1 x.2 y.2 else r06_P_prim_j2_b (tab_r06_P_Expr k) x.1 x.2 false := by
  unfold rCol
  congr 1
  funext ⟨a, s⟩
  unfold gath
  by_cases h1 : s = s_count
  · simp [h1]
  by_cases h2 : s = s_sum
  · simp [h2]
  by_cases h3 : s = s_min
  · simp [h3]
  by_cases h4 : s = s_max <;> simp [h1, h2, h3, h4]

theorem agg_tail (ht : Toks t) (h : Sim t p q) (s : Str) {x y : List Expr} (hv : p.e = 0 → y = x) : ∃ p' q', sp_column_j2 p s x = some (p', Expr.mk 15 0 s [] x []) ∧ r06_P_must q s_x29 = some q' ∧ Stp t 1 p p' (Expr.mk 15 0 s [] x []) q' (Expr.mk 15 0 s [] y []) := by
  obtain ⟨p3, q3, a3, b3, s3⟩ := need_sim ht h (s := s_x29) ⟨_, _, rfl, by decide⟩
  refine ⟨p3, q3, ?_, b3, s3.sim, fun he => ?_⟩
  · unfold sp_column_j2; rw [a3]; rfl
  · obtain ⟨h1, _, h3, h4⟩ := s3.live he
    exact ⟨h1, by rw [hv h1], h3, h4⟩

theorem column_sim (ht : Toks t) (ih : IH t n) (h : Sim t p q) (hn : p.e = 0 → rem t p ≤ n) : Duo t 1 sp_column rCol p q := by
  obtain ⟨p1, q1, s, s', a1, b1, s1, rfl⟩ := name_sim ht h
  have t1 := (At.refl h).step s1
  -- what comes of the second half
  have key : ∀ (p2 : Parser) (q2 : PT) (b : Bool), At t p 1 p2 q2 → ∃ p' x q' y, Ev (fun k => sp_column_j1_b (tab_sp_bracketed k) p2 s b) (p', x) ∧ Ev (fun k => r06_P_prim_j2_b (tab_r06_P_Expr k) q2 s b) (q', y) ∧ Stp t 1 p p' x q' y := by
    intro p2 q2 b t2
    cases b with
    | false =>
      obtain ⟨p3, q3, c, a3, b3, _, _, k3⟩ := mark_take ht t2.sim (s := s_x2e) ⟨_, _, rfl, by decide⟩
      cases c with
      | true =>
        obtain ⟨t3, _, _⟩ := t2.took k3
        obtain ⟨p4, q4, x4, y4, a4, b4, s4, rfl⟩ := name_sim ht t3.sim
        refine ⟨p4, Expr.mk 5 0 x4 s [] [], q4, Expr.mk 5 0 x4 s [] [], ?_, ?_, (t3.step s4).stp (by decide) fun _ => rfl⟩
        · unfold sp_column_j1_b
          simp only [Bool.false_eq_true, if_false, a3, a4, Option.bind_some, if_true]
          exact Ev.now fun _ => rfl
        · unfold r06_P_prim_j2_b
          simp only [Bool.false_eq_true, if_false, b3, Option.bind_some, if_true]
          refine Ev.bind (m := fun k => r06_P_name (tab_r06_P_Expr k).k q3) (a := (q4, x4)) ?_ (Ev.now fun _ => rfl)
          obtain ⟨K, hK⟩ := b4
          exact ⟨K, fun k hk => by
            have : (tab_r06_P_Expr k).k = k := by cases k <;> rfl
            show r06_P_name (tab_r06_P_Expr k).k q3 = _
            rw [this]; exact hK k hk⟩
      | false =>
        obtain ⟨rfl, rfl⟩ := k3.f
        refine ⟨p3, Expr.mk 5 0 s [] [] [], q3, Expr.mk 5 0 s [] [] [], ?_, ?_, t2.stp (by decide) fun _ => rfl⟩
        · unfold sp_column_j1_b
          simp only [Bool.false_eq_true, if_false, a3, Option.bind_some]
          exact Ev.now fun _ => rfl
        · unfold r06_P_prim_j2_b
          simp only [Bool.false_eq_true, if_false, b3, Option.bind_some]
          exact Ev.now fun _ => rfl
    | true =>
      by_cases hs : s = s_count
      · obtain ⟨p3, q3, c, a3, b3, _, _, k3⟩ := mark_take ht t2.sim (s := s_x2a) ⟨_, _, rfl, by decide⟩
        cases c with
        | true =>
          obtain ⟨t3, _, _⟩ := t2.took k3
          obtain ⟨p4, q4, a4, b4, s4⟩ := agg_tail ht t3.sim s (x := []) (y := []) fun _ => rfl
          refine ⟨p4, Expr.mk 15 0 s [] [] [], q4, Expr.mk 15 0 s [] [] [], ?_, ?_, (t3.step s4).stp (by decide) fun _ => rfl⟩
          · unfold sp_column_j1_b
            simp only [if_true, if_pos hs, a3, Option.bind_some, a4]
            exact Ev.now fun _ => rfl
          · unfold r06_P_prim_j2_b
            simp only [if_true, if_pos hs, b3, Option.bind_some, b4]
            exact Ev.now fun _ => rfl
        | false =>
          obtain ⟨rfl, rfl⟩ := k3.f
          obtain ⟨p5, x5, q5, y5, a5, b5, s5⟩ := ih.exprS t2.sim fun he => At.rem h (hn (t2.adv he).1) t2 (by decide) he
          have t5 := t2.step s5
          obtain ⟨p4, q4, a4, b4, s4⟩ := agg_tail ht s5.sim s (x := [x5]) (y := [y5]) fun he => by rw [(s5.live he).2.1]
          refine ⟨p4, Expr.mk 15 0 s [] [x5] [], q4, Expr.mk 15 0 s [] [y5] [], ?_, ?_, (t5.step s4).stp (by decide) fun he => (s4.live he).2.1⟩
          · unfold sp_column_j1_b
            simp only [if_true, if_pos hs, a3, Option.bind_some, Bool.false_eq_true, if_false]
            refine Ev.bind a5 ?_
            simp only [a4]
            exact Ev.now fun _ => rfl
          · unfold r06_P_prim_j2_b
            simp only [if_true, if_pos hs, b3, Option.bind_some, Bool.false_eq_true, if_false]
            refine Ev.bind b5 ?_
            simp only [b4, Option.bind_some]
            exact Ev.now fun _ => rfl
      · obtain ⟨p5, x5, q5, y5, a5, b5, s5⟩ := ih.exprS t2.sim fun he => At.rem h (hn (t2.adv he).1) t2 (by decide) he
        have t5 := t2.step s5
        obtain ⟨p4, q4, a4, b4, s4⟩ := agg_tail ht s5.sim s (x := [x5]) (y := [y5]) fun he => by rw [(s5.live he).2.1]
        refine ⟨p4, Expr.mk 15 0 s [] [x5] [], q4, Expr.mk 15 0 s [] [y5] [], ?_, ?_, (t5.step s4).stp (by decide) fun he => (s4.live he).2.1⟩
        · unfold sp_column_j1_b
          simp only [if_true, if_neg hs]
          refine Ev.bind a5 ?_
          simp only [a4]
          exact Ev.now fun _ => rfl
        · unfold r06_P_prim_j2_b
          simp only [if_true, if_neg hs]
          refine Ev.bind b5 ?_
          simp only [b4, Option.bind_some]
          exact Ev.now fun _ => rfl
  have t1' : At t p 1 p1 q1 := ⟨t1.sim, fun he => by obtain ⟨h1, h2, h3⟩ := t1.adv he; exact ⟨h1, h2, by omega⟩⟩
  cases hg : gath s with
  | true =>
    obtain ⟨p2, q2, b, a2, b2, _, _, k2⟩ := mark_take ht t1.sim (s := s_x28) ⟨_, _, rfl, by decide⟩
    have t2 : At t p 1 p2 q2 := by
      cases b with
      | true => exact ⟨(t1'.took k2).1.sim, fun he => by obtain ⟨h1, h2, h3⟩ := (t1'.took k2).1.adv he; exact ⟨h1, h2, by omega⟩⟩
      | false => obtain ⟨rfl, rfl⟩ := k2.f; exact t1'
    obtain ⟨p', x, q', y, e1, e2, e3⟩ := key p2 q2 b t2
    refine ⟨p', x, q', y, Ev.step ?_, ?_, e3⟩
    · show Ev (fun k => sp_column_b (tab_sp_bracketed k) p) _
      unfold sp_column_b
      simp only [a1, Option.bind_some, gathers_eq, hg, if_true, a2]
      exact e1
    · simp only [rCol_eq]
      refine Ev.bind b1 ?_
      simp only [hg, if_true, b2, Option.bind_some]
      exact e2
  | false =>
    obtain ⟨p', x, q', y, e1, e2, e3⟩ := key p1 q1 false t1'
    refine ⟨p', x, q', y, Ev.step ?_, ?_, e3⟩
    · show Ev (fun k => sp_column_b (tab_sp_bracketed k) p) _
      unfold sp_column_b
      simp only [a1, Option.bind_some, gathers_eq, hg, Bool.false_eq_true, if_false]
      exact e1
    · simp only [rCol_eq]
      refine Ev.bind b1 ?_
      simp only [hg, Bool.false_eq_true, if_false]
      exact e2

end Go.Syn
