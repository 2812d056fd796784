/- Plain laws of the two parsers: queries; all together; a whole text. -/
import Derived.Test.YtoioflodpmideaaP8
namespace Go.Syn
open Go.Abs

variable {t : List Token} {p : Parser} {q : PT} {n : Nat}

noncomputable def pLim (p : Parser) (mk : Int → Query) : Option (Parser × Query) :=
  (sp_word p s_limit).bind fun e => if e.2 = true then (sp_number e.1).bind fun f => some (f.1, mk f.2) else some (e.1, mk (-1))
noncomputable def rLim (q : PT) (mk : Int → Query) : Option (PT × Query) :=
  (r06_P_take q s_limit).bind fun e => if e.2 = true then (r06_P_int e.1).bind fun f => some (f.1, mk f.2) else some (e.1, mk (-1))

theorem lim_sim (ht : Toks t) (h : Sim t p q) (mk mk' : Int → Query) (hv : p.e = 0 → mk' = mk) : ∃ p' x q' y, pLim p mk = some (p', x) ∧ rLim q mk' = some (q', y) ∧ Stp t 0 p p' x q' y := by
  obtain ⟨p1, q1, c, a1, b1, _, _, k1⟩ := word_take ht h (s := s_limit) ⟨_, _, rfl, by decide⟩
  cases c with
  | true =>
    obtain ⟨t1, e0, _⟩ := (At.refl h).took k1
    obtain ⟨p2, q2, x2, y2, a2, b2, s2⟩ := num_sim ht t1.sim
    refine ⟨p2, mk x2, q2, mk' y2, ?_, ?_, (t1.step s2).stp (by decide) fun he => by rw [hv e0, (s2.live he).2.1]⟩
    · unfold pLim; simp only [a1, a2, Option.bind_some, if_true]
    · unfold rLim; simp only [b1, b2, Option.bind_some, if_true]
  | false =>
    obtain ⟨rfl, rfl⟩ := k1.f
    refine ⟨p1, mk (-1), q1, mk' (-1), ?_, ?_, h, fun he => ⟨he, by rw [hv he], rfl, by omega⟩⟩
    · unfold pLim; simp only [a1, Option.bind_some, Bool.false_eq_true, if_false]
    · unfold rLim; simp only [b1, Option.bind_some, Bool.false_eq_true, if_false]

noncomputable def pTail (k : Nat) (p : Parser) (mk : List Key → Int → Query) : Option (Parser × Query) :=
  (sp_word p s_order).bind fun a => if a.2 = true then (sp_must a.1 s_by).bind fun c => (syntax_list_y k c).bind fun d => pLim d.1 (mk d.2) else pLim a.1 (mk [])

theorem tail_sim (ht : Toks t) (ih : IH t n) (h : Sim t p q) (hn : p.e = 0 → rem t p ≤ n) (d : Bool) (x1 y1 : List ItemT) (x2 y2 : List From) (x3 y3 x4 y4 x5 y5 : List Expr)
    (hv : p.e = 0 → y1 = x1 ∧ y2 = x2 ∧ y3 = x3 ∧ y4 = x4 ∧ y5 = x5) :
    ∃ p' x q' y, Ev (fun k => pTail k p fun o l => Query.mk 1 d x1 x2 x3 x4 x5 o l []) (p', x) ∧ Ev (fun k => r06_P_part_j4_b (tab_r06_P_Expr k) q d y1 y2 y3 y4 y5) (q', y) ∧ Stp t 0 p p' x q' y := by
  obtain ⟨p1, q1, c, a1, b1, _, _, k1⟩ := word_take ht h (s := s_order) ⟨_, _, rfl, by decide⟩
  cases c with
  | false =>
    obtain ⟨rfl, rfl⟩ := k1.f
    obtain ⟨p', x, q', y, a2, b2, s2⟩ := lim_sim ht h (fun l => Query.mk 1 d x1 x2 x3 x4 x5 [] l []) (fun l => Query.mk 1 d y1 y2 y3 y4 y5 [] l []) fun he => by
      obtain ⟨rfl, rfl, rfl, rfl, rfl⟩ := hv he; rfl
    refine ⟨p', x, q', y, Ev.now fun k => ?_, Ev.now fun k => ?_, s2⟩
    · unfold pTail; simp only [a1, Option.bind_some, Bool.false_eq_true, if_false]; exact a2
    · unfold r06_P_part_j4_b; simp only [b1, Option.bind_some, Bool.false_eq_true, if_false]; exact b2
  | true =>
    obtain ⟨t1, e0, e1⟩ := (At.refl h).took k1
    obtain ⟨rfl, rfl, rfl, rfl, rfl⟩ := hv e0
    obtain ⟨p2, q2, a2, b2, s2⟩ := must_sim ht t1.sim (s := s_by) ⟨_, _, rfl, by decide⟩
    have t2 := t1.step s2
    obtain ⟨p3, z3, q3, w3, a3, b3, s3⟩ := key_sim ht ih t2.sim fun he => At.rem h (hn e0) t2 (by decide) he
    have t3 := t2.step s3
    have r3 : rem t p3 ≤ n := by
      by_cases e3 : p3.e = 0
      · exact Nat.le_of_lt (At.rem h (hn e0) t3 (by decide) e3)
      · rw [rem_dead e3]; omega
    obtain ⟨p4, z4, q4, w4, a4, b4, s4⟩ := loop_keys ht ih d y1 y2 y3 y4 y5 n p3 q3 [z3] [w3] s3.sim r3 (by omega) (fun he => by rw [(s3.live he).2.1]) rfl (fun he => by
      obtain ⟨_, _, w⟩ := t3.adv he
      have := h.2.1
      simp only [List.length_cons, List.length_nil]; omega)
    have t4 := t3.step s4
    obtain ⟨p', x, q', y, a5, b5, s5⟩ := lim_sim ht s4.sim (fun l => Query.mk 1 d y1 y2 y3 y4 y5 z4 l []) (fun l => Query.mk 1 d y1 y2 y3 y4 y5 w4 l []) fun he => by rw [(s4.live he).2.1]
    refine ⟨p', x, q', y, ?_, ?_, (t4.step s5).stp (by decide) fun he => (s5.live he).2.1⟩
    · unfold pTail
      simp only [a1, Option.bind_some, if_true, a2]
      refine Ev.bind (a := (p4, z4)) (Ev.step ?_) (Ev.now fun _ => a5)
      show Ev (fun k => syntax_list_y_b (tab_sp_bracketed k) p2) _
      unfold syntax_list_y_b
      exact Ev.bind a3 a4
    · unfold r06_P_part_j4_b
      simp only [b1, Option.bind_some, if_true, b2]
      refine key_ref (l := []) (by decide) b3 (b4 _ ?_)
      refine Ev.step (Ev.now fun k => ?_)
      show r06_P_part_l5_b (tab_r06_P_Expr k) q4 d y1 y2 y3 y4 y5 w4 false = _
      unfold r06_P_part_l5_b
      simp only [Bool.false_eq_true, if_false]
      exact b5

theorem group_sim (ht : Toks t) (ih : IH t n) (h : Sim t p q) (hn : p.e = 0 → rem t p ≤ n) (d : Bool) (x1 y1 : List ItemT) (x2 y2 : List From) (x3 y3 : List Expr) (hv : p.e = 0 → y1 = x1 ∧ y2 = x2 ∧ y3 = x3) :
    ∃ p' x q' y, Ev (fun k => sp_part_j2_b (tab_sp_bracketed k) p d x1 x2 x3) (p', x) ∧ Ev (fun k => r06_P_part_j3_b (tab_r06_P_Expr k) q d y1 y2 y3) (q', y) ∧ Stp t 0 p p' x q' y := by
  obtain ⟨p1, q1, c, a1, b1, _, _, k1⟩ := word_take ht h (s := s_group) ⟨_, _, rfl, by decide⟩
  cases c with
  | false =>
    obtain ⟨rfl, rfl⟩ := k1.f
    obtain ⟨p', x, q', y, a2, b2, s2⟩ := tail_sim ht ih h hn d x1 y1 x2 y2 x3 y3 [] [] [] [] fun he => by
      obtain ⟨v1, v2, v3⟩ := hv he; exact ⟨v1, v2, v3, rfl, rfl⟩
    refine ⟨p', x, q', y, ?_, ?_, s2⟩
    · unfold sp_part_j2_b; simp only [a1, Option.bind_some, Bool.false_eq_true, if_false]; exact a2
    · unfold r06_P_part_j3_b; simp only [b1, Option.bind_some, Bool.false_eq_true, if_false]; exact b2
  | true =>
    obtain ⟨t1, e0, e1⟩ := (At.refl h).took k1
    obtain ⟨rfl, rfl, rfl⟩ := hv e0
    obtain ⟨p2, q2, a2, b2, s2⟩ := must_sim ht t1.sim (s := s_by) ⟨_, _, rfl, by decide⟩
    have t2 := t1.step s2
    obtain ⟨p3, z3, q3, w3, a3, b3, s3⟩ := exprs_sim ht ih t2.sim fun he => At.rem h (hn e0) t2 (by decide) he
    have t3 := t2.step s3
    obtain ⟨p4, q4, c4, a4, b4, _, _, k4⟩ := word_take ht t3.sim (s := s_having) ⟨_, _, rfl, by decide⟩
    cases c4 with
    | false =>
      obtain ⟨rfl, rfl⟩ := k4.f
      obtain ⟨p', x, q', y, a5, b5, s5⟩ := tail_sim ht ih t3.sim (fun he => Nat.le_of_lt (At.rem h (hn e0) t3 (by decide) he)) d y1 y1 y2 y2 y3 y3 z3 w3 [] [] fun he => ⟨rfl, rfl, rfl, (s3.live he).2.1, rfl⟩
      refine ⟨p', x, q', y, ?_, ?_, (t3.step s5).stp (by decide) fun he => (s5.live he).2.1⟩
      · unfold sp_part_j2_b
        simp only [a1, a2, Option.bind_some, if_true]
        refine Ev.bind a3 ?_
        simp only [a4, Option.bind_some, Bool.false_eq_true, if_false]
        exact a5
      · unfold r06_P_part_j3_b
        simp only [b1, b2, Option.bind_some, if_true]
        refine Ev.bind b3 ?_
        simp only [b4, Option.bind_some, Bool.false_eq_true, if_false]
        exact b5
    | true =>
      obtain ⟨t4, e3, e4⟩ := t3.took k4
      obtain ⟨p5, z5, q5, w5, a5, b5, s5⟩ := ih.exprS t4.sim fun he => At.rem h (hn e0) t4 (by decide) he
      have t5 := t4.step s5
      obtain ⟨p', x, q', y, a6, b6, s6⟩ := tail_sim ht ih t5.sim (fun he => Nat.le_of_lt (At.rem h (hn e0) t5 (by decide) he)) d y1 y1 y2 y2 y3 y3 z3 w3 [z5] [w5] fun he => ⟨rfl, rfl, rfl, (s3.live e3).2.1, by rw [(s5.live he).2.1]⟩
      refine ⟨p', x, q', y, ?_, ?_, (t5.step s6).stp (by decide) fun he => (s6.live he).2.1⟩
      · unfold sp_part_j2_b
        simp only [a1, a2, Option.bind_some, if_true]
        refine Ev.bind a3 ?_
        simp only [a4, Option.bind_some, if_true]
        refine Ev.bind a5 ?_
        exact a6
      · unfold r06_P_part_j3_b
        simp only [b1, b2, Option.bind_some, if_true]
        refine Ev.bind b3 ?_
        simp only [b4, Option.bind_some, if_true]
        refine Ev.bind b5 ?_
        exact b6

theorem where_sim (ht : Toks t) (ih : IH t n) (h : Sim t p q) (hn : p.e = 0 → rem t p ≤ n) (d : Bool) (x1 y1 : List ItemT) (x2 y2 : List From) (hv : p.e = 0 → y1 = x1 ∧ y2 = x2) :
    ∃ p' x q' y, Ev (fun k => sp_part_j1_b (tab_sp_bracketed k) p d x1 x2) (p', x) ∧ Ev (fun k => r06_P_part_j2_b (tab_r06_P_Expr k) q d y1 y2) (q', y) ∧ Stp t 0 p p' x q' y := by
  obtain ⟨p1, q1, c, a1, b1, _, _, k1⟩ := word_take ht h (s := s_where) ⟨_, _, rfl, by decide⟩
  cases c with
  | false =>
    obtain ⟨rfl, rfl⟩ := k1.f
    obtain ⟨p', x, q', y, a2, b2, s2⟩ := group_sim ht ih h hn d x1 y1 x2 y2 [] [] fun he => ⟨(hv he).1, (hv he).2, rfl⟩
    refine ⟨p', x, q', y, ?_, ?_, s2⟩
    · unfold sp_part_j1_b; simp only [a1, Option.bind_some, Bool.false_eq_true, if_false]; exact a2
    · unfold r06_P_part_j2_b; simp only [b1, Option.bind_some, Bool.false_eq_true, if_false]; exact b2
  | true =>
    obtain ⟨t1, e0, e1⟩ := (At.refl h).took k1
    obtain ⟨p5, z5, q5, w5, a5, b5, s5⟩ := ih.exprS t1.sim fun he => At.rem h (hn e0) t1 (by decide) he
    have t5 := t1.step s5
    obtain ⟨p', x, q', y, a6, b6, s6⟩ := group_sim ht ih t5.sim (fun he => Nat.le_of_lt (At.rem h (hn e0) t5 (by decide) he)) d x1 y1 x2 y2 [z5] [w5] fun he => ⟨(hv e0).1, (hv e0).2, by rw [(s5.live he).2.1]⟩
    refine ⟨p', x, q', y, ?_, ?_, (t5.step s6).stp (by decide) fun he => (s6.live he).2.1⟩
    · unfold sp_part_j1_b; simp only [a1, Option.bind_some, if_true]; exact Ev.bind a5 a6
    · unfold r06_P_part_j2_b; simp only [b1, Option.bind_some, if_true]; exact Ev.bind b5 b6

theorem part_sim (ht : Toks t) (ih : IH t n) (h : Sim t p q) (_he : p.e = 0) (hn : rem t p ≤ n) : Duo t 1 sp_part r06_P_part p q := by
  obtain ⟨p1, q1, c, a1, b1, _, _, k1⟩ := mark_take ht h (s := s_x28) ⟨_, _, rfl, by decide⟩
  cases c with
  | true =>
    obtain ⟨t1, e0, e1⟩ := (At.refl h).took k1
    obtain ⟨p2, x2, q2, y2, a2, b2, s2⟩ := ih.queryS t1.sim fun he => At.rem h hn t1 (by decide) he
    have t2 := t1.step s2
    obtain ⟨p3, q3, a3, b3, s3⟩ := need_sim ht t2.sim (s := s_x29) ⟨_, _, rfl, by decide⟩
    have t3 := t2.step s3
    refine ⟨p3, x2, q3, y2, Ev.step ?_, Ev.step ?_, t3.stp (by decide) fun he => (s2.live (s3.live he).1).2.1⟩
    · show Ev (fun k => sp_part_b (tab_sp_bracketed k) p) _
      unfold sp_part_b
      simp only [a1, Option.bind_some, if_true]
      refine Ev.bind a2 ?_
      simp only [a3, Option.bind_some]
      exact Ev.now fun _ => rfl
    · show Ev (fun k => r06_P_part_b (tab_r06_P_Expr k) q) _
      unfold r06_P_part_b
      simp only [b1, Option.bind_some, if_true]
      refine Ev.bind b2 ?_
      simp only [b3, Option.bind_some]
      exact Ev.now fun _ => rfl
  | false =>
    obtain ⟨z1, z2⟩ := k1.f
    rw [z1] at a1; rw [z2] at b1; clear k1 z1 z2
    obtain ⟨p2, q2, a2, b2, s2⟩ := must_sim ht h (s := s_select) ⟨_, _, rfl, by decide⟩
    have t2 := (At.refl h).step s2
    obtain ⟨p3, q3, d, a3, b3, _, _, k3⟩ := word_take ht t2.sim (s := s_distinct) ⟨_, _, rfl, by decide⟩
    have t3 : At t p 1 p3 q3 := by
      cases d with
      | true => exact ⟨(t2.took k3).1.sim, fun he => by obtain ⟨u1, u2, u3⟩ := (t2.took k3).1.adv he; exact ⟨u1, u2, by omega⟩⟩
      | false => obtain ⟨rfl, rfl⟩ := k3.f; exact ⟨t2.sim, fun he => by obtain ⟨u1, u2, u3⟩ := t2.adv he; exact ⟨u1, u2, by omega⟩⟩
    obtain ⟨p4, x4, q4, y4, a4, b4, s4⟩ := item_sim ht ih t3.sim fun he => At.rem h hn t3 (by decide) he
    have t4 := t3.step s4
    have r4 : rem t p4 ≤ n := by
      by_cases e : p4.e = 0
      · exact Nat.le_of_lt (At.rem h hn t4 (by decide) e)
      · rw [rem_dead e]; omega
    obtain ⟨p5, x5, q5, y5, a5, b5, s5⟩ := loop_items ht ih d n p4 q4 [x4] [y4] s4.sim r4 (by omega) (fun he => by rw [(s4.live he).2.1]) rfl (fun he => by
      obtain ⟨_, _, w⟩ := t4.adv he
      have := h.2.1
      simp only [List.length_cons, List.length_nil]; omega)
    have t5 := t4.step s5
    have hlist : Ev (fun k => syntax_list_m k p3) (p5, x5) := by
      refine Ev.step ?_
      show Ev (fun k => syntax_list_m_b (tab_sp_bracketed k) p3) _
      unfold syntax_list_m_b
      exact Ev.bind a4 a5
    obtain ⟨p6, q6, c6, a6, b6, _, _, k6⟩ := word_take ht t5.sim (s := s_from) ⟨_, _, rfl, by decide⟩
    have fin : ∀ r r', Ev (fun k => if c6 = true then (sp_source k p6).bind fun a => sp_part_j1_b (tab_sp_bracketed k) a.1 d x5 [a.2] else sp_part_j1_b (tab_sp_bracketed k) p6 d x5 []) r →
        Ev (fun k => if c6 = true then (r06_P_src k q6).bind fun a => r06_P_part_j2_b (tab_r06_P_Expr k) a.1 d y5 [a.2] else r06_P_part_j2_b (tab_r06_P_Expr k) q6 d y5 []) r' →
        Ev (fun k => sp_part k p) r ∧ Ev (fun k => r06_P_part k q) r' := by
      intro r r' hr hr'
      refine ⟨Ev.step ?_, Ev.step ?_⟩
      · show Ev (fun k => sp_part_b (tab_sp_bracketed k) p) _
        unfold sp_part_b
        simp only [a1, Option.bind_some, Bool.false_eq_true, if_false, a2, a3]
        refine Ev.bind hlist ?_
        simp only [a6, Option.bind_some]
        exact hr
      · show Ev (fun k => r06_P_part_b (tab_r06_P_Expr k) q) _
        unfold r06_P_part_b
        simp only [b1, Option.bind_some, Bool.false_eq_true, if_false, b2, b3]
        refine item_ref (l := []) (_more := true) (by decide) b4 (b5 _ ?_)
        refine Ev.step ?_
        show Ev (fun k => r06_P_part_l1_b (tab_r06_P_Expr k) q5 d y5 false) _
        unfold r06_P_part_l1_b
        simp only [Bool.false_eq_true, if_false, b6, Option.bind_some]
        exact hr'
    cases c6 with
    | true =>
      obtain ⟨t6, e5, e6⟩ := t5.took k6
      obtain ⟨p7, x7, q7, y7, a7, b7, s7⟩ := source_sim ht ih t6.sim fun he => Nat.le_of_lt (At.rem h hn t6 (by decide) he)
      have t7 := t6.step s7
      obtain ⟨p', x, q', y, a8, b8, s8⟩ := where_sim ht ih t7.sim (fun he => Nat.le_of_lt (At.rem h hn t7 (by decide) he)) d x5 y5 [x7] [y7] fun he => ⟨(s5.live e5).2.1, by rw [(s7.live he).2.1]⟩
      obtain ⟨u, v⟩ := fin _ _ (by simp only [if_true]; exact Ev.bind a7 a8) (by simp only [if_true]; exact Ev.bind b7 b8)
      exact ⟨p', x, q', y, u, v, (t7.step s8).stp (by decide) fun he => (s8.live he).2.1⟩
    | false =>
      obtain ⟨rfl, rfl⟩ := k6.f
      obtain ⟨p', x, q', y, a8, b8, s8⟩ := where_sim ht ih t5.sim (fun he => Nat.le_of_lt (At.rem h hn t5 (by decide) he)) d x5 y5 [] [] fun he => ⟨(s5.live he).2.1, rfl⟩
      obtain ⟨u, v⟩ := fin _ _ (by simp only [Bool.false_eq_true, if_false]; exact a8) (by simp only [Bool.false_eq_true, if_false]; exact b8)
      exact ⟨p', x, q', y, u, v, (t5.step s8).stp (by decide) fun he => (s8.live he).2.1⟩

/- A query: parts, put together. -/
theorem loop_query (ht : Toks t) (ih : IH t n) : ∀ N p q x y, Sim t p q → (p.e = 0 → 1 ≤ p.deep) → rem t p ≤ N → N ≤ n → (p.e = 0 → y = x) →
    ∃ p' x' q' y', Ev (fun k => sp_query_l1 k p x) (up p', x') ∧ Ev (fun k => r06_P_Query_l1 k q y) (upT q', y') ∧ Stp t 0 p p' x' q' y' := by
  have stop : ∀ p q x y, Sim t p q → p.e ≠ 0 → Ev (fun k => sp_query_l1 k p x) (up p, x) ∧ Ev (fun k => r06_P_Query_l1 k q y) (upT q, y) := by
    intro p q x y h he
    refine ⟨Ev.step (Ev.now fun k => ?_), Ev.step (Ev.now fun k => ?_)⟩
    · show sp_query_l1_b (tab_sp_bracketed k) p x = _
      unfold sp_query_l1_b
      rw [if_neg he]
      rfl
    · show r06_P_Query_l1_b (tab_r06_P_Expr k) q y = _
      unfold r06_P_Query_l1_b r06_P_Query_j2_b
      rw [if_neg (show ¬ q.E = 0 by rw [h.e]; exact he)]
      rfl
  intro N
  induction N with
  | zero =>
    intro p q x y h _ hr hN hv
    have he : p.e ≠ 0 := fun he => by have := rem_live h he; omega
    obtain ⟨u, v⟩ := stop p q x y h he
    exact ⟨p, x, q, y, u, v, h, fun h => absurd h he⟩
  | succ N ihN =>
    intro p q x y h hdeep hr hN hv
    by_cases he : p.e = 0
    rotate_left
    · obtain ⟨u, v⟩ := stop p q x y h he
      exact ⟨p, x, q, y, u, v, h, fun h => absurd h he⟩
    have hE : q.E = 0 := by rw [h.e]; exact he
    -- a part, and on
    have go : ∀ p1 q1 (kind : Int), At t p 1 p1 q1 → p1.e = 0 → kind ≠ 0 → ∃ p' x' q' y', Ev (fun k => sp_query_j2_b (tab_sp_bracketed k) p1 x kind) (up p', x') ∧ Ev (fun k => r06_P_Query_j3_b (tab_r06_P_Expr k) q1 y kind) (upT q', y') ∧ Stp t 0 p p' x' q' y' := by
      intro p1 q1 kind t1 e1 hk
      obtain ⟨p2, x2, q2, y2, a2, b2, s2⟩ := ih.part p1 q1 t1.sim e1 (At.rem h (by omega) t1 (by decide) e1)
      have t2 := t1.step s2
      have r2 : rem t p2 ≤ N := by
        by_cases e3 : p2.e = 0
        · have := At.rem (n := N + 1) h hr t2 (by decide) e3; omega
        · rw [rem_dead e3]; omega
      obtain ⟨p', x', q', y', a', b', s'⟩ := ihN p2 q2 (Query.mk kind false [] [] [] [] [] [] (-1) [x, x2]) (Query.mk kind false [] [] [] [] [] [] (-1) [y, y2]) s2.sim (fun he2 => by
        obtain ⟨_, d, _⟩ := t2.adv he2
        have := hdeep he
        omega) r2 (by omega) fun he2 => by rw [(s2.live he2).2.1, hv he]
      refine ⟨p', x', q', y', ?_, ?_, (t2.step s').stp (by decide) fun he => (s'.live he).2.1⟩
      · unfold sp_query_j2_b
        simp only [if_neg hk]
        exact Ev.bind a2 a'
      · unfold r06_P_Query_j3_b
        exact Ev.bind b2 b'
    have fin : ∀ p' x' q' y', Ev (fun k => (sp_word p s_union).bind fun a => if a.2 = true then (sp_word a.1 s_all).bind fun b => (if b.2 = true then sp_query_j2_b (tab_sp_bracketed k) b.1 x 3 else sp_query_j2_b (tab_sp_bracketed k) b.1 x 2) else (sp_word a.1 s_except).bind fun b => if b.2 = true then sp_query_j2_b (tab_sp_bracketed k) b.1 x 4 else (sp_word b.1 s_intersect).bind fun c => if c.2 = true then sp_query_j2_b (tab_sp_bracketed k) c.1 x 5 else sp_query_j2_b (tab_sp_bracketed k) c.1 x 0) (up p', x') →
        Ev (fun k => r06_P_Query_l1_b (tab_r06_P_Expr k) q y) (upT q', y') → Stp t 0 p p' x' q' y' →
        ∃ p' x' q' y', Ev (fun k => sp_query_l1 k p x) (up p', x') ∧ Ev (fun k => r06_P_Query_l1 k q y) (upT q', y') ∧ Stp t 0 p p' x' q' y' := by
      intro p' x' q' y' u v w
      refine ⟨p', x', q', y', Ev.step ?_, Ev.step v, w⟩
      show Ev (fun k => sp_query_l1_b (tab_sp_bracketed k) p x) _
      unfold sp_query_l1_b
      simp only [if_pos he]
      exact u
    obtain ⟨p1, q1, c1, a1, b1, _, i1, k1⟩ := word_take ht h (s := s_union) ⟨_, _, rfl, by decide⟩
    cases c1 with
    | true =>
      obtain ⟨t1, _, e1⟩ := (At.refl h).took k1
      obtain ⟨p2, q2, c2, a2, b2, _, _, k2⟩ := word_take ht t1.sim (s := s_all) ⟨_, _, rfl, by decide⟩
      cases c2 with
      | true =>
        obtain ⟨t2, _, e2⟩ := t1.took k2
        obtain ⟨p', x', q', y', u, v, w⟩ := go p2 q2 3 ⟨t2.sim, fun he => by obtain ⟨u1, u2, u3⟩ := t2.adv he; exact ⟨u1, u2, by omega⟩⟩ e2 (by decide)
        refine fin p' x' q' y' (by simp only [a1, a2, Option.bind_some, if_true]; exact u) ?_ w
        unfold r06_P_Query_l1_b
        simp only [if_pos hE, i1, Option.bind_some, if_true]
        unfold r06_P_Query_j2_b
        simp only [if_true, b1, b2, Option.bind_some]
        exact v
      | false =>
        obtain ⟨z1, z2⟩ := k2.f
        rw [z1] at a2; rw [z2] at b2
        obtain ⟨p', x', q', y', u, v, w⟩ := go p1 q1 2 t1 e1 (by decide)
        refine fin p' x' q' y' (by simp only [a1, a2, Option.bind_some, if_true, Bool.false_eq_true, if_false]; exact u) ?_ w
        unfold r06_P_Query_l1_b
        simp only [if_pos hE, i1, Option.bind_some, if_true]
        unfold r06_P_Query_j2_b
        simp only [if_true, b1, b2, Option.bind_some, Bool.false_eq_true, if_false]
        exact v
    | false =>
    obtain ⟨z1, z2⟩ := k1.f
    rw [z1] at a1; rw [z2] at b1; clear k1 z1 z2
    obtain ⟨p2, q2, c2, a2, b2, _, i2, k2⟩ := word_take ht h (s := s_except) ⟨_, _, rfl, by decide⟩
    cases c2 with
    | true =>
      obtain ⟨t2, _, e2⟩ := (At.refl h).took k2
      obtain ⟨p', x', q', y', u, v, w⟩ := go p2 q2 4 t2 e2 (by decide)
      refine fin p' x' q' y' (by simp only [a1, a2, Option.bind_some, if_true, Bool.false_eq_true, if_false]; exact u) ?_ w
      unfold r06_P_Query_l1_b
      simp only [if_pos hE, i1, i2, Option.bind_some, Bool.false_eq_true, if_false, if_true]
      unfold r06_P_Query_j2_b
      simp only [if_true, b1, b2, Option.bind_some, Bool.false_eq_true, if_false]
      exact v
    | false =>
    obtain ⟨z1, z2⟩ := k2.f
    rw [z1] at a2; rw [z2] at b2; clear k2 z1 z2
    obtain ⟨p3, q3, c3, a3, b3, _, i3, k3⟩ := word_take ht h (s := s_intersect) ⟨_, _, rfl, by decide⟩
    cases c3 with
    | true =>
      obtain ⟨t3, _, e3⟩ := (At.refl h).took k3
      obtain ⟨p', x', q', y', u, v, w⟩ := go p3 q3 5 t3 e3 (by decide)
      refine fin p' x' q' y' (by simp only [a1, a2, a3, Option.bind_some, if_true, Bool.false_eq_true, if_false]; exact u) ?_ w
      unfold r06_P_Query_l1_b
      simp only [if_pos hE, i1, i2, i3, Option.bind_some, Bool.false_eq_true, if_false]
      unfold r06_P_Query_j2_b
      simp only [if_true, b1, b2, must_of_take b3, Option.bind_some, Bool.false_eq_true, if_false]
      exact v
    | false =>
      obtain ⟨z1, z2⟩ := k3.f
      rw [z1] at a3; rw [z2] at b3
      refine fin p x q y ?_ ?_ ⟨h, fun _ => ⟨he, hv he, rfl, by omega⟩⟩
      · simp only [a1, a2, a3, Option.bind_some, Bool.false_eq_true, if_false]
        exact Ev.now fun _ => rfl
      · unfold r06_P_Query_l1_b
        simp only [if_pos hE, i1, i2, i3, Option.bind_some, Bool.false_eq_true, if_false]
        exact Ev.now fun _ => rfl

theorem query_sim (ht : Toks t) (ih : IH t n) (hpart : For t (n + 1) sp_part r06_P_part) (h : Sim t p q) (he : p.e = 0) (hn : rem t p ≤ n) : Duo t 1 sp_query r06_P_Query p q := by
  obtain ⟨p2, q2, b, h1, h2, h3, h4⟩ := enter_sim h
  rcases h4 with ⟨rfl, _, h5, h6, h7⟩ | ⟨rfl, h5⟩
  · obtain ⟨_, _, g1, g2, g3, g4⟩ := h.live he
    have hr2 : rem t p2 ≤ n := by unfold rem at hn ⊢; rw [if_pos he] at hn; rw [if_pos h5, h6]; exact hn
    obtain ⟨p1, x1, q1, y1, a1, b1, s1⟩ := hpart p2 q2 h3 h5 (by omega)
    have r1 := s1.rem_le h3 (by decide)
    have t1 := (At.refl h3).step s1
    obtain ⟨p', x', q', y', a', b', s'⟩ := loop_query ht ih n p1 q1 x1 y1 s1.sim (fun he1 => by obtain ⟨_, d, _⟩ := t1.adv he1; omega) (by omega) (by omega) fun he => (s1.live he).2.1
    have t2 := t1.step s'
    obtain ⟨l1, l2, l3⟩ := leave_sim s'.sim fun he' => by
      obtain ⟨_, d, _⟩ := t2.adv he'
      omega
    refine ⟨up p', x', upT q', y', Ev.step ?_, Ev.step ?_, l2, fun he' => ?_⟩
    · show Ev (fun k => sp_query_b (tab_sp_bracketed k) p) _
      unfold sp_query_b
      simp only [h1, Option.bind_some, if_true]
      exact Ev.bind a1 a'
    · show Ev (fun k => r06_P_Query_b (tab_r06_P_Expr k) q) _
      unfold r06_P_Query_b
      simp only [h2, Option.bind_some, if_pos (show q2.E = 0 by rw [h3.e]; exact h5)]
      exact Ev.bind b1 b'
    · have he'' : p'.e = 0 := he'
      obtain ⟨_, d, i⟩ := t2.adv he''
      have := l3 he''
      exact ⟨he, (s'.live he'').2.1, by omega, by show p.i + 1 ≤ p'.i; omega⟩
  · have hE2 : ¬ q2.E = 0 := by rw [h3.e]; exact h5
    refine ⟨p2, Query.mk 0 false [] [] [] [] [] [] 0 [], upT q2, Query.mk 0 false [] [] [] [] [] [] 0 [], Ev.step (Ev.now fun k => ?_), Ev.step (Ev.now fun k => ?_), ⟨h3.1, h3.2.1, h3.2.2.1, .inr ⟨h5, h3.e, h3.at_⟩⟩, fun h => absurd h h5⟩
    · show sp_query_b (tab_sp_bracketed k) p = _
      unfold sp_query_b
      simp only [h1, Option.bind_some, Bool.false_eq_true, if_false]
    · show r06_P_Query_b (tab_r06_P_Expr k) q = _
      unfold r06_P_Query_b
      simp only [h2, Option.bind_some, if_neg hE2]
      rfl

/-- All together. -/
theorem all_sim (ht : Toks t) : ∀ n, IH t n := by
  intro n
  induction n with
  | zero => exact ⟨fun _ _ _ _ h => absurd h (by omega), fun _ _ _ _ h => absurd h (by omega), fun _ _ _ _ h => absurd h (by omega), fun _ _ _ _ h => absurd h (by omega), fun _ _ _ _ h => absurd h (by omega), fun _ _ _ _ h => absurd h (by omega), fun _ _ _ _ h => absurd h (by omega), fun _ _ _ _ h => absurd h (by omega)⟩
  | succ n ih =>
    have f1 : For t (n + 1) sp_unary r06_P_unary := fun p q h he hr => unary_sim ht ih h he (by omega)
    have f2 : For t (n + 1) sp_prod r06_P_prod := fun p q h he hr => prod_sim ht f1 h he (by omega)
    have f3 : For t (n + 1) sp_sum r06_P_sum := fun p q h he hr => sum_sim ht f2 h he (by omega)
    have f4 : For t (n + 1) sp_compared r06_P_cmp := fun p q h he hr => compared_sim ht ih f3 h he (by omega)
    have f5 : For t (n + 1) sp_not r06_P_not := fun p q h he hr => not_sim ht ih f4 h he (by omega)
    have f6 : For t (n + 1) sp_expr_1 r06_P_and := fun p q h he hr => and_sim ht f5 h he (by omega)
    have f7 : For t (n + 1) sp_expr r06_P_Expr := fun p q h he hr => expr_sim ht f6 h he (by omega)
    have f8 : For t (n + 1) sp_part r06_P_part := fun p q h he hr => part_sim ht ih h he (by omega)
    have f9 : For t (n + 1) sp_query r06_P_Query := fun p q h he hr => query_sim ht ih f8 h he (by omega)
    have f10 : For t (n + 1) sp_single r06_P_one := fun p q h he hr => single_sim ht ih h fun _ => by omega
    exact ⟨f1, f2, f5, f6, f7, f9, f8, f10⟩

end Go.Syn
