/- Plain laws of the two parsers: whole schemas. -/
import Derived.Test.YtoioflodpmideaaGreatP18
namespace Go.Syn
open Go.Abs

variable {t : List Token} {p : Parser} {q : PT}

theorem k_sch (k : Nat) : (tab_r06_P_Schema_j2 k).k = k := by cases k <;> rfl
theorem k_sch' (k : Nat) : (tab_sp_schema_j2 k).k = k := by cases k <;> rfl

theorem cap_two {α : Type} (b : Nat) (hb : b ≤ 1000) (l m : List α) (h : l.length ≤ 1000000) (h' : m.length ≤ 1000000) : CapOk b l m := by
  refine ⟨by unfold maxLen; omega, ?_⟩
  have : (l.length + m.length) * b ≤ 2000000 * 1000 := Nat.mul_le_mul (by omega) hb
  omega

theorem loop_edges (ht : Toks t) : ∀ N p q (nm : Str) (x : List Pair), Sim t p q → rem t p ≤ N → (p.e = 0 → (x.length : Int) ≤ p.i) → x.length ≤ 100001 →
    ∃ p' x' q', Ev (fun k => sp_edges_l1 k p nm x true) (p', x') ∧
      (∀ (a1 : List Str) (a2 : List Pair) (a3 : List Table) (a4 a5 : List Pair) (a6 : Int) r, a2.length ≤ 200000 → Ev (fun k => r06_P_Schema_j3_b (tab_r06_P_Schema_j2 k) q' a1 (a2 ++ x') a3 a4 a5 a6) r → Ev (fun k => r06_P_Schema_l4 k q a1 (a2 ++ x) a3 a4 a5 a6 nm true) r) ∧
      Stp t 1 p p' x' q' x' ∧ (p'.e = 0 → (x'.length : Int) - x.length ≤ p'.i - p.i) ∧ x'.length ≤ 100002 := by
  intro N
  induction N using Nat.strongRecOn with
  | ind N ihN =>
    intro p q nm x h hr hb hl
    obtain ⟨p1, q1, a1, b1, s1⟩ := need_sim ht h (s := s_x3c) ⟨_, _, rfl, by decide⟩
    have t1 := (At.refl h).step s1
    obtain ⟨p2, q2, x2, y2, a2, b2, s2, rfl⟩ := name_sim ht t1.sim
    have t2 := t1.step s2
    obtain ⟨p3, q3, c3, _, _, a3, b3, k3⟩ := mark_take ht t2.sim (s := s_x3c) ⟨_, _, rfl, by decide⟩
    have P : ∀ r, Ev (fun k => sp_edges_l1 k p2 x2 (x ++ [Pair.mk nm x2]) c3) r → Ev (fun k => sp_edges_l1 k p nm x true) r := by
      intro r hr
      refine Ev.step ?_
      show Ev (fun k => sp_edges_l1_b (tab_sp_edges_l1 k) p nm x true) _
      unfold sp_edges_l1_b
      simp only [if_true, a1, a2, a3, Option.bind_some]
      exact Ev.chk (cap_ok 32 (by decide) x _ (by omega)) hr
    have R : ∀ (u1 : List Str) (u2 : List Pair) (u3 : List Table) (u4 u5 : List Pair) (u6 : Int) r, u2.length ≤ 200000 → Ev (fun k => r06_P_Schema_l4 k q2 u1 (u2 ++ (x ++ [Pair.mk nm x2])) u3 u4 u5 u6 x2 c3) r → Ev (fun k => r06_P_Schema_l4 k q u1 (u2 ++ x) u3 u4 u5 u6 nm true) r := by
      intro u1 u2 u3 u4 u5 u6 r hu hr
      refine Ev.step ?_
      show Ev (fun k => r06_P_Schema_l4_b (tab_r06_P_Schema_j2 k) q u1 (u2 ++ x) u3 u4 u5 u6 nm true) _
      unfold r06_P_Schema_l4_b
      simp only [if_true, b1, Option.bind_some, k_sch]
      refine Ev.bind b2 ?_
      simp only [b3, Option.bind_some, List.append_assoc]
      exact Ev.chk (cap_ok 32 (by decide) (u2 ++ x) _ (by rw [List.length_append]; omega)) hr
    cases c3 with
    | false =>
      refine ⟨p2, x ++ [Pair.mk nm x2], q2, P _ (Ev.step (Ev.now fun k => ?_)), fun u1 u2 u3 u4 u5 u6 r hu hr => R u1 u2 u3 u4 u5 u6 r hu (Ev.step ?_), t2.stp (by decide) fun _ => rfl, fun he => ?_, by simp only [List.length_append, List.length_cons, List.length_nil]; omega⟩
      · show sp_edges_l1_b (tab_sp_edges_l1 k) p2 x2 (x ++ [Pair.mk nm x2]) false = _
        unfold sp_edges_l1_b
        rw [if_neg (by decide)]
      · show Ev (fun k => r06_P_Schema_l4_b (tab_r06_P_Schema_j2 k) q2 u1 (u2 ++ (x ++ [Pair.mk nm x2])) u3 u4 u5 u6 x2 false) _
        unfold r06_P_Schema_l4_b
        simp only [Bool.false_eq_true, if_false]
        exact hr
      · obtain ⟨_, _, w⟩ := t2.adv he
        simp only [List.length_append, List.length_cons, List.length_nil]
        omega
    | true =>
      obtain ⟨_, e2, _⟩ := t2.took k3
      have hlt := At.rem h hr t2 (by decide) e2
      obtain ⟨e0, _, w⟩ := t2.adv e2
      have hbb := hb e0
      have hti := ht.len
      have hpi := h.2.2.1
      obtain ⟨p', x', q', a', b', s', c', d'⟩ := ihN (rem t p2) hlt p2 q2 x2 (x ++ [Pair.mk nm x2]) t2.sim (Nat.le_refl _) (fun he => by
        simp only [List.length_append, List.length_cons, List.length_nil]; omega) (by simp only [List.length_append, List.length_cons, List.length_nil]; omega)
      refine ⟨p', x', q', P _ a', fun u1 u2 u3 u4 u5 u6 r hu hr => R u1 u2 u3 u4 u5 u6 r hu (b' u1 u2 u3 u4 u5 u6 r hu hr), (t2.step s').stp (by decide) fun _ => rfl, fun he => ?_, d'⟩
      have := c' he
      simp only [List.length_append, List.length_cons, List.length_nil] at this
      omega

/-- The lists are no longer than what was read. -/
structure Bnd (p : Parser) (X : Schema) : Prop where
  b1 : (X.Levels.length : Int) ≤ p.i
  b2 : (X.Edges.length : Int) ≤ p.i
  b3 : (X.Tables.length : Int) ≤ p.i
  b4 : (X.Channels.length : Int) ≤ p.i
  b5 : (X.Principals.length : Int) ≤ p.i

theorem Bnd.le {p p' : Parser} {X : Schema} (h : Bnd p X) (hp : p.i ≤ p'.i) : Bnd p' X :=
  ⟨by have := h.b1; omega, by have := h.b2; omega, by have := h.b3; omega, by have := h.b4; omega, by have := h.b5; omega⟩

noncomputable def spL (k : Nat) (p : Parser) (X : Schema) := sp_schema_l1 k p X.Levels X.Edges X.Tables X.Channels X.Principals X.Limit
noncomputable def rfL (k : Nat) (q : PT) (X : Schema) := r06_P_Schema_l1 k q X.Levels X.Edges X.Tables X.Channels X.Principals X.Limit
noncomputable def spJ (k : Nat) (p : Parser) (X : Schema) := sp_schema_j3_b (tab_sp_schema_j2 k) p X.Levels X.Edges X.Tables X.Channels X.Principals X.Limit
noncomputable def rfJ (k : Nat) (q : PT) (X : Schema) := r06_P_Schema_j3_b (tab_r06_P_Schema_j2 k) q X.Levels X.Edges X.Tables X.Channels X.Principals X.Limit

theorem schema_eta (X : Schema) : Schema.mk X.Levels X.Edges X.Tables X.Channels X.Principals X.Limit = X := by cases X; rfl

theorem schema_dead (h : Sim t p q) (he : p.e ≠ 0) (X Y : Schema) : Ev (fun k => spL k p X) (p, X) ∧ Ev (fun k => rfL k q Y) (q, Y) := by
  have hE : ¬ q.E = 0 := by rw [h.e]; exact he
  refine ⟨Ev.step (Ev.now fun k => ?_), Ev.step (Ev.now fun k => ?_)⟩
  · show sp_schema_l1_b (tab_sp_schema_j2 k) p X.Levels X.Edges X.Tables X.Channels X.Principals X.Limit = _
    unfold sp_schema_l1_b sp_schema_j2_b
    rw [if_neg he, if_neg (by decide), schema_eta]
  · show r06_P_Schema_l1_b (tab_r06_P_Schema_j2 k) q Y.Levels Y.Edges Y.Tables Y.Channels Y.Principals Y.Limit = _
    unfold r06_P_Schema_l1_b r06_P_Schema_j2_b
    rw [if_neg hE, if_neg (by decide), schema_eta]

theorem loop_schema (ht : Toks t) : ∀ N p q (X : Schema), Sim t p q → rem t p ≤ N → p.e = 0 → Bnd p X →
    ∃ p' x q' y, Ev (fun k => spL k p X) (p', x) ∧ Ev (fun k => rfL k q X) (q', y) ∧ Stp t 0 p p' x q' y := by
  intro N
  induction N using Nat.strongRecOn with
  | ind N ihN =>
    intro p q X h hr he hB
    -- what follows a statement
    have cont : ∀ p1 q1 (U V : Schema), At t p 1 p1 q1 → (p1.e = 0 → V = U ∧ Bnd p1 U) →
        ∃ p' x q' y, Ev (fun k => spJ k p1 U) (p', x) ∧ Ev (fun k => rfJ k q1 V) (q', y) ∧ Stp t 0 p p' x q' y := by
      intro p1 q1 U V t1 hUV
      obtain ⟨p2, q2, a2, b2, s2⟩ := need_sim ht t1.sim (s := s_x3b) ⟨_, _, rfl, by decide⟩
      have t2 := t1.step s2
      have J : ∀ r r', Ev (fun k => spL k p2 U) r → Ev (fun k => rfL k q2 V) r' → Ev (fun k => spJ k p1 U) r ∧ Ev (fun k => rfJ k q1 V) r' := by
        intro r r' g1 g2
        refine ⟨?_, ?_⟩
        · unfold spJ sp_schema_j3_b
          simp only [a2, Option.bind_some]
          exact g1
        · unfold rfJ r06_P_Schema_j3_b
          simp only [b2, Option.bind_some]
          exact g2
      by_cases e2 : p2.e = 0
      · obtain ⟨e1, _, _, w⟩ := s2.live e2
        obtain ⟨rfl, hb⟩ := hUV e1
        have hlt := At.rem h hr t2 (by decide) e2
        obtain ⟨p', x, q', y, a', b', s'⟩ := ihN (rem t p2) hlt p2 q2 V t2.sim (Nat.le_refl _) e2 (hb.le (by omega))
        obtain ⟨j1, j2⟩ := J _ _ a' b'
        exact ⟨p', x, q', y, j1, j2, (t2.step s').stp (by decide) fun he => (s'.live he).2.1⟩
      · obtain ⟨d1, d2⟩ := schema_dead t2.sim e2 U V
        obtain ⟨j1, j2⟩ := J _ _ d1 d2
        exact ⟨p2, U, q2, V, j1, j2, t2.sim, fun he => absurd he e2⟩
    obtain ⟨z, z1, z2, _⟩ := now_some h
    obtain ⟨g1, g2, _⟩ := h.live he
    have hE : q.E = 0 := by rw [h.e]; exact he
    have zq : idx q.T q.I = some z := by
      have : q.T = p.t ∧ q.I = p.i := by rw [g1, g2]; exact ⟨rfl, rfl⟩
      rw [this.1, this.2]; exact z2
    by_cases hk : z.Kind = 0
    · refine ⟨p, X, q, X, Ev.step (Ev.now fun k => ?_), Ev.step (Ev.now fun k => ?_), h, fun he => ⟨he, rfl, rfl, by omega⟩⟩
      · show sp_schema_l1_b (tab_sp_schema_j2 k) p X.Levels X.Edges X.Tables X.Channels X.Principals X.Limit = _
        unfold sp_schema_l1_b sp_schema_j2_b
        rw [if_pos he, z1, Option.bind_some, decide_eq_true hk, if_neg (by decide), schema_eta]
      · show r06_P_Schema_l1_b (tab_r06_P_Schema_j2 k) q X.Levels X.Edges X.Tables X.Channels X.Principals X.Limit = _
        unfold r06_P_Schema_l1_b r06_P_Schema_j2_b
        rw [if_pos hE, zq, Option.bind_some, decide_eq_true hk, if_neg (by decide), schema_eta]
    have P : ∀ r, Ev (fun k => sp_schema_j2_b (tab_sp_schema_j2 k) p X.Levels X.Edges X.Tables X.Channels X.Principals X.Limit true) r → Ev (fun k => spL k p X) r := by
      intro r g
      refine Ev.step ?_
      show Ev (fun k => sp_schema_l1_b (tab_sp_schema_j2 k) p X.Levels X.Edges X.Tables X.Channels X.Principals X.Limit) _
      unfold sp_schema_l1_b
      simp only [if_pos he, z1, Option.bind_some, decide_eq_false hk, Bool.not_false]
      exact g
    have R : ∀ r, Ev (fun k => r06_P_Schema_j2_b (tab_r06_P_Schema_j2 k) q X.Levels X.Edges X.Tables X.Channels X.Principals X.Limit true) r → Ev (fun k => rfL k q X) r := by
      intro r g
      refine Ev.step ?_
      show Ev (fun k => r06_P_Schema_l1_b (tab_r06_P_Schema_j2 k) q X.Levels X.Edges X.Tables X.Channels X.Principals X.Limit) _
      unfold r06_P_Schema_l1_b
      simp only [if_pos hE, zq, Option.bind_some, decide_eq_false hk, Bool.not_false]
      exact g
    have hp0 := h.2.1
    have hpi := h.2.2.1
    have hti := ht.len
    have B1 := hB.b1
    have B2 := hB.b2
    have B3 := hB.b3
    have B4 := hB.b4
    have B5 := hB.b5
    -- levels
    obtain ⟨p1, q1, c1, a1, b1, _, _, k1⟩ := word_take ht h (s := s_levels) ⟨_, _, rfl, by decide⟩
    cases c1 with
    | true =>
      obtain ⟨t1, _, _⟩ := (At.refl h).took k1
      obtain ⟨p2, x2, q2, a2, b2, s2, c2, d2⟩ := names_sim ht t1.sim
      have t2 := t1.step s2
      obtain ⟨p', x, q', y, a', b', s'⟩ := cont p2 q2 ⟨X.Levels ++ x2, X.Edges, X.Tables, X.Channels, X.Principals, X.Limit⟩ ⟨X.Levels ++ x2, X.Edges, X.Tables, X.Channels, X.Principals, X.Limit⟩ ⟨t2.sim, fun e => by obtain ⟨v1, v2, v3⟩ := t2.adv e; exact ⟨v1, v2, by omega⟩⟩ fun e => ⟨rfl, by
        obtain ⟨_, _, w⟩ := t2.adv e
        obtain ⟨_, _, w1⟩ := t1.adv (s2.live e).1
        have := c2 e
        exact ⟨by show ((X.Levels ++ x2).length : Int) ≤ _; rw [List.length_append]; omega, by show (X.Edges.length : Int) ≤ _; omega, by show (X.Tables.length : Int) ≤ _; omega, by show (X.Channels.length : Int) ≤ _; omega, by show (X.Principals.length : Int) ≤ _; omega⟩⟩
      refine ⟨p', x, q', y, P _ ?_, R _ ?_, s'⟩
      · unfold sp_schema_j2_b
        simp only [if_true, a1, Option.bind_some, k_sch']
        exact Ev.bind a2 (Ev.chk (cap_two 16 (by decide) X.Levels x2 (by omega) (by omega)) a')
      · unfold r06_P_Schema_j2_b
        simp only [if_true, b1, Option.bind_some, k_sch]
        exact Ev.bind b2 (Ev.chk (cap_two 16 (by decide) X.Levels x2 (by omega) (by omega)) b')
    | false =>
    obtain ⟨v1, v2⟩ := k1.f
    rw [v1] at a1; rw [v2] at b1; clear k1 v1 v2
    -- order
    obtain ⟨p1, q1, c1, a2, b2, _, _, k1⟩ := word_take ht h (s := s_order) ⟨_, _, rfl, by decide⟩
    cases c1 with
    | true =>
      obtain ⟨t1, _, _⟩ := (At.refl h).took k1
      obtain ⟨p2, q2, x2, y2, a3, b3, s2, rfl⟩ := name_sim ht t1.sim
      have t2 := t1.step s2
      obtain ⟨p3, x3, q3, a4, b4, s3, c3, d3⟩ := loop_edges ht _ p2 q2 x2 [] t2.sim (Nat.le_refl _) (fun e => by
        obtain ⟨_, _, w⟩ := t2.adv e
        simp only [List.length_nil]; omega) (by simp)
      have t3 := t2.step s3
      obtain ⟨p', x, q', y, a', b', s'⟩ := cont p3 q3 ⟨X.Levels, X.Edges ++ x3, X.Tables, X.Channels, X.Principals, X.Limit⟩ ⟨X.Levels, X.Edges ++ x3, X.Tables, X.Channels, X.Principals, X.Limit⟩ ⟨t3.sim, fun e => by obtain ⟨v1, v2, v3⟩ := t3.adv e; exact ⟨v1, v2, by omega⟩⟩ fun e => ⟨rfl, by
        obtain ⟨_, _, w⟩ := t3.adv e
        obtain ⟨_, _, w1⟩ := t2.adv (s3.live e).1
        have := c3 e
        simp only [List.length_nil] at this
        exact ⟨by show (X.Levels.length : Int) ≤ _; omega, by show ((X.Edges ++ x3).length : Int) ≤ _; rw [List.length_append]; omega, by show (X.Tables.length : Int) ≤ _; omega, by show (X.Channels.length : Int) ≤ _; omega, by show (X.Principals.length : Int) ≤ _; omega⟩⟩
      refine ⟨p', x, q', y, P _ ?_, R _ ?_, s'⟩
      · unfold sp_schema_j2_b
        simp only [if_true, a1, a2, Option.bind_some, Bool.false_eq_true, if_false, k_sch']
        refine Ev.bind (a := (p3, x3)) ?_ (Ev.chk (cap_two 32 (by decide) X.Edges x3 (by omega) (by omega)) a')
        unfold sp_edges
        simp only [a3, Option.bind_some]
        exact a4
      · unfold r06_P_Schema_j2_b
        simp only [if_true, b1, b2, Option.bind_some, Bool.false_eq_true, if_false, k_sch]
        refine Ev.bind b3 ?_
        have := b4 X.Levels X.Edges X.Tables X.Channels X.Principals X.Limit _ (by omega) b'
        rw [List.append_nil] at this
        exact this
    | false =>
    obtain ⟨v1, v2⟩ := k1.f
    rw [v1] at a2; rw [v2] at b2; clear k1 v1 v2
    -- table
    obtain ⟨p1, q1, c1, a3, b3, _, _, k1⟩ := word_take ht h (s := s_table) ⟨_, _, rfl, by decide⟩
    cases c1 with
    | true =>
      obtain ⟨t1, _, _⟩ := (At.refl h).took k1
      obtain ⟨p2, x2, q2, y2, a4, b4, s2⟩ := table_sim ht t1.sim
      have t2 := t1.step s2
      obtain ⟨p', x, q', y, a', b', s'⟩ := cont p2 q2 ⟨X.Levels, X.Edges, X.Tables ++ [x2], X.Channels, X.Principals, X.Limit⟩ ⟨X.Levels, X.Edges, X.Tables ++ [y2], X.Channels, X.Principals, X.Limit⟩ ⟨t2.sim, fun e => by obtain ⟨v1, v2, v3⟩ := t2.adv e; exact ⟨v1, v2, by omega⟩⟩ fun e => ⟨by rw [(s2.live e).2.1], by
        obtain ⟨_, _, w⟩ := t2.adv e
        exact ⟨by show (X.Levels.length : Int) ≤ _; omega, by show (X.Edges.length : Int) ≤ _; omega, by show ((X.Tables ++ [x2]).length : Int) ≤ _; simp only [List.length_append, List.length_cons, List.length_nil]; omega, by show (X.Channels.length : Int) ≤ _; omega, by show (X.Principals.length : Int) ≤ _; omega⟩⟩
      refine ⟨p', x, q', y, P _ ?_, R _ ?_, s'⟩
      · unfold sp_schema_j2_b
        simp only [if_true, a1, a2, a3, Option.bind_some, Bool.false_eq_true, if_false, k_sch']
        exact Ev.bind a4 (Ev.chk (cap_ok 120 (by decide) _ _ (by omega)) a')
      · unfold r06_P_Schema_j2_b
        simp only [if_true, b1, b2, b3, Option.bind_some, Bool.false_eq_true, if_false, k_sch]
        exact Ev.bind b4 (Ev.chk (cap_ok 120 (by decide) _ _ (by omega)) b')
    | false =>
    obtain ⟨v1, v2⟩ := k1.f
    rw [v1] at a3; rw [v2] at b3; clear k1 v1 v2
    -- channel
    obtain ⟨p1, q1, c1, a4, b4, _, _, k1⟩ := word_take ht h (s := s_channel) ⟨_, _, rfl, by decide⟩
    cases c1 with
    | true =>
      obtain ⟨t1, _, _⟩ := (At.refl h).took k1
      obtain ⟨p2, q2, x2, y2, a5, b5, s2, rfl⟩ := name_sim ht t1.sim
      have t2 := t1.step s2
      obtain ⟨p3, q3, x3, y3, a6, b6, s3, rfl⟩ := name_sim ht t2.sim
      have t3 := t2.step s3
      obtain ⟨p', x, q', y, a', b', s'⟩ := cont p3 q3 ⟨X.Levels, X.Edges, X.Tables, X.Channels ++ [Pair.mk x2 x3], X.Principals, X.Limit⟩ ⟨X.Levels, X.Edges, X.Tables, X.Channels ++ [Pair.mk x2 x3], X.Principals, X.Limit⟩ ⟨t3.sim, fun e => by obtain ⟨v1, v2, v3⟩ := t3.adv e; exact ⟨v1, v2, by omega⟩⟩ fun e => ⟨rfl, by
        obtain ⟨_, _, w⟩ := t3.adv e
        exact ⟨by show (X.Levels.length : Int) ≤ _; omega, by show (X.Edges.length : Int) ≤ _; omega, by show (X.Tables.length : Int) ≤ _; omega, by show ((X.Channels ++ [Pair.mk x2 x3]).length : Int) ≤ _; simp only [List.length_append, List.length_cons, List.length_nil]; omega, by show (X.Principals.length : Int) ≤ _; omega⟩⟩
      refine ⟨p', x, q', y, P _ ?_, R _ ?_, s'⟩
      · unfold sp_schema_j2_b sp_pair
        simp only [if_true, a1, a2, a3, a4, a5, a6, Option.bind_some, Bool.false_eq_true, if_false]
        exact Ev.chk (cap_ok 32 (by decide) _ _ (by omega)) a'
      · unfold r06_P_Schema_j2_b
        simp only [if_true, b1, b2, b3, b4, Option.bind_some, Bool.false_eq_true, if_false, k_sch]
        exact Ev.bind b5 (Ev.bind b6 (Ev.chk (cap_ok 32 (by decide) _ _ (by omega)) b'))
    | false =>
    obtain ⟨v1, v2⟩ := k1.f
    rw [v1] at a4; rw [v2] at b4; clear k1 v1 v2
    -- principal
    obtain ⟨p1, q1, c1, a5, b5, _, _, k1⟩ := word_take ht h (s := s_principal) ⟨_, _, rfl, by decide⟩
    cases c1 with
    | true =>
      obtain ⟨t1, _, _⟩ := (At.refl h).took k1
      obtain ⟨p2, q2, x2, y2, a6, b6, s2, rfl⟩ := name_sim ht t1.sim
      have t2 := t1.step s2
      obtain ⟨p3, q3, x3, y3, a7, b7, s3, rfl⟩ := name_sim ht t2.sim
      have t3 := t2.step s3
      obtain ⟨p', x, q', y, a', b', s'⟩ := cont p3 q3 ⟨X.Levels, X.Edges, X.Tables, X.Channels, X.Principals ++ [Pair.mk x2 x3], X.Limit⟩ ⟨X.Levels, X.Edges, X.Tables, X.Channels, X.Principals ++ [Pair.mk x2 x3], X.Limit⟩ ⟨t3.sim, fun e => by obtain ⟨v1, v2, v3⟩ := t3.adv e; exact ⟨v1, v2, by omega⟩⟩ fun e => ⟨rfl, by
        obtain ⟨_, _, w⟩ := t3.adv e
        exact ⟨by show (X.Levels.length : Int) ≤ _; omega, by show (X.Edges.length : Int) ≤ _; omega, by show (X.Tables.length : Int) ≤ _; omega, by show (X.Channels.length : Int) ≤ _; omega, by show ((X.Principals ++ [Pair.mk x2 x3]).length : Int) ≤ _; simp only [List.length_append, List.length_cons, List.length_nil]; omega⟩⟩
      refine ⟨p', x, q', y, P _ ?_, R _ ?_, s'⟩
      · unfold sp_schema_j2_b sp_pair
        simp only [if_true, a1, a2, a3, a4, a5, a6, a7, Option.bind_some, Bool.false_eq_true, if_false]
        exact Ev.chk (cap_ok 32 (by decide) _ _ (by omega)) a'
      · unfold r06_P_Schema_j2_b
        simp only [if_true, b1, b2, b3, b4, b5, Option.bind_some, Bool.false_eq_true, if_false, k_sch]
        exact Ev.bind b6 (Ev.bind b7 (Ev.chk (cap_ok 32 (by decide) _ _ (by omega)) b'))
    | false =>
    obtain ⟨v1, v2⟩ := k1.f
    rw [v1] at a5; rw [v2] at b5; clear k1 v1 v2
    -- limit
    obtain ⟨p1, q1, c1, a6, b6, _, _, k1⟩ := word_take ht h (s := s_limit) ⟨_, _, rfl, by decide⟩
    cases c1 with
    | true =>
      obtain ⟨t1, _, _⟩ := (At.refl h).took k1
      obtain ⟨p2, q2, x2, y2, a7, b7, s2⟩ := num_sim ht t1.sim
      have t2 := t1.step s2
      obtain ⟨p', x, q', y, a', b', s'⟩ := cont p2 q2 ⟨X.Levels, X.Edges, X.Tables, X.Channels, X.Principals, x2⟩ ⟨X.Levels, X.Edges, X.Tables, X.Channels, X.Principals, y2⟩ ⟨t2.sim, fun e => by obtain ⟨v1, v2, v3⟩ := t2.adv e; exact ⟨v1, v2, by omega⟩⟩ fun e => ⟨by rw [(s2.live e).2.1], by
        obtain ⟨_, _, w⟩ := t2.adv e
        exact ⟨by show (X.Levels.length : Int) ≤ _; omega, by show (X.Edges.length : Int) ≤ _; omega, by show (X.Tables.length : Int) ≤ _; omega, by show (X.Channels.length : Int) ≤ _; omega, by show (X.Principals.length : Int) ≤ _; omega⟩⟩
      refine ⟨p', x, q', y, P _ ?_, R _ ?_, s'⟩
      · unfold sp_schema_j2_b
        simp only [if_true, a1, a2, a3, a4, a5, a6, a7, Option.bind_some, Bool.false_eq_true, if_false]
        exact a'
      · unfold r06_P_Schema_j2_b
        simp only [if_true, b1, b2, b3, b4, b5, b6, b7, Option.bind_some, Bool.false_eq_true, if_false]
        exact b'
    | false =>
    obtain ⟨v1, v2⟩ := k1.f
    rw [v1] at a6; rw [v2] at b6; clear k1 v1 v2
    obtain ⟨p2, q2, w1, w2, w3, w4, _⟩ := bad_sim h (n := 10) (by decide)
    obtain ⟨p', x, q', y, a', b', s'⟩ := cont p2 q2 X X ⟨w3, fun e => absurd e w4⟩ fun e => absurd e w4
    refine ⟨p', x, q', y, P _ ?_, R _ ?_, s'⟩
    · unfold sp_schema_j2_b
      simp only [if_true, a1, a2, a3, a4, a5, a6, w1, Option.bind_some, Bool.false_eq_true, if_false]
      exact a'
    · unfold r06_P_Schema_j2_b
      simp only [if_true, b1, b2, b3, b4, b5, b6, w2, Option.bind_some, Bool.false_eq_true, if_false]
      exact b'

theorem schema_sim (ht : Toks t) (h : Sim t p q) (he : p.e = 0) : ∃ p' x q' y, Ev (fun k => sp_schema k p) (p', x) ∧ Ev (fun k => r06_P_Schema k q) (q', y) ∧ Stp t 0 p p' x q' y := by
  have := h.2.1
  exact loop_schema ht _ p q ⟨[], [], [], [], [], 0⟩ h (Nat.le_refl _) he ⟨this, this, this, this, this⟩

end Go.Syn
