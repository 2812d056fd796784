/- Plain laws of the two parsers: schemas, the parts: names, columns, tables. -/
import Derived.Test.YtoioflodpmideaaGreatP17
import Derived.Test.YtoioflodpmideaaGreatM5
namespace Go.Syn
open Go.Abs

variable {t : List Token} {p : Parser} {q : PT}

theorem k_names (k : Nat) : (tab_r06_P_names_l1 k).k = k := by cases k <;> rfl
theorem k_table (k : Nat) : (tab_r06_P_table_l1 k).k = k := by cases k <;> rfl

theorem At.took' {p0 p' : Parser} {q' : PT} {c : Int} {b : Bool} (h : At t p0 c p q) (s : Took t p q p' q' b) : At t p0 c p' q' := by
  cases b with
  | true =>
    obtain ⟨t1, _, _⟩ := h.took s
    exact ⟨t1.sim, fun he => by obtain ⟨u1, u2, u3⟩ := t1.adv he; exact ⟨u1, u2, by omega⟩⟩
  | false =>
    obtain ⟨rfl, rfl⟩ := s.f
    exact h

theorem expr_any (ht : Toks t) (h : Sim t p q) : Duo t 1 sp_expr r06_P_Expr p q := (all_sim ht (rem t p + 1)).exprS h fun _ => by omega

theorem loop_names (ht : Toks t) : ∀ N p q (x : List Str), Sim t p q → rem t p ≤ N → (p.e = 0 → (x.length : Int) ≤ p.i) → x.length ≤ 100001 →
    ∃ p' x' q', Ev (fun k => syntax_list_g_l1 k p x) (p', x') ∧ Ev (fun k => r06_P_names_l1 k q x) (q', x') ∧ Stp t 0 p p' x' q' x' ∧ (p'.e = 0 → (x'.length : Int) - x.length ≤ p'.i - p.i) ∧ x'.length ≤ 100001 := by
  intro N
  induction N with
  | zero =>
    intro p q x h hr _ hl
    have he : p.e ≠ 0 := fun he => by have := rem_live h he; omega
    obtain ⟨p1, q1, c1, a1, b1, _, i1, k1⟩ := mark_take ht h (s := s_x2c) ⟨_, _, rfl, by decide⟩
    rcases k1 with ⟨rfl, rfl, rfl⟩ | ⟨_, e, _⟩
    · refine ⟨p1, x, q1, Ev.step (Ev.now fun k => ?_), Ev.step (Ev.now fun k => ?_), ⟨h, fun h => absurd h he⟩, fun h => absurd h he, hl⟩
      · show syntax_list_g_l1_b (tab_syntax_list_g_l1 k) p1 x = _
        unfold syntax_list_g_l1_b
        rw [a1]; rfl
      · show r06_P_names_l1_b (tab_r06_P_names_l1 k) q1 x = _
        unfold r06_P_names_l1_b
        rw [b1]; rfl
    · exact absurd e he
  | succ N ihN =>
    intro p q x h hr hb hl
    obtain ⟨p1, q1, c1, a1, b1, _, i1, k1⟩ := mark_take ht h (s := s_x2c) ⟨_, _, rfl, by decide⟩
    cases c1 with
    | false =>
      obtain ⟨rfl, rfl⟩ := k1.f
      refine ⟨p1, x, q1, Ev.step (Ev.now fun k => ?_), Ev.step (Ev.now fun k => ?_), ⟨h, fun he => ⟨he, rfl, rfl, by omega⟩⟩, fun _ => by omega, hl⟩
      · show syntax_list_g_l1_b (tab_syntax_list_g_l1 k) p1 x = _
        unfold syntax_list_g_l1_b
        rw [a1]; rfl
      · show r06_P_names_l1_b (tab_r06_P_names_l1 k) q1 x = _
        unfold r06_P_names_l1_b
        rw [b1]; rfl
    | true =>
      obtain ⟨t1, e0, e1⟩ := (At.refl h).took k1
      obtain ⟨p2, q2, x2, y2, a2, b2, s2, rfl⟩ := name_sim ht t1.sim
      have t2 := t1.step s2
      have r2 : rem t p2 ≤ N := by
        by_cases e3 : p2.e = 0
        · have := At.rem (n := N + 1) h hr t2 (by decide) e3; omega
        · rw [rem_dead e3]; omega
      have hlen := hb e0
      have hti := ht.len
      have hpi := h.2.2.1
      obtain ⟨p', x', q', a', b', s', c', d'⟩ := ihN p2 q2 (x ++ [x2]) s2.sim r2 (fun he => by
        obtain ⟨_, _, w⟩ := t2.adv he
        simp only [List.length_append, List.length_cons, List.length_nil]; omega) (by simp only [List.length_append, List.length_cons, List.length_nil]; omega)
      refine ⟨p', x', q', Ev.step ?_, Ev.step ?_, (t2.step s').stp (by decide) fun _ => rfl, fun he => ?_, d'⟩
      · show Ev (fun k => syntax_list_g_l1_b (tab_syntax_list_g_l1 k) p x) _
        unfold syntax_list_g_l1_b
        simp only [a1, Option.bind_some, if_true, a2]
        exact Ev.chk (cap_ok 16 (by decide) x x2 (by omega)) a'
      · show Ev (fun k => r06_P_names_l1_b (tab_r06_P_names_l1 k) q x) _
        unfold r06_P_names_l1_b
        simp only [b1, Option.bind_some, if_true, k_names]
        refine Ev.bind b2 ?_
        exact Ev.chk (cap_ok 16 (by decide) x x2 (by omega)) b'
      · have := c' he
        obtain ⟨_, _, w⟩ := t2.adv (s'.live he).1
        simp only [List.length_append, List.length_cons, List.length_nil] at this
        omega

theorem names_sim (ht : Toks t) (h : Sim t p q) : ∃ p' x q', Ev (fun k => syntax_list_g k p) (p', x) ∧ Ev (fun k => r06_P_names k q) (q', x) ∧ Stp t 1 p p' x q' x ∧ (p'.e = 0 → (x.length : Int) ≤ p'.i - p.i) ∧ x.length ≤ 100001 := by
  obtain ⟨p1, q1, x1, y1, a1, b1, s1, rfl⟩ := name_sim ht h
  have hp := h.2.1
  obtain ⟨p', x', q', a', b', s', c', d'⟩ := loop_names ht _ p1 q1 [x1] s1.sim (Nat.le_refl _) (fun he => by
    have := (s1.live he).2.2.2
    simp only [List.length_cons, List.length_nil]; omega) (by simp)
  refine ⟨p', x', q', ?_, ?_, (((At.refl h).step s1).step s').stp (by decide) fun _ => rfl, fun he => ?_, d'⟩
  · unfold syntax_list_g
    simp only [a1, Option.bind_some]
    exact a'
  · unfold r06_P_names
    exact Ev.bind b1 b'
  · have := c' he
    have := (s1.live (s'.live he).1).2.2.2
    simp only [List.length_cons, List.length_nil] at *
    omega

theorem ty_sim (ht : Toks t) (h : Sim t p q) : ∃ p' x q' y, sp_typed p = some (p', x) ∧ r06_P_ty q = some (q', y) ∧ Stp t 1 p p' x q' y := by
  obtain ⟨p1, q1, c1, a1, b1, _, _, k1⟩ := word_take ht h (s := s_int) ⟨_, _, rfl, by decide⟩
  cases c1 with
  | true =>
    obtain ⟨t1, _, _⟩ := (At.refl h).took k1
    refine ⟨p1, 2, q1, 2, ?_, ?_, t1.stp (by decide) fun _ => rfl⟩
    · unfold sp_typed; simp only [a1, Option.bind_some, if_true]
    · unfold r06_P_ty; simp only [b1, Option.bind_some, if_true]
  | false =>
    obtain ⟨z1, z2⟩ := k1.f
    rw [z1] at a1; rw [z2] at b1; clear k1 z1 z2
    obtain ⟨p2, q2, c2, a2, b2, _, _, k2⟩ := word_take ht h (s := s_bool) ⟨_, _, rfl, by decide⟩
    cases c2 with
    | true =>
      obtain ⟨t1, _, _⟩ := (At.refl h).took k2
      refine ⟨p2, 1, q2, 1, ?_, ?_, t1.stp (by decide) fun _ => rfl⟩
      · unfold sp_typed; simp only [a1, a2, Option.bind_some, if_true, Bool.false_eq_true, if_false]
      · unfold r06_P_ty; simp only [b1, b2, Option.bind_some, if_true, Bool.false_eq_true, if_false]
    | false =>
      obtain ⟨z1, z2⟩ := k2.f
      rw [z1] at a2; rw [z2] at b2; clear k2 z1 z2
      obtain ⟨p3, q3, c3, a3, b3, _, _, k3⟩ := word_take ht h (s := s_text) ⟨_, _, rfl, by decide⟩
      cases c3 with
      | true =>
        obtain ⟨t1, _, _⟩ := (At.refl h).took k3
        refine ⟨p3, 3, q3, 3, ?_, ?_, t1.stp (by decide) fun _ => rfl⟩
        · unfold sp_typed; simp only [a1, a2, a3, Option.bind_some, if_true, Bool.false_eq_true, if_false]
        · unfold r06_P_ty; simp only [b1, b2, b3, Option.bind_some, if_true, Bool.false_eq_true, if_false]
      | false =>
        obtain ⟨z1, z2⟩ := k3.f
        rw [z1] at a3; rw [z2] at b3; clear k3 z1 z2
        obtain ⟨p4, q4, h4, h5, h6, h7, _⟩ := bad_sim h (n := 10) (by decide)
        refine ⟨p4, 0, q4, 0, ?_, ?_, h6, fun he => absurd he h7⟩
        · unfold sp_typed; simp only [a1, a2, a3, h4, Option.bind_some, Bool.false_eq_true, if_false]
        · unfold r06_P_ty; simp only [b1, b2, b3, h5, Option.bind_some, Bool.false_eq_true, if_false]

noncomputable def rCl (k : Nat) (q : PT) : Option (PT × Col) :=
  (r06_P_name k q).bind fun a => (r06_P_ty a.1).bind fun b => (r06_P_take b.1 s_null).bind fun c => (r06_P_name k c.1).bind fun d => some (d.1, Col.mk a.2 b.2 c.2 d.2)

theorem tcol_sim (ht : Toks t) (h : Sim t p q) : ∃ p' x q' y, sp_col p = some (p', x) ∧ Ev (fun k => rCl k q) (q', y) ∧ Stp t 1 p p' x q' y := by
  obtain ⟨p1, q1, x1, y1, a1, b1, s1, rfl⟩ := name_sim ht h
  have t1 := (At.refl h).step s1
  obtain ⟨p2, x2, q2, y2, a2, b2, s2⟩ := ty_sim ht t1.sim
  have t2 := t1.step s2
  obtain ⟨p3, q3, c3, a3, b3, _, _, k3⟩ := word_take ht t2.sim (s := s_null) ⟨_, _, rfl, by decide⟩
  have t3 := t2.took' k3
  obtain ⟨p4, q4, x4, y4, a4, b4, s4, rfl⟩ := name_sim ht t3.sim
  have t4 := t3.step s4
  have back : p3.e = 0 → p2.e = 0 := fun he => by
    cases c3 with
    | true => exact (t2.took k3).2.1
    | false => obtain ⟨rfl, rfl⟩ := k3.f; exact he
  refine ⟨p4, Col.mk x1 x2 c3 x4, q4, Col.mk x1 y2 c3 x4, ?_, ?_, t4.stp (by decide) fun he => by rw [(s2.live (back (s4.live he).1)).2.1]⟩
  · unfold sp_col
    simp only [a1, a2, a3, a4, Option.bind_some]
  · unfold rCl
    refine Ev.bind b1 ?_
    simp only [b2, b3, Option.bind_some]
    exact Ev.bind b4 (Ev.now fun _ => rfl)

theorem tcol_ref {n1 n2 : Str} {q q1 : PT} {l : List Col} {y : Col} {r : PT × Table} (hl : l.length ≤ 1000000) (h : Ev (fun k => rCl k q) (q1, y)) (h2 : Ev (fun k => (r06_P_take q1 s_x2c).bind fun a => r06_P_table_l1 k a.1 n1 n2 (l ++ [y]) a.2) r) :
    Ev (fun k => r06_P_table_l1 k q n1 n2 l true) r := by
  refine Ev.step ?_
  show Ev (fun k => r06_P_table_l1_b (tab_r06_P_table_l1 k) q n1 n2 l true) _
  unfold r06_P_table_l1_b
  simp only [if_true]
  refine Ev.same (Ev.bind (c := fun k z => chk (CapOk 48 l [z.2]) ((r06_P_take z.1 s_x2c).bind fun a => r06_P_table_l1 k a.1 n1 n2 (l ++ [z.2]) a.2)) h (Ev.chk (cap_ok 48 (by decide) l y hl) h2)) fun k => ?_
  unfold rCl
  simp only [Option.bind_assoc, Option.bind_some, k_table]
  rfl

theorem loop_tcols (ht : Toks t) (n1 n2 : Str) : ∀ N p q (x y : List Col), Sim t p q → rem t p ≤ N → (p.e = 0 → y = x) → y.length = x.length → (p.e = 0 → (x.length : Int) ≤ p.i + 1) →
    ∃ p' x' q' y', Ev (fun k => syntax_list_l_l1 k p x) (p', x') ∧ (∀ r, Ev (fun k => r06_P_table_l1 k q' n1 n2 y' false) r → Ev (fun k => (r06_P_take q s_x2c).bind fun a => r06_P_table_l1 k a.1 n1 n2 y a.2) r) ∧ Stp t 0 p p' x' q' y' := by
  have stop : ∀ p q (x y : List Col), Sim t p q → sp_mark p s_x2c = some (p, false) → r06_P_take q s_x2c = some (q, false) → Ev (fun k => syntax_list_l_l1 k p x) (p, x) ∧ ∀ r, Ev (fun k => r06_P_table_l1 k q n1 n2 y false) r → Ev (fun k => (r06_P_take q s_x2c).bind fun a => r06_P_table_l1 k a.1 n1 n2 y a.2) r := by
    intro p q x y h a1 b1
    refine ⟨Ev.step (Ev.now fun k => ?_), fun r hr => ?_⟩
    · show syntax_list_l_l1_b (tab_syntax_list_l_l1 k) p x = _
      unfold syntax_list_l_l1_b
      rw [a1]; rfl
    · simp only [b1, Option.bind_some]; exact hr
  intro N
  induction N with
  | zero =>
    intro p q x y h hr hv _ _
    have he : p.e ≠ 0 := fun he => by have := rem_live h he; omega
    obtain ⟨p1, q1, c1, a1, b1, _, i1, k1⟩ := mark_take ht h (s := s_x2c) ⟨_, _, rfl, by decide⟩
    rcases k1 with ⟨rfl, rfl, rfl⟩ | ⟨_, e, _⟩
    · obtain ⟨u, v⟩ := stop p1 q1 x y h a1 b1
      exact ⟨p1, x, q1, y, u, v, h, fun h => absurd h he⟩
    · exact absurd e he
  | succ N ihN =>
    intro p q x y h hr hv hl hb
    obtain ⟨p1, q1, c1, a1, b1, _, i1, k1⟩ := mark_take ht h (s := s_x2c) ⟨_, _, rfl, by decide⟩
    cases c1 with
    | false =>
      obtain ⟨rfl, rfl⟩ := k1.f
      obtain ⟨u, v⟩ := stop p1 q1 x y h a1 b1
      exact ⟨p1, x, q1, y, u, v, h, fun he => ⟨he, hv he, rfl, by omega⟩⟩
    | true =>
      obtain ⟨t1, e0, e1⟩ := (At.refl h).took k1
      obtain ⟨p2, x2, q2, y2, a2, b2, s2⟩ := tcol_sim ht t1.sim
      have t2 := t1.step s2
      have r2 : rem t p2 ≤ N := by
        by_cases e3 : p2.e = 0
        · have := At.rem (n := N + 1) h hr t2 (by decide) e3; omega
        · rw [rem_dead e3]; omega
      have hlen := hb e0
      have hti := ht.len
      have hpi := h.2.2.1
      obtain ⟨p', x', q', y', a', b', s'⟩ := ihN p2 q2 (x ++ [x2]) (y ++ [y2]) s2.sim r2 (fun he => by rw [(s2.live he).2.1, hv e0]) (by simp [hl]) (fun he => by
        obtain ⟨_, _, w⟩ := t2.adv he
        simp only [List.length_append, List.length_cons, List.length_nil]; omega)
      refine ⟨p', x', q', y', Ev.step ?_, fun r hr => ?_, (t2.step s').stp (by decide) fun he => (s'.live he).2.1⟩
      · show Ev (fun k => syntax_list_l_l1_b (tab_syntax_list_l_l1 k) p x) _
        unfold syntax_list_l_l1_b
        simp only [a1, Option.bind_some, if_true, a2]
        exact Ev.chk (cap_ok 48 (by decide) x x2 (by omega)) a'
      · simp only [b1, Option.bind_some]
        exact tcol_ref (by omega) b2 (b' r hr)

noncomputable def pHide (k : Nat) (p : Parser) (mk : Str → List Expr → Table) : Option (Parser × Table) :=
  (sp_word p s_hide).bind fun a => if a.2 = true then (sp_name a.1).bind fun b => (sp_must b.1 s_when).bind fun c => (sp_expr k c).bind fun d => some (d.1, mk b.2 [d.2]) else some (a.1, mk [] [])
noncomputable def rHide (k : Nat) (q : PT) (mk : Str → List Expr → Table) : Option (PT × Table) :=
  (r06_P_take q s_hide).bind fun a => if a.2 = true then (r06_P_name k a.1).bind fun b => (r06_P_must b.1 s_when).bind fun c => (r06_P_Expr k c).bind fun d => some (d.1, mk b.2 [d.2]) else some (a.1, mk [] [])

theorem hide_sim (ht : Toks t) (h : Sim t p q) (mk mk' : Str → List Expr → Table) (hv : p.e = 0 → mk' = mk) : ∃ p' x q' y, Ev (fun k => pHide k p mk) (p', x) ∧ Ev (fun k => rHide k q mk') (q', y) ∧ Stp t 0 p p' x q' y := by
  obtain ⟨p1, q1, c, a1, b1, _, _, k1⟩ := word_take ht h (s := s_hide) ⟨_, _, rfl, by decide⟩
  cases c with
  | true =>
    obtain ⟨t1, e0, _⟩ := (At.refl h).took k1
    obtain ⟨p2, q2, x2, y2, a2, b2, s2, rfl⟩ := name_sim ht t1.sim
    have t2 := t1.step s2
    obtain ⟨p3, q3, a3, b3, s3⟩ := must_sim ht t2.sim (s := s_when) ⟨_, _, rfl, by decide⟩
    have t3 := t2.step s3
    obtain ⟨p4, x4, q4, y4, a4, b4, s4⟩ := expr_any ht t3.sim
    refine ⟨p4, mk x2 [x4], q4, mk' x2 [y4], ?_, ?_, (t3.step s4).stp (by decide) fun he => by rw [hv e0, (s4.live he).2.1]⟩
    · unfold pHide
      simp only [a1, a2, a3, Option.bind_some, if_true]
      exact Ev.bind a4 (Ev.now fun _ => rfl)
    · unfold rHide
      simp only [b1, Option.bind_some, if_true]
      refine Ev.bind b2 ?_
      simp only [b3, Option.bind_some]
      exact Ev.bind b4 (Ev.now fun _ => rfl)
  | false =>
    obtain ⟨rfl, rfl⟩ := k1.f
    refine ⟨p1, mk [] [], q1, mk' [] [], Ev.now fun k => ?_, Ev.now fun k => ?_, h, fun he => ⟨he, by rw [hv he], rfl, by omega⟩⟩
    · unfold pHide; simp only [a1, Option.bind_some, Bool.false_eq_true, if_false]
    · unfold rHide; simp only [b1, Option.bind_some, Bool.false_eq_true, if_false]

theorem table_sim (ht : Toks t) (h : Sim t p q) : Duo t 1 sp_table r06_P_table p q := by
  obtain ⟨p1, q1, x1, y1, a1, b1, s1, rfl⟩ := name_sim ht h
  have t1 := (At.refl h).step s1
  obtain ⟨p2, q2, a2, b2, s2⟩ := must_sim ht t1.sim (s := s_rows) ⟨_, _, rfl, by decide⟩
  have t2 := t1.step s2
  obtain ⟨p3, q3, x3, y3, a3, b3, s3, rfl⟩ := name_sim ht t2.sim
  have t3 := t2.step s3
  obtain ⟨p4, q4, a4, b4, s4⟩ := need_sim ht t3.sim (s := s_x28) ⟨_, _, rfl, by decide⟩
  have t4 := t3.step s4
  obtain ⟨p5, x5, q5, y5, a5, b5, s5⟩ := tcol_sim ht t4.sim
  have t5 := t4.step s5
  obtain ⟨p6, x6, q6, y6, a6, b6, s6⟩ := loop_tcols ht x1 x3 _ p5 q5 [x5] [y5] s5.sim (Nat.le_refl _) (fun he => by rw [(s5.live he).2.1]) rfl (fun he => by
    obtain ⟨_, _, w⟩ := t5.adv he
    have := h.2.1
    simp only [List.length_cons, List.length_nil]; omega)
  have t6 := t5.step s6
  obtain ⟨p7, q7, a7, b7, s7⟩ := need_sim ht t6.sim (s := s_x29) ⟨_, _, rfl, by decide⟩
  have t7 := t6.step s7
  obtain ⟨p8, q8, c8, a8, b8, _, _, k8⟩ := word_take ht t7.sim (s := s_key) ⟨_, _, rfl, by decide⟩
  have hv7 : p7.e = 0 → y6 = x6 := fun he => (s6.live (s7.live he).1).2.1
  have P : ∀ r, Ev (fun k => if c8 = true then ((sp_need p8 s_x28).bind fun r12 => (syntax_list_g k r12).bind fun a => (sp_need a.1 s_x29).bind fun r15 => pHide k r15 (fun u w => Table.mk x1 x3 x6 a.2 u w)) else pHide k p8 (fun u w => Table.mk x1 x3 x6 [] u w)) r → Ev (fun k => sp_table k p) r := by
    intro r hr
    unfold sp_table
    simp only [a1, a2, a3, a4, Option.bind_some]
    refine Ev.bind (a := (p6, x6)) ?_ ?_
    · unfold syntax_list_l
      simp only [a5, Option.bind_some]
      exact a6
    · simp only [a7, a8, Option.bind_some]
      exact hr
  have R : ∀ r, Ev (fun k => if c8 = true then ((r06_P_must q8 s_x28).bind fun r12 => (r06_P_names k r12).bind fun a => (r06_P_must a.1 s_x29).bind fun r15 => rHide k r15 (fun u w => Table.mk x1 x3 y6 a.2 u w)) else rHide k q8 (fun u w => Table.mk x1 x3 y6 [] u w)) r → Ev (fun k => r06_P_table k q) r := by
    intro r hr
    unfold r06_P_table
    refine Ev.bind b1 ?_
    simp only [b2, Option.bind_some]
    refine Ev.bind b3 ?_
    simp only [b4, Option.bind_some]
    refine tcol_ref (l := []) (by decide) b5 (b6 _ (Ev.step ?_))
    show Ev (fun k => r06_P_table_l1_b (tab_r06_P_table_l1 k) q6 x1 x3 y6 false) _
    unfold r06_P_table_l1_b
    simp only [Bool.false_eq_true, if_false, b7, b8, Option.bind_some, k_table]
    exact hr
  cases c8 with
  | true =>
    obtain ⟨t8, e7, e8⟩ := t7.took k8
    obtain ⟨p9, q9, a9, b9, s9⟩ := need_sim ht t8.sim (s := s_x28) ⟨_, _, rfl, by decide⟩
    have t9 := t8.step s9
    obtain ⟨p10, x10, q10, a10, b10, s10, _, _⟩ := names_sim ht t9.sim
    have t10 := t9.step s10
    obtain ⟨p11, q11, a11, b11, s11⟩ := need_sim ht t10.sim (s := s_x29) ⟨_, _, rfl, by decide⟩
    have t11 := t10.step s11
    obtain ⟨p', x, q', y, a', b', s'⟩ := hide_sim ht t11.sim (fun u w => Table.mk x1 x3 x6 x10 u w) (fun u w => Table.mk x1 x3 y6 x10 u w) fun _ => by rw [hv7 e7]
    refine ⟨p', x, q', y, P _ ?_, R _ ?_, (t11.step s').stp (by decide) fun he => (s'.live he).2.1⟩
    · simp only [if_true, a9, Option.bind_some]
      refine Ev.bind a10 ?_
      simp only [a11, Option.bind_some]
      exact a'
    · simp only [if_true, b9, Option.bind_some]
      refine Ev.bind b10 ?_
      simp only [b11, Option.bind_some]
      exact b'
  | false =>
    obtain ⟨rfl, rfl⟩ := k8.f
    obtain ⟨p', x, q', y, a', b', s'⟩ := hide_sim ht t7.sim (fun u w => Table.mk x1 x3 x6 [] u w) (fun u w => Table.mk x1 x3 y6 [] u w) fun he => by rw [hv7 he]
    refine ⟨p', x, q', y, P _ ?_, R _ ?_, (t7.step s').stp (by decide) fun he => (s'.live he).2.1⟩
    · simp only [Bool.false_eq_true, if_false]; exact a'
    · simp only [Bool.false_eq_true, if_false]; exact b'

end Go.Syn
