/- Plain laws of the two parsers: signs, products, sums. (The two loops are printed by a program of this session.) -/
import Derived.Test.YtoioflodpmideaaP5
namespace Go.Syn
open Go.Abs

variable {t : List Token} {p : Parser} {q : PT} {n : Nat}

theorem tabk (k : Nat) : (tab_r06_P_Expr k).k = k := by cases k <;> rfl

theorem Sim.rem_lt {p' : Parser} {q' : PT} (h : Sim t p q) (he : p.e = 0) (h' : Sim t p' q') (he' : p'.e = 0) (hi : p.i + 1 ≤ p'.i) : rem t p' < rem t p := by
  obtain ⟨_, _, h1, _⟩ := h
  obtain ⟨_, _, h2, _⟩ := h'
  unfold rem; rw [if_pos he, if_pos he']; omega

theorem Stp.rem_le {p' : Parser} {q' : PT} {m : Int} {α : Type} {x y : α} (h : Sim t p q) (s : Stp t m p p' x q' y) (hm : 0 ≤ m) : rem t p' ≤ rem t p := by
  by_cases he : p'.e = 0
  · obtain ⟨h1, _, _, h4⟩ := s.live he
    obtain ⟨_, _, h2, _⟩ := h
    obtain ⟨_, _, h3, _⟩ := s.sim
    unfold rem; rw [if_pos he, if_pos h1]; omega
  · rw [rem_dead he]; omega

/-- One deeper, and out again. -/
theorem deep_sim {α : Type} {f : Nat → Parser → Option (Parser × α)} {g : Nat → PT → Option (PT × α)} (hf : For t n f g) (h : Sim t p q) (he : p.e = 0) (hr : rem t p < n) :
    (∃ p2 q2, sp_enter p = some (p2, false) ∧ r06_P_down q = some q2 ∧ p2.e ≠ 0 ∧ q2.E ≠ 0 ∧ Sim t p2 q2) ∨
    ∃ p2 q2 p3 x q3 y, sp_enter p = some (p2, true) ∧ r06_P_down q = some q2 ∧ q2.E = 0 ∧ Ev (fun k => f k p2) (p3, x) ∧ Ev (fun k => g k q2) (q3, y) ∧ sp_leave p3 = some (up p3) ∧ Stp t 1 p (up p3) x (upT q3) y := by
  obtain ⟨p2, q2, b, h1, h2, h3, h4⟩ := enter_sim h
  rcases h4 with ⟨rfl, _, h5, h6, h7⟩ | ⟨rfl, h5⟩
  · right
    obtain ⟨_, _, g1, g2, g3, g4⟩ := h.live he
    have hr2 : rem t p2 < n := by unfold rem at hr ⊢; rw [if_pos he] at hr; rw [if_pos h5, h6]; exact hr
    obtain ⟨p3, x, q3, y, a, b, s⟩ := hf p2 q2 h3 h5 hr2
    obtain ⟨l1, l2, l3⟩ := leave_sim s.sim fun he3 => by
      obtain ⟨_, _, d, _⟩ := s.live he3
      omega
    refine ⟨p2, q2, p3, x, q3, y, h1, h2, by rw [h3.e]; exact h5, a, b, l1, l2, fun he3 => ?_⟩
    have he3' : p3.e = 0 := he3
    obtain ⟨_, v, d, i⟩ := s.live he3'
    have := l3 he3'
    exact ⟨he, v, by omega, by show p.i + 1 ≤ p3.i; omega⟩
  · left
    exact ⟨p2, q2, h1, h2, h5, by rw [h3.e]; exact h5, h3⟩

theorem unary_sim (ht : Toks t) (ih : IH t n) (h : Sim t p q) (he : p.e = 0) (hn : rem t p ≤ n) : Duo t 1 sp_unary r06_P_unary p q := by
  obtain ⟨p1, q1, b, a1, b1, _, _, k1⟩ := mark_take ht h (s := s_x2d) ⟨_, _, rfl, by decide⟩
  cases b with
  | false =>
    obtain ⟨rfl, rfl⟩ := k1.f
    obtain ⟨p9, x9, q9, y9, a9, b9, s9⟩ := prim_sim ht ih h he hn
    refine ⟨p9, x9, q9, y9, Ev.step ?_, Ev.step ?_, s9⟩
    · show Ev (fun k => sp_unary_b (tab_sp_bracketed k) p1) _
      unfold sp_unary_b
      simp only [a1, Option.bind_some, Bool.false_eq_true, if_false]
      exact Ev.bind a9 (Ev.now fun _ => rfl)
    · show Ev (fun k => r06_P_unary_b (tab_r06_P_Expr k) q1) _
      unfold r06_P_unary_b
      simp only [b1, Option.bind_some, Bool.false_eq_true, if_false]
      exact Ev.bind b9 (Ev.now fun _ => rfl)
  | true =>
    obtain ⟨t1, _, e1⟩ := (At.refl h).took k1
    rcases deep_sim ih.unary t1.sim e1 (At.rem h hn t1 (by decide) e1) with ⟨p2, q2, a2, b2, d2, d2', s2⟩ | ⟨p2, q2, p3, x3, q3, y3, a2, b2, d2, a3, b3, l3, s3⟩
    · refine ⟨p2, Expr.mk 0 0 [] [] [] [], upT q2, Expr.mk 0 0 [] [] [] [], Ev.step ?_, Ev.step ?_, ⟨s2.1, s2.2.1, s2.2.2.1, .inr ⟨d2, s2.e, s2.at_⟩⟩, fun h => absurd h d2⟩
      · show Ev (fun k => sp_unary_b (tab_sp_bracketed k) p) _
        unfold sp_unary_b
        simp only [a1, Option.bind_some, if_true]
        refine Ev.bind (a := (p2, Expr.mk 0 0 [] [] [] [])) (Ev.step ?_) (Ev.now fun _ => rfl)
        show Ev (fun k => sp_inner_unary_b (tab_sp_bracketed k) p1 7) _
        unfold sp_inner_unary_b
        simp only [a2, Option.bind_some, Bool.false_eq_true, if_false]
        exact Ev.now fun _ => rfl
      · show Ev (fun k => r06_P_unary_b (tab_r06_P_Expr k) q) _
        unfold r06_P_unary_b
        simp only [b1, Option.bind_some, if_true, b2, if_neg d2']
        exact Ev.now fun _ => rfl
    · refine ⟨up p3, Expr.mk 7 0 [] [] [x3] [], upT q3, Expr.mk 7 0 [] [] [y3] [], Ev.step ?_, Ev.step ?_, (t1.step s3).stp (by decide) fun he3 => by rw [(s3.live he3).2.1]⟩
      · show Ev (fun k => sp_unary_b (tab_sp_bracketed k) p) _
        unfold sp_unary_b
        simp only [a1, Option.bind_some, if_true]
        refine Ev.bind (a := (up p3, Expr.mk 7 0 [] [] [x3] [])) (Ev.step ?_) (Ev.now fun _ => rfl)
        show Ev (fun k => sp_inner_unary_b (tab_sp_bracketed k) p1 7) _
        unfold sp_inner_unary_b
        simp only [a2, Option.bind_some, if_true]
        refine Ev.bind a3 ?_
        simp only [l3, Option.bind_some]
        exact Ev.now fun _ => rfl
      · show Ev (fun k => r06_P_unary_b (tab_r06_P_Expr k) q) _
        unfold r06_P_unary_b
        simp only [b1, Option.bind_some, if_true, b2, if_pos d2]
        exact Ev.bind b3 (Ev.now fun _ => rfl)


theorem scan_unary {o : Option Str} {p1 : Parser} (l : List Str) (hl : l.length ≤ 1000) (hm : ∀ s ∈ l, sp_mark p s = some (if o = some s then (p1, true) else (p, false))) (x : Expr) : ∀ m i : Nat, i + m = l.length →
    ((∀ s, o = some s → s ∉ l.drop i) → Ev (fun k => sp_left_unary_l2 k p x l l (l.length : Int) (i : Int)) (p, x)) ∧
    ∀ s r p2 x2, o = some s → s ∈ l.drop i → Ev (fun k => sp_unary k p1) (p2, x2) → Ev (fun k => sp_left_unary_l1 k p2 (Expr.mk 10 0 s [] [x, x2] []) l) r → Ev (fun k => sp_left_unary_l2 k p x l l (l.length : Int) (i : Int)) r := by
  intro m
  induction m with
  | zero =>
    intro i hi
    refine ⟨fun _ => Ev.step (Ev.now fun k => ?_), fun s r p2 x2 _ hs => ?_⟩
    · show sp_left_unary_l2_b (tab_sp_bracketed k) p x l l (l.length : Int) (i : Int) = _
      unfold sp_left_unary_l2_b
      rw [if_neg (by omega)]
    · rw [List.drop_of_length_le (by omega)] at hs; simp at hs
  | succ m ih =>
    intro i hi
    have hlt : i < l.length := by omega
    have hx : idx l (i : Int) = some l[i] := by unfold idx; rw [if_pos (by omega)]; simp [hlt]
    have hd : l.drop i = l[i] :: l.drop (i + 1) := List.drop_eq_getElem_cons hlt
    have hw : IntKind.i64.wrap ((i : Int) + 1) = ((i + 1 : Nat) : Int) := by rw [wrap_eq (by omega) (by omega)]; rfl
    obtain ⟨ih1, ih2⟩ := ih (i + 1) (by omega)
    refine ⟨fun hno => Ev.step ?_, fun s r p2 x2 ho hs h1 h2 => Ev.step ?_⟩
    · show Ev (fun k => sp_left_unary_l2_b (tab_sp_bracketed k) p x l l (l.length : Int) (i : Int)) _
      have hne : ¬ o = some l[i] := fun e => hno _ e (by rw [hd]; exact List.mem_cons_self ..)
      unfold sp_left_unary_l2_b
      simp only [if_pos (show (i : Int) < (l.length : Int) by omega), hx, Option.bind_some, hw, hm l[i] (List.getElem_mem hlt), if_neg hne, Bool.false_eq_true, if_false]
      exact ih1 fun s hs hm => hno s hs (by rw [hd]; exact List.mem_cons_of_mem _ hm)
    · show Ev (fun k => sp_left_unary_l2_b (tab_sp_bracketed k) p x l l (l.length : Int) (i : Int)) _
      unfold sp_left_unary_l2_b
      by_cases he : o = some l[i]
      · have hsl : s = l[i] := by rw [ho] at he; simpa using he
        simp only [if_pos (show (i : Int) < (l.length : Int) by omega), hx, Option.bind_some, hm l[i] (List.getElem_mem hlt), if_pos he, if_true]
        refine Ev.bind h1 ?_
        unfold syntax_bin
        simp only [Option.bind_some, ← hsl]
        exact h2
      · simp only [if_pos (show (i : Int) < (l.length : Int) by omega), hx, Option.bind_some, hw, hm l[i] (List.getElem_mem hlt), if_neg he, Bool.false_eq_true, if_false]
        refine ih2 s r p2 x2 ho ?_ h1 h2
        rw [hd] at hs
        exact (List.mem_cons.1 hs).resolve_left fun e => he (by rw [ho, e])

theorem loop_unary (ht : Toks t) (hun : For t n sp_unary r06_P_unary) : ∀ N p q x y, Sim t p q → rem t p ≤ N → N ≤ n → (p.e = 0 → y = x) →
    ∃ p' x' q' y', Ev (fun k => sp_left_unary_l1 k p x [s_x2a, s_x2f, s_x25]) (p', x') ∧ Ev (fun k => (r06_P_oneOf k q [s_x2a, s_x2f, s_x25]).bind fun a => r06_P_prod_l1 k a.1 y a.2) (q', y') ∧ Stp t 0 p p' x' q' y' := by
  intro N
  induction N with
  | zero =>
    intro p q x y h hr hN hv
    have he : p.e ≠ 0 := fun he => by have := rem_live h he; omega
    obtain ⟨o, p1, q1, hm, hs⟩ := mark_form ht h
    have hml : ∀ s ∈ [s_x2a, s_x2f, s_x25], Marky s := by
      intro s hs
      simp only [List.mem_cons, List.not_mem_nil, or_false] at hs
      rcases hs with rfl | rfl | rfl <;> exact ⟨_, _, rfl, by decide⟩
    have hno : o = none := by
      cases o with
      | none => rfl
      | some s => exact absurd (hs s rfl).2.1 he
    subst hno
    refine ⟨p, x, q, y, Ev.step ?_, ?_, h, fun h => absurd h he⟩
    · exact (scan_unary (o := none) (p1 := p1) [s_x2a, s_x2f, s_x25] (by decide) (fun s hs => (hm s (hml s hs)).1) x 3 0 rfl).1 fun s hs => by cases hs
    · refine Ev.bind (oneOf_ev (o := none) (q1 := q1) [s_x2a, s_x2f, s_x25] (by decide) fun s hs => (hm s (hml s hs)).2) ?_
      refine Ev.step (Ev.now fun k => ?_)
      show r06_P_prod_l1_b (tab_r06_P_Expr k) q y [] = _
      unfold r06_P_prod_l1_b
      rw [if_pos rfl]
  | succ N ih =>
    intro p q x y h hr hN hv
    obtain ⟨o, p1, q1, hm, hs⟩ := mark_form ht h
    have hml : ∀ s ∈ [s_x2a, s_x2f, s_x25], Marky s := by
      intro s hs
      simp only [List.mem_cons, List.not_mem_nil, or_false] at hs
      rcases hs with rfl | rfl | rfl <;> exact ⟨_, _, rfl, by decide⟩
    by_cases hc : ∃ s, o = some s ∧ s ∈ [s_x2a, s_x2f, s_x25]
    · obtain ⟨s, rfl, hsl⟩ := hc
      obtain ⟨hmk, e0, e1, i1, d1, s1⟩ := hs s rfl
      have r1 : rem t p1 < rem t p := h.rem_lt e0 s1 e1 (by omega)
      obtain ⟨p2, x2, q2, y2, a2, b2, s2⟩ := hun p1 q1 s1 e1 (by omega)
      have r2 := s2.rem_le s1 (by decide)
      obtain ⟨p', x', q', y', a', b', s'⟩ := ih p2 q2 (Expr.mk 10 0 s [] [x, x2] []) (Expr.mk 10 0 s [] [y, y2] []) s2.sim (by omega) (by omega) fun he => by rw [(s2.live he).2.1, hv e0]
      refine ⟨p', x', q', y', Ev.step ?_, ?_, s'.sim, fun he => ?_⟩
      · exact (scan_unary (o := some s) (p1 := p1) [s_x2a, s_x2f, s_x25] (by decide) (fun s hs => (hm s (hml s hs)).1) x 3 0 rfl).2 s _ p2 x2 rfl hsl a2 a'
      · refine Ev.bind (oneOf_ev (o := some s) (q1 := q1) [s_x2a, s_x2f, s_x25] (by decide) fun s hs => (hm s (hml s hs)).2) ?_
        have ho : oneAns (some s) q q1 [s_x2a, s_x2f, s_x25] = (q1, s) := if_pos hsl
        rw [ho]
        refine Ev.step ?_
        show Ev (fun k => r06_P_prod_l1_b (tab_r06_P_Expr k) q1 y s) _
        have hne : ¬ s = [] := by obtain ⟨c, r, rfl, _⟩ := hmk; simp
        unfold r06_P_prod_l1_b
        simp only [if_neg hne]
        refine Ev.bind b2 ?_
        unfold r06_bin
        simp only [Option.bind_some, tabk]
        exact b'
      · obtain ⟨v1, v2, v3, v4⟩ := s'.live he
        obtain ⟨w1, w2, w3, w4⟩ := s2.live v1
        exact ⟨e0, v2, by omega, by omega⟩
    · have hno : ∀ s, o = some s → s ∉ [s_x2a, s_x2f, s_x25] := fun s hs hm => hc ⟨s, hs, hm⟩
      refine ⟨p, x, q, y, Ev.step ?_, ?_, h, fun he => ⟨he, hv he, rfl, by omega⟩⟩
      · exact (scan_unary (o := o) (p1 := p1) [s_x2a, s_x2f, s_x25] (by decide) (fun s hs => (hm s (hml s hs)).1) x 3 0 rfl).1 fun s hs => hno s hs
      · refine Ev.bind (oneOf_ev (o := o) (q1 := q1) [s_x2a, s_x2f, s_x25] (by decide) fun s hs => (hm s (hml s hs)).2) ?_
        have ho : oneAns o q q1 [s_x2a, s_x2f, s_x25] = (q, []) := by
          cases o with
          | none => rfl
          | some s => exact if_neg (hno s rfl)
        rw [ho]
        refine Ev.step (Ev.now fun k => ?_)
        show r06_P_prod_l1_b (tab_r06_P_Expr k) q y [] = _
        unfold r06_P_prod_l1_b
        rw [if_pos rfl]

theorem prod_sim (ht : Toks t) (hun : For t (n + 1) sp_unary r06_P_unary) (h : Sim t p q) (he : p.e = 0) (hn : rem t p ≤ n) : Duo t 1 sp_prod r06_P_prod p q := by
  obtain ⟨p1, x1, q1, y1, a1, b1, s1⟩ := hun p q h he (by omega)
  have r1 := s1.rem_le h (by decide)
  obtain ⟨p', x', q', y', a', b', s'⟩ := loop_unary ht hun n p1 q1 x1 y1 s1.sim (by omega) (by omega) fun he => (s1.live he).2.1
  have t2 := ((At.refl h).step s1).step s'
  refine ⟨p', x', q', y', Ev.step ?_, Ev.step ?_, t2.stp (by decide) fun he => (s'.live he).2.1⟩
  · show Ev (fun k => sp_prod_b (tab_sp_bracketed k) p) _
    unfold sp_prod_b
    refine Ev.bind (a := (p', x')) (Ev.step ?_) (Ev.now fun _ => rfl)
    show Ev (fun k => sp_left_unary_b (tab_sp_bracketed k) p [s_x2a, s_x2f, s_x25]) _
    unfold sp_left_unary_b
    exact Ev.bind a1 a'
  · show Ev (fun k => r06_P_prod_b (tab_r06_P_Expr k) q) _
    unfold r06_P_prod_b
    refine Ev.bind b1 ?_
    simp only [tabk]
    exact b'

theorem scan_prod {o : Option Str} {p1 : Parser} (l : List Str) (hl : l.length ≤ 1000) (hm : ∀ s ∈ l, sp_mark p s = some (if o = some s then (p1, true) else (p, false))) (x : Expr) : ∀ m i : Nat, i + m = l.length →
    ((∀ s, o = some s → s ∉ l.drop i) → Ev (fun k => sp_left_prod_l2 k p x l l (l.length : Int) (i : Int)) (p, x)) ∧
    ∀ s r p2 x2, o = some s → s ∈ l.drop i → Ev (fun k => sp_prod k p1) (p2, x2) → Ev (fun k => sp_left_prod_l1 k p2 (Expr.mk 10 0 s [] [x, x2] []) l) r → Ev (fun k => sp_left_prod_l2 k p x l l (l.length : Int) (i : Int)) r := by
  intro m
  induction m with
  | zero =>
    intro i hi
    refine ⟨fun _ => Ev.step (Ev.now fun k => ?_), fun s r p2 x2 _ hs => ?_⟩
    · show sp_left_prod_l2_b (tab_sp_bracketed k) p x l l (l.length : Int) (i : Int) = _
      unfold sp_left_prod_l2_b
      rw [if_neg (by omega)]
    · rw [List.drop_of_length_le (by omega)] at hs; simp at hs
  | succ m ih =>
    intro i hi
    have hlt : i < l.length := by omega
    have hx : idx l (i : Int) = some l[i] := by unfold idx; rw [if_pos (by omega)]; simp [hlt]
    have hd : l.drop i = l[i] :: l.drop (i + 1) := List.drop_eq_getElem_cons hlt
    have hw : IntKind.i64.wrap ((i : Int) + 1) = ((i + 1 : Nat) : Int) := by rw [wrap_eq (by omega) (by omega)]; rfl
    obtain ⟨ih1, ih2⟩ := ih (i + 1) (by omega)
    refine ⟨fun hno => Ev.step ?_, fun s r p2 x2 ho hs h1 h2 => Ev.step ?_⟩
    · show Ev (fun k => sp_left_prod_l2_b (tab_sp_bracketed k) p x l l (l.length : Int) (i : Int)) _
      have hne : ¬ o = some l[i] := fun e => hno _ e (by rw [hd]; exact List.mem_cons_self ..)
      unfold sp_left_prod_l2_b
      simp only [if_pos (show (i : Int) < (l.length : Int) by omega), hx, Option.bind_some, hw, hm l[i] (List.getElem_mem hlt), if_neg hne, Bool.false_eq_true, if_false]
      exact ih1 fun s hs hm => hno s hs (by rw [hd]; exact List.mem_cons_of_mem _ hm)
    · show Ev (fun k => sp_left_prod_l2_b (tab_sp_bracketed k) p x l l (l.length : Int) (i : Int)) _
      unfold sp_left_prod_l2_b
      by_cases he : o = some l[i]
      · have hsl : s = l[i] := by rw [ho] at he; simpa using he
        simp only [if_pos (show (i : Int) < (l.length : Int) by omega), hx, Option.bind_some, hm l[i] (List.getElem_mem hlt), if_pos he, if_true]
        refine Ev.bind h1 ?_
        unfold syntax_bin
        simp only [Option.bind_some, ← hsl]
        exact h2
      · simp only [if_pos (show (i : Int) < (l.length : Int) by omega), hx, Option.bind_some, hw, hm l[i] (List.getElem_mem hlt), if_neg he, Bool.false_eq_true, if_false]
        refine ih2 s r p2 x2 ho ?_ h1 h2
        rw [hd] at hs
        exact (List.mem_cons.1 hs).resolve_left fun e => he (by rw [ho, e])

theorem loop_prod (ht : Toks t) (hun : For t n sp_prod r06_P_prod) : ∀ N p q x y, Sim t p q → rem t p ≤ N → N ≤ n → (p.e = 0 → y = x) →
    ∃ p' x' q' y', Ev (fun k => sp_left_prod_l1 k p x [s_x2b, s_x2d, s_x7cx7c]) (p', x') ∧ Ev (fun k => (r06_P_oneOf k q [s_x2b, s_x2d, s_x7cx7c]).bind fun a => r06_P_sum_l1 k a.1 y a.2) (q', y') ∧ Stp t 0 p p' x' q' y' := by
  intro N
  induction N with
  | zero =>
    intro p q x y h hr hN hv
    have he : p.e ≠ 0 := fun he => by have := rem_live h he; omega
    obtain ⟨o, p1, q1, hm, hs⟩ := mark_form ht h
    have hml : ∀ s ∈ [s_x2b, s_x2d, s_x7cx7c], Marky s := by
      intro s hs
      simp only [List.mem_cons, List.not_mem_nil, or_false] at hs
      rcases hs with rfl | rfl | rfl <;> exact ⟨_, _, rfl, by decide⟩
    have hno : o = none := by
      cases o with
      | none => rfl
      | some s => exact absurd (hs s rfl).2.1 he
    subst hno
    refine ⟨p, x, q, y, Ev.step ?_, ?_, h, fun h => absurd h he⟩
    · exact (scan_prod (o := none) (p1 := p1) [s_x2b, s_x2d, s_x7cx7c] (by decide) (fun s hs => (hm s (hml s hs)).1) x 3 0 rfl).1 fun s hs => by cases hs
    · refine Ev.bind (oneOf_ev (o := none) (q1 := q1) [s_x2b, s_x2d, s_x7cx7c] (by decide) fun s hs => (hm s (hml s hs)).2) ?_
      refine Ev.step (Ev.now fun k => ?_)
      show r06_P_sum_l1_b (tab_r06_P_Expr k) q y [] = _
      unfold r06_P_sum_l1_b
      rw [if_pos rfl]
  | succ N ih =>
    intro p q x y h hr hN hv
    obtain ⟨o, p1, q1, hm, hs⟩ := mark_form ht h
    have hml : ∀ s ∈ [s_x2b, s_x2d, s_x7cx7c], Marky s := by
      intro s hs
      simp only [List.mem_cons, List.not_mem_nil, or_false] at hs
      rcases hs with rfl | rfl | rfl <;> exact ⟨_, _, rfl, by decide⟩
    by_cases hc : ∃ s, o = some s ∧ s ∈ [s_x2b, s_x2d, s_x7cx7c]
    · obtain ⟨s, rfl, hsl⟩ := hc
      obtain ⟨hmk, e0, e1, i1, d1, s1⟩ := hs s rfl
      have r1 : rem t p1 < rem t p := h.rem_lt e0 s1 e1 (by omega)
      obtain ⟨p2, x2, q2, y2, a2, b2, s2⟩ := hun p1 q1 s1 e1 (by omega)
      have r2 := s2.rem_le s1 (by decide)
      obtain ⟨p', x', q', y', a', b', s'⟩ := ih p2 q2 (Expr.mk 10 0 s [] [x, x2] []) (Expr.mk 10 0 s [] [y, y2] []) s2.sim (by omega) (by omega) fun he => by rw [(s2.live he).2.1, hv e0]
      refine ⟨p', x', q', y', Ev.step ?_, ?_, s'.sim, fun he => ?_⟩
      · exact (scan_prod (o := some s) (p1 := p1) [s_x2b, s_x2d, s_x7cx7c] (by decide) (fun s hs => (hm s (hml s hs)).1) x 3 0 rfl).2 s _ p2 x2 rfl hsl a2 a'
      · refine Ev.bind (oneOf_ev (o := some s) (q1 := q1) [s_x2b, s_x2d, s_x7cx7c] (by decide) fun s hs => (hm s (hml s hs)).2) ?_
        have ho : oneAns (some s) q q1 [s_x2b, s_x2d, s_x7cx7c] = (q1, s) := if_pos hsl
        rw [ho]
        refine Ev.step ?_
        show Ev (fun k => r06_P_sum_l1_b (tab_r06_P_Expr k) q1 y s) _
        have hne : ¬ s = [] := by obtain ⟨c, r, rfl, _⟩ := hmk; simp
        unfold r06_P_sum_l1_b
        simp only [if_neg hne]
        refine Ev.bind b2 ?_
        unfold r06_bin
        simp only [Option.bind_some, tabk]
        exact b'
      · obtain ⟨v1, v2, v3, v4⟩ := s'.live he
        obtain ⟨w1, w2, w3, w4⟩ := s2.live v1
        exact ⟨e0, v2, by omega, by omega⟩
    · have hno : ∀ s, o = some s → s ∉ [s_x2b, s_x2d, s_x7cx7c] := fun s hs hm => hc ⟨s, hs, hm⟩
      refine ⟨p, x, q, y, Ev.step ?_, ?_, h, fun he => ⟨he, hv he, rfl, by omega⟩⟩
      · exact (scan_prod (o := o) (p1 := p1) [s_x2b, s_x2d, s_x7cx7c] (by decide) (fun s hs => (hm s (hml s hs)).1) x 3 0 rfl).1 fun s hs => hno s hs
      · refine Ev.bind (oneOf_ev (o := o) (q1 := q1) [s_x2b, s_x2d, s_x7cx7c] (by decide) fun s hs => (hm s (hml s hs)).2) ?_
        have ho : oneAns o q q1 [s_x2b, s_x2d, s_x7cx7c] = (q, []) := by
          cases o with
          | none => rfl
          | some s => exact if_neg (hno s rfl)
        rw [ho]
        refine Ev.step (Ev.now fun k => ?_)
        show r06_P_sum_l1_b (tab_r06_P_Expr k) q y [] = _
        unfold r06_P_sum_l1_b
        rw [if_pos rfl]

theorem sum_sim (ht : Toks t) (hun : For t (n + 1) sp_prod r06_P_prod) (h : Sim t p q) (he : p.e = 0) (hn : rem t p ≤ n) : Duo t 1 sp_sum r06_P_sum p q := by
  obtain ⟨p1, x1, q1, y1, a1, b1, s1⟩ := hun p q h he (by omega)
  have r1 := s1.rem_le h (by decide)
  obtain ⟨p', x', q', y', a', b', s'⟩ := loop_prod ht hun n p1 q1 x1 y1 s1.sim (by omega) (by omega) fun he => (s1.live he).2.1
  have t2 := ((At.refl h).step s1).step s'
  refine ⟨p', x', q', y', Ev.step ?_, Ev.step ?_, t2.stp (by decide) fun he => (s'.live he).2.1⟩
  · show Ev (fun k => sp_sum_b (tab_sp_bracketed k) p) _
    unfold sp_sum_b
    refine Ev.bind (a := (p', x')) (Ev.step ?_) (Ev.now fun _ => rfl)
    show Ev (fun k => sp_left_prod_b (tab_sp_bracketed k) p [s_x2b, s_x2d, s_x7cx7c]) _
    unfold sp_left_prod_b
    exact Ev.bind a1 a'
  · show Ev (fun k => r06_P_sum_b (tab_r06_P_Expr k) q) _
    unfold r06_P_sum_b
    refine Ev.bind b1 ?_
    simp only [tabk]
    exact b'

end Go.Syn
