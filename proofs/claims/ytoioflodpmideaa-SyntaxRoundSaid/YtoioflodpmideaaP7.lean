/- Plain laws of the two parsers: comparisons, not, and, or; an expression. (Parts are printed by a program of this session.) -/
import Derived.Test.YtoioflodpmideaaP6
namespace Go.Syn
open Go.Abs

variable {t : List Token} {p : Parser} {q : PT} {n : Nat}

theorem must_of_take {q q' : PT} {s : Str} (h : r06_P_take q s = some (q', true)) : r06_P_must q s = some q' := by
  unfold r06_P_must; rw [h]; rfl

theorem compared_sim (ht : Toks t) (ih : IH t n) (hsum : For t (n + 1) sp_sum r06_P_sum) (h : Sim t p q) (he : p.e = 0) (hn : rem t p ≤ n) : Duo t 1 sp_compared r06_P_cmp p q := by
  obtain ⟨p1, x1, q1, y1, a1, b1, s1⟩ := hsum p q h he (by omega)
  have t1 := (At.refl h).step s1
  have r1 := s1.rem_le h (by decide)
  obtain ⟨o, p2, q2, hm, hs⟩ := mark_form ht s1.sim
  have hml : ∀ s ∈ [s_x3d, s_x3cx3e, s_x3cx3d, s_x3ex3d, s_x3c, s_x3e], Marky s := by
    intro s hs
    simp only [List.mem_cons, List.not_mem_nil, or_false] at hs
    rcases hs with rfl | rfl | rfl | rfl | rfl | rfl <;> exact ⟨_, _, rfl, by decide⟩
  have f0 := (hm s_x3d ⟨_, _, rfl, by decide⟩).1
  have f1 := (hm s_x3cx3e ⟨_, _, rfl, by decide⟩).1
  have f2 := (hm s_x3c ⟨_, _, rfl, by decide⟩).1
  have f3 := (hm s_x3cx3d ⟨_, _, rfl, by decide⟩).1
  have f4 := (hm s_x3e ⟨_, _, rfl, by decide⟩).1
  have f5 := (hm s_x3ex3d ⟨_, _, rfl, by decide⟩).1
  have hone := oneOf_ev (o := o) (q1 := q2) [s_x3d, s_x3cx3e, s_x3cx3d, s_x3ex3d, s_x3c, s_x3e] (by decide) fun s hs => (hm s (hml s hs)).2
  by_cases hc : ∃ s, o = some s ∧ s ∈ [s_x3d, s_x3cx3e, s_x3cx3d, s_x3ex3d, s_x3c, s_x3e]
  · obtain ⟨s, rfl, hsl⟩ := hc
    obtain ⟨hmk, e0, e1, i1, d1, s2⟩ := hs s rfl
    have r2 : rem t p2 < rem t p1 := s1.sim.rem_lt e0 s2 e1 (by omega)
    obtain ⟨p3, x3, q3, y3, a3, b3, s3⟩ := hsum p2 q2 s2 e1 (by omega)
    have hv : p3.e = 0 → Expr.mk 10 0 s [] [y1, y3] [] = Expr.mk 10 0 s [] [x1, x3] [] := fun he3 => by rw [(s3.live he3).2.1, (s1.live e0).2.1]
    have st : Stp t 1 p p3 (Expr.mk 10 0 s [] [x1, x3] []) q3 (Expr.mk 10 0 s [] [y1, y3] []) := ⟨s3.sim, fun he3 => by
      obtain ⟨_, _, v3, v4⟩ := s3.live he3
      obtain ⟨_, _, w3, w4⟩ := s1.live e0
      exact ⟨he, hv he3, by omega, by omega⟩⟩
    have hne : ¬ s = [] := by obtain ⟨c, r, rfl, _⟩ := hmk; simp
    have href : Ev (fun k => r06_P_cmp k q) (q3, Expr.mk 10 0 s [] [y1, y3] []) := by
      refine Ev.step ?_
      show Ev (fun k => r06_P_cmp_b (tab_r06_P_Expr k) q) _
      unfold r06_P_cmp_b
      refine Ev.bind b1 ?_
      simp only [tabk]
      refine Ev.bind hone ?_
      have ho : oneAns (some s) q1 q2 [s_x3d, s_x3cx3e, s_x3cx3d, s_x3ex3d, s_x3c, s_x3e] = (q2, s) := if_pos hsl
      rw [ho]
      simp only [if_neg hne]
      refine Ev.bind b3 ?_
      exact Ev.now fun _ => rfl
    simp only [List.mem_cons, List.not_mem_nil, or_false] at hsl
    have hp : Ev (fun k => sp_compared k p) (p3, Expr.mk 10 0 s [] [x1, x3] []) := by
      refine Ev.step ?_
      show Ev (fun k => sp_compared_b (tab_sp_bracketed k) p) _
      unfold sp_compared_b
      refine Ev.bind a1 ?_
      rcases hsl with rfl | rfl | rfl | rfl | rfl | rfl
      · simp only [f0, if_true, Option.bind_some]
        exact Ev.bind a3 (Ev.now fun _ => rfl)
      · simp only [f0, if_neg (show ¬ (some s_x3cx3e : Option Str) = some s_x3d by decide), f1, if_true, Option.bind_some, Bool.false_eq_true, if_false]
        exact Ev.bind a3 (Ev.now fun _ => rfl)
      · simp only [f0, if_neg (show ¬ (some s_x3cx3d : Option Str) = some s_x3d by decide), f1, if_neg (show ¬ (some s_x3cx3d : Option Str) = some s_x3cx3e by decide), f2, if_neg (show ¬ (some s_x3cx3d : Option Str) = some s_x3c by decide), f3, if_true, Option.bind_some, Bool.false_eq_true, if_false]
        exact Ev.bind a3 (Ev.now fun _ => rfl)
      · simp only [f0, if_neg (show ¬ (some s_x3ex3d : Option Str) = some s_x3d by decide), f1, if_neg (show ¬ (some s_x3ex3d : Option Str) = some s_x3cx3e by decide), f2, if_neg (show ¬ (some s_x3ex3d : Option Str) = some s_x3c by decide), f3, if_neg (show ¬ (some s_x3ex3d : Option Str) = some s_x3cx3d by decide), f4, if_neg (show ¬ (some s_x3ex3d : Option Str) = some s_x3e by decide), f5, if_true, Option.bind_some, Bool.false_eq_true, if_false]
        exact Ev.bind a3 (Ev.now fun _ => rfl)
      · simp only [f0, if_neg (show ¬ (some s_x3c : Option Str) = some s_x3d by decide), f1, if_neg (show ¬ (some s_x3c : Option Str) = some s_x3cx3e by decide), f2, if_true, Option.bind_some, Bool.false_eq_true, if_false]
        exact Ev.bind a3 (Ev.now fun _ => rfl)
      · simp only [f0, if_neg (show ¬ (some s_x3e : Option Str) = some s_x3d by decide), f1, if_neg (show ¬ (some s_x3e : Option Str) = some s_x3cx3e by decide), f2, if_neg (show ¬ (some s_x3e : Option Str) = some s_x3c by decide), f3, if_neg (show ¬ (some s_x3e : Option Str) = some s_x3cx3d by decide), f4, if_true, Option.bind_some, Bool.false_eq_true, if_false]
        exact Ev.bind a3 (Ev.now fun _ => rfl)
    exact ⟨p3, _, q3, _, hp, href, st⟩
  have hno : ∀ s, o = some s → s ∉ [s_x3d, s_x3cx3e, s_x3cx3d, s_x3ex3d, s_x3c, s_x3e] := fun s hs hm => hc ⟨s, hs, hm⟩
  have g0 : sp_mark p1 s_x3d = some (p1, false) := by rw [f0, if_neg (fun e => hno _ e (by simp))]
  have g1 : sp_mark p1 s_x3cx3e = some (p1, false) := by rw [f1, if_neg (fun e => hno _ e (by simp))]
  have g2 : sp_mark p1 s_x3c = some (p1, false) := by rw [f2, if_neg (fun e => hno _ e (by simp))]
  have g3 : sp_mark p1 s_x3cx3d = some (p1, false) := by rw [f3, if_neg (fun e => hno _ e (by simp))]
  have g4 : sp_mark p1 s_x3e = some (p1, false) := by rw [f4, if_neg (fun e => hno _ e (by simp))]
  have g5 : sp_mark p1 s_x3ex3d = some (p1, false) := by rw [f5, if_neg (fun e => hno _ e (by simp))]
  have ho : oneAns o q1 q2 [s_x3d, s_x3cx3e, s_x3cx3d, s_x3ex3d, s_x3c, s_x3e] = (q1, []) := by
    cases o with
    | none => rfl
    | some s => exact if_neg (hno s rfl)
  -- what is left, once no mark is there
  have key : ∀ p' x' q' y', Stp t 1 p p' x' q' y' →
      Ev (fun k => (sp_word p1 s_is).bind fun a => if a.2 = true then ((sp_word a.1 s_not).bind fun b => if b.2 = true then sp_compared_j1 b.1 1 [x1] else sp_compared_j1 b.1 0 [x1]) else (sp_word a.1 s_not).bind fun b => if b.2 = true then ((sp_must b.1 s_in).bind fun c => (sp_bracketed k c).bind fun d => some (d.1, Expr.mk 13 1 [] [] [x1] [d.2])) else (sp_word b.1 s_in).bind fun c => if c.2 = true then ((sp_bracketed k c.1).bind fun d => some (d.1, Expr.mk 13 0 [] [] [x1] [d.2])) else some (c.1, x1)) (p', x') →
      Ev (fun k => (r06_P_take q1 s_is).bind fun a => if a.2 = true then ((r06_P_take a.1 s_not).bind fun b => if b.2 = true then r06_P_cmp_j1 b.1 y1 1 else r06_P_cmp_j1 b.1 y1 0) else (r06_P_is a.1 s_not).bind fun r7 => if r7 = true then ((r06_P_take a.1 s_not).bind fun b => (r06_P_must b.1 s_in).bind fun c => (rBr k c).bind fun d => some (d.1, Expr.mk 13 (if b.2 = true then 1 else 0) [] [] [y1] [d.2])) else (r06_P_is a.1 s_in).bind fun r8 => if r8 = true then ((r06_P_take a.1 s_not).bind fun b => (r06_P_must b.1 s_in).bind fun c => (rBr k c).bind fun d => some (d.1, Expr.mk 13 (if b.2 = true then 1 else 0) [] [] [y1] [d.2])) else some (a.1, y1)) (q', y') →
      Duo t 1 sp_compared r06_P_cmp p q := by
    intro p' x' q' y' st e1 e2
    refine ⟨p', x', q', y', Ev.step ?_, Ev.step ?_, st⟩
    · show Ev (fun k => sp_compared_b (tab_sp_bracketed k) p) _
      unfold sp_compared_b
      refine Ev.bind a1 ?_
      simp only [g0, g1, g2, g3, g4, g5, Option.bind_some, Bool.false_eq_true, if_false]
      exact e1
    · show Ev (fun k => r06_P_cmp_b (tab_r06_P_Expr k) q) _
      unfold r06_P_cmp_b
      refine Ev.bind b1 ?_
      simp only [tabk]
      refine Ev.bind hone ?_
      rw [ho]
      simp only [if_true]
      refine Ev.same e2 fun k => ?_
      refine congrArg (Option.bind (r06_P_take q1 s_is)) (funext fun a => ?_)
      obtain ⟨a, b⟩ := a
      cases b with
      | true => rfl
      | false =>
        simp only [Bool.false_eq_true, if_false]
        refine congrArg (Option.bind (r06_P_is a s_not)) (funext fun b => ?_)
        have hh : ((r06_P_take a s_not).bind fun b => (r06_P_must b.1 s_in).bind fun c => (rBr k c).bind fun d => some (d.1, Expr.mk 13 (if b.2 = true then 1 else 0) [] [] [y1] [d.2])) =
            (r06_P_take a s_not).bind fun x => match x with
              | (r8, r9) => if r9 = true then
                  ((r06_P_must r8 s_in).bind fun r10 => (r06_P_must r10 s_x28).bind fun r11 => ((tab_r06_P_Expr k).r06_P_Query r11).bind fun x => match x with | (r12, r13) => (r06_P_must r12 s_x29).bind fun r14 => some (r14, Expr.mk 13 1 [] [] [y1] [r13]))
                else
                  ((r06_P_must r8 s_in).bind fun r10 => (r06_P_must r10 s_x28).bind fun r11 => ((tab_r06_P_Expr k).r06_P_Query r11).bind fun x => match x with | (r12, r13) => (r06_P_must r12 s_x29).bind fun r14 => some (r14, Expr.mk 13 0 [] [] [y1] [r13])) := by
          refine congrArg (Option.bind (r06_P_take a s_not)) (funext fun b => ?_)
          obtain ⟨b, c⟩ := b
          cases c <;> simp only [Bool.false_eq_true, if_false, if_true] <;> refine congrArg (Option.bind (r06_P_must b s_in)) (funext fun c => ?_) <;> unfold rBr <;> simp only [Option.bind_assoc, Option.bind_some] <;> rfl
        cases b with
        | true => simp only [if_true]; exact hh.symm
        | false =>
          simp only [Bool.false_eq_true, if_false]
          refine congrArg (Option.bind (r06_P_is a s_in)) (funext fun b => ?_)
          cases b with
          | true => simp only [if_true]; exact hh.symm
          | false => rfl
  obtain ⟨p3, q3, c3, a3, b3, _, _, k3⟩ := word_take ht s1.sim (s := s_is) ⟨_, _, rfl, by decide⟩
  cases c3 with
  | true =>
    obtain ⟨t3, ep1, ep3⟩ := t1.took k3
    obtain ⟨p4, q4, c4, a4, b4, _, _, k4⟩ := word_take ht t3.sim (s := s_not) ⟨_, _, rfl, by decide⟩
    have s4 := k4.sim t3.sim
    obtain ⟨p5, q5, a5, b5, s5⟩ := must_sim ht s4 (s := s_null) ⟨_, _, rfl, by decide⟩
    have hy : y1 = x1 := (s1.live ep1).2.1
    cases c4 with
    | true =>
      obtain ⟨t4, _, _⟩ := t3.took k4
      refine key p5 (Expr.mk 9 1 [] [] [x1] []) q5 (Expr.mk 9 1 [] [] [y1] []) ((t4.step s5).stp (by decide) fun _ => by rw [hy]) ?_ ?_
      · simp only [a3, Option.bind_some, if_true, a4]
        unfold sp_compared_j1
        simp only [a5, Option.bind_some]
        exact Ev.now fun _ => rfl
      · simp only [b3, Option.bind_some, if_true, b4]
        unfold r06_P_cmp_j1
        simp only [b5, Option.bind_some]
        exact Ev.now fun _ => rfl
    | false =>
      obtain ⟨rfl, rfl⟩ := k4.f
      refine key p5 (Expr.mk 9 0 [] [] [x1] []) q5 (Expr.mk 9 0 [] [] [y1] []) ((t3.step s5).stp (by decide) fun _ => by rw [hy]) ?_ ?_
      · simp only [a3, Option.bind_some, if_true, a4, Bool.false_eq_true, if_false]
        unfold sp_compared_j1
        simp only [a5, Option.bind_some]
        exact Ev.now fun _ => rfl
      · simp only [b3, Option.bind_some, if_true, b4, Bool.false_eq_true, if_false]
        unfold r06_P_cmp_j1
        simp only [b5, Option.bind_some]
        exact Ev.now fun _ => rfl
  | false =>
  obtain ⟨z1, z2⟩ := k3.f
  rw [z1] at a3; rw [z2] at b3; clear k3 z1 z2
  obtain ⟨p4, q4, c4, a4, b4, _, i4, k4⟩ := word_take ht s1.sim (s := s_not) ⟨_, _, rfl, by decide⟩
  cases c4 with
  | true =>
    obtain ⟨t4, ep1, _⟩ := t1.took k4
    have hy : y1 = x1 := (s1.live ep1).2.1
    obtain ⟨p5, q5, a5, b5, s5⟩ := must_sim ht t4.sim (s := s_in) ⟨_, _, rfl, by decide⟩
    have t5 := t4.step s5
    obtain ⟨p6, x6, q6, y6, a6, b6, s6⟩ := bracketed_sim ht ih t5.sim fun he5 => Nat.le_of_lt (At.rem h hn t5 (by decide) he5)
    refine key p6 (Expr.mk 13 1 [] [] [x1] [x6]) q6 (Expr.mk 13 1 [] [] [y1] [y6]) ((t5.step s6).stp (by decide) fun he6 => by rw [hy, (s6.live he6).2.1]) ?_ ?_
    · simp only [a3, Option.bind_some, Bool.false_eq_true, if_false, a4, if_true, a5]
      exact Ev.bind a6 (Ev.now fun _ => rfl)
    · simp only [b3, Option.bind_some, Bool.false_eq_true, if_false, i4, if_true, b4, b5]
      exact Ev.bind b6 (Ev.now fun _ => rfl)
  | false =>
  obtain ⟨z1, z2⟩ := k4.f
  rw [z1] at a4; rw [z2] at b4; clear k4 z1 z2
  obtain ⟨p5, q5, c5, a5, b5, _, i5, k5⟩ := word_take ht s1.sim (s := s_in) ⟨_, _, rfl, by decide⟩
  cases c5 with
  | true =>
    obtain ⟨t5, ep1, _⟩ := t1.took k5
    have hy : y1 = x1 := (s1.live ep1).2.1
    obtain ⟨p6, x6, q6, y6, a6, b6, s6⟩ := bracketed_sim ht ih t5.sim fun he5 => Nat.le_of_lt (At.rem h hn t5 (by decide) he5)
    refine key p6 (Expr.mk 13 0 [] [] [x1] [x6]) q6 (Expr.mk 13 0 [] [] [y1] [y6]) ((t5.step s6).stp (by decide) fun he6 => by rw [hy, (s6.live he6).2.1]) ?_ ?_
    · simp only [a3, Option.bind_some, Bool.false_eq_true, if_false, a4, a5, if_true]
      exact Ev.bind a6 (Ev.now fun _ => rfl)
    · simp only [b3, Option.bind_some, Bool.false_eq_true, if_false, i4, i5, if_true, b4, must_of_take b5]
      exact Ev.bind b6 (Ev.now fun _ => rfl)
  | false =>
    obtain ⟨z1, z2⟩ := k5.f
    rw [z1] at a5; rw [z2] at b5
    refine key p1 x1 q1 y1 s1 ?_ ?_
    · simp only [a3, Option.bind_some, Bool.false_eq_true, if_false, a4, a5]
      exact Ev.now fun _ => rfl
    · simp only [b3, Option.bind_some, Bool.false_eq_true, if_false, i4, i5]
      exact Ev.now fun _ => rfl


theorem not_sim (ht : Toks t) (ih : IH t n) (hcmp : For t (n + 1) sp_compared r06_P_cmp) (h : Sim t p q) (he : p.e = 0) (hn : rem t p ≤ n) : Duo t 1 sp_not r06_P_not p q := by
  have hE : q.E = 0 := by rw [h.e]; exact he
  obtain ⟨p1, q1, b, a1, b1, _, _, k1⟩ := word_take ht h (s := s_not) ⟨_, _, rfl, by decide⟩
  cases b with
  | false =>
    obtain ⟨z1, z2⟩ := k1.f
    rw [z1] at a1; rw [z2] at b1
    obtain ⟨p9, x9, q9, y9, a9, b9, s9⟩ := hcmp p q h he (by omega)
    refine ⟨p9, x9, q9, y9, Ev.step ?_, Ev.step ?_, s9⟩
    · show Ev (fun k => sp_not_b (tab_sp_bracketed k) p) _
      unfold sp_not_b
      simp only [a1, Option.bind_some, Bool.false_eq_true, if_false]
      exact Ev.bind a9 (Ev.now fun _ => rfl)
    · show Ev (fun k => r06_P_not_b (tab_r06_P_Expr k) q) _
      unfold r06_P_not_b
      simp only [if_pos hE, b1, Option.bind_some, Bool.false_eq_true, if_false]
      exact Ev.bind b9 (Ev.now fun _ => rfl)
  | true =>
    obtain ⟨t1, _, e1⟩ := (At.refl h).took k1
    rcases deep_sim ih.not t1.sim e1 (At.rem h hn t1 (by decide) e1) with ⟨p2, q2, a2, b2, d2, d2', s2⟩ | ⟨p2, q2, p3, x3, q3, y3, a2, b2, d2, a3, b3, l3, s3⟩
    · obtain ⟨y, hy⟩ := not_dead d2'
      refine ⟨p2, Expr.mk 0 0 [] [] [] [], upT q2, Expr.mk 8 0 [] [] [y] [], Ev.step ?_, Ev.step ?_, ⟨s2.1, s2.2.1, s2.2.2.1, .inr ⟨d2, s2.e, s2.at_⟩⟩, fun h => absurd h d2⟩
      · show Ev (fun k => sp_not_b (tab_sp_bracketed k) p) _
        unfold sp_not_b
        simp only [a1, Option.bind_some, if_true]
        refine Ev.bind (a := (p2, Expr.mk 0 0 [] [] [] [])) (Ev.step ?_) (Ev.now fun _ => rfl)
        show Ev (fun k => sp_inner_not_b (tab_sp_bracketed k) p1 8) _
        unfold sp_inner_not_b
        simp only [a2, Option.bind_some, Bool.false_eq_true, if_false]
        exact Ev.now fun _ => rfl
      · show Ev (fun k => r06_P_not_b (tab_r06_P_Expr k) q) _
        unfold r06_P_not_b
        simp only [if_pos hE, b1, Option.bind_some, if_true, b2]
        exact Ev.bind hy (Ev.now fun _ => rfl)
    · refine ⟨up p3, Expr.mk 8 0 [] [] [x3] [], upT q3, Expr.mk 8 0 [] [] [y3] [], Ev.step ?_, Ev.step ?_, (t1.step s3).stp (by decide) fun he3 => by rw [(s3.live he3).2.1]⟩
      · show Ev (fun k => sp_not_b (tab_sp_bracketed k) p) _
        unfold sp_not_b
        simp only [a1, Option.bind_some, if_true]
        refine Ev.bind (a := (up p3, Expr.mk 8 0 [] [] [x3] [])) (Ev.step ?_) (Ev.now fun _ => rfl)
        show Ev (fun k => sp_inner_not_b (tab_sp_bracketed k) p1 8) _
        unfold sp_inner_not_b
        simp only [a2, Option.bind_some, if_true]
        refine Ev.bind a3 ?_
        simp only [l3, Option.bind_some]
        exact Ev.now fun _ => rfl
      · show Ev (fun k => r06_P_not_b (tab_r06_P_Expr k) q) _
        unfold r06_P_not_b
        simp only [if_pos hE, b1, Option.bind_some, if_true, b2]
        exact Ev.bind b3 (Ev.now fun _ => rfl)


theorem loop_not (ht : Toks t) (hun : For t n sp_not r06_P_not) : ∀ N p q x y, Sim t p q → rem t p ≤ N → N ≤ n → (p.e = 0 → y = x) →
    ∃ p' x' q' y', Ev (fun k => sp_left_not_l1 k p x [s_and]) (p', x') ∧ Ev (fun k => r06_P_and_l1 k q y) (q', y') ∧ Stp t 0 p p' x' q' y' := by
  intro N
  induction N with
  | zero =>
    intro p q x y h hr hN hv
    have he : p.e ≠ 0 := fun he => by have := rem_live h he; omega
    obtain ⟨p1, q1, b, a1, b1, _, _, k1⟩ := word_take ht h (s := s_and) ⟨_, _, rfl, by decide⟩
    rcases k1 with ⟨rfl, rfl, rfl⟩ | ⟨_, e, _⟩
    rotate_left
    · exact absurd e he
    refine ⟨p1, x, q1, y, Ev.step ?_, Ev.step (Ev.now fun k => ?_), h, fun h => absurd h he⟩
    · show Ev (fun k => sp_left_not_l2 k p1 x [s_and] [s_and] 1 0) _
      refine Ev.step ?_
      show Ev (fun k => sp_left_not_l2_b (tab_sp_bracketed k) p1 x [s_and] [s_and] 1 0) _
      unfold sp_left_not_l2_b
      have hx : idx [s_and] (0 : Int) = some s_and := rfl
      simp only [if_pos (show (0 : Int) < 1 by decide), hx, Option.bind_some, a1, Bool.false_eq_true, if_false]
      refine Ev.step (Ev.now fun k => ?_)
      show sp_left_not_l2_b (tab_sp_bracketed k) p1 x [s_and] [s_and] 1 1 = _
      unfold sp_left_not_l2_b
      rw [if_neg (by decide)]
    · show r06_P_and_l1_b (tab_r06_P_Expr k) q1 y = _
      unfold r06_P_and_l1_b
      rw [b1]
      rfl
  | succ N ih =>
    intro p q x y h hr hN hv
    obtain ⟨p1, q1, b, a1, b1, _, _, k1⟩ := word_take ht h (s := s_and) ⟨_, _, rfl, by decide⟩
    rcases k1 with ⟨rfl, rfl, rfl⟩ | ⟨rfl, e0, e1, i1, d1, s1⟩
    · refine ⟨p1, x, q1, y, Ev.step ?_, Ev.step (Ev.now fun k => ?_), h, fun he => ⟨he, hv he, rfl, by omega⟩⟩
      · show Ev (fun k => sp_left_not_l2 k p1 x [s_and] [s_and] 1 0) _
        refine Ev.step ?_
        show Ev (fun k => sp_left_not_l2_b (tab_sp_bracketed k) p1 x [s_and] [s_and] 1 0) _
        unfold sp_left_not_l2_b
        have hx : idx [s_and] (0 : Int) = some s_and := rfl
        simp only [if_pos (show (0 : Int) < 1 by decide), hx, Option.bind_some, a1, Bool.false_eq_true, if_false]
        refine Ev.step (Ev.now fun k => ?_)
        show sp_left_not_l2_b (tab_sp_bracketed k) p1 x [s_and] [s_and] 1 1 = _
        unfold sp_left_not_l2_b
        rw [if_neg (by decide)]
      · show r06_P_and_l1_b (tab_r06_P_Expr k) q1 y = _
        unfold r06_P_and_l1_b
        rw [b1]
        rfl
    · have r1 : rem t p1 < rem t p := h.rem_lt e0 s1 e1 (by omega)
      obtain ⟨p2, x2, q2, y2, a2, b2, s2⟩ := hun p1 q1 s1 e1 (by omega)
      have r2 := s2.rem_le s1 (by decide)
      obtain ⟨p', x', q', y', a', b', s'⟩ := ih p2 q2 (Expr.mk 10 0 s_and [] [x, x2] []) (Expr.mk 10 0 s_and [] [y, y2] []) s2.sim (by omega) (by omega) fun he => by rw [(s2.live he).2.1, hv e0]
      refine ⟨p', x', q', y', Ev.step ?_, Ev.step ?_, s'.sim, fun he => ?_⟩
      · show Ev (fun k => sp_left_not_l2 k p x [s_and] [s_and] 1 0) _
        refine Ev.step ?_
        show Ev (fun k => sp_left_not_l2_b (tab_sp_bracketed k) p x [s_and] [s_and] 1 0) _
        unfold sp_left_not_l2_b
        have hx : idx [s_and] (0 : Int) = some s_and := rfl
        simp only [if_pos (show (0 : Int) < 1 by decide), hx, Option.bind_some, a1, if_true]
        refine Ev.bind a2 ?_
        unfold syntax_bin
        simp only [Option.bind_some]
        exact a'
      · show Ev (fun k => r06_P_and_l1_b (tab_r06_P_Expr k) q y) _
        unfold r06_P_and_l1_b
        simp only [b1, Option.bind_some, if_true]
        refine Ev.bind b2 ?_
        unfold r06_bin
        simp only [Option.bind_some]
        exact b'
      · obtain ⟨v1, v2, v3, v4⟩ := s'.live he
        obtain ⟨w1, w2, w3, w4⟩ := s2.live v1
        exact ⟨e0, v2, by omega, by omega⟩


theorem loop_expr_1 (ht : Toks t) (hun : For t n sp_expr_1 r06_P_and) : ∀ N p q x y, Sim t p q → rem t p ≤ N → N ≤ n → (p.e = 0 → y = x) →
    ∃ p' x' q' y', Ev (fun k => sp_left_expr_1_l1 k p x [s_or]) (p', x') ∧ Ev (fun k => r06_P_Expr_l1 k q y) (upT q', y') ∧ Stp t 0 p p' x' q' y' := by
  intro N
  induction N with
  | zero =>
    intro p q x y h hr hN hv
    have he : p.e ≠ 0 := fun he => by have := rem_live h he; omega
    obtain ⟨p1, q1, b, a1, b1, _, _, k1⟩ := word_take ht h (s := s_or) ⟨_, _, rfl, by decide⟩
    rcases k1 with ⟨rfl, rfl, rfl⟩ | ⟨_, e, _⟩
    rotate_left
    · exact absurd e he
    refine ⟨p1, x, q1, y, Ev.step ?_, Ev.step (Ev.now fun k => ?_), h, fun h => absurd h he⟩
    · show Ev (fun k => sp_left_expr_1_l2 k p1 x [s_or] [s_or] 1 0) _
      refine Ev.step ?_
      show Ev (fun k => sp_left_expr_1_l2_b (tab_sp_bracketed k) p1 x [s_or] [s_or] 1 0) _
      unfold sp_left_expr_1_l2_b
      have hx : idx [s_or] (0 : Int) = some s_or := rfl
      simp only [if_pos (show (0 : Int) < 1 by decide), hx, Option.bind_some, a1, Bool.false_eq_true, if_false]
      refine Ev.step (Ev.now fun k => ?_)
      show sp_left_expr_1_l2_b (tab_sp_bracketed k) p1 x [s_or] [s_or] 1 1 = _
      unfold sp_left_expr_1_l2_b
      rw [if_neg (by decide)]
    · show r06_P_Expr_l1_b (tab_r06_P_Expr k) q1 y = _
      unfold r06_P_Expr_l1_b
      rw [b1]
      rfl
  | succ N ih =>
    intro p q x y h hr hN hv
    obtain ⟨p1, q1, b, a1, b1, _, _, k1⟩ := word_take ht h (s := s_or) ⟨_, _, rfl, by decide⟩
    rcases k1 with ⟨rfl, rfl, rfl⟩ | ⟨rfl, e0, e1, i1, d1, s1⟩
    · refine ⟨p1, x, q1, y, Ev.step ?_, Ev.step (Ev.now fun k => ?_), h, fun he => ⟨he, hv he, rfl, by omega⟩⟩
      · show Ev (fun k => sp_left_expr_1_l2 k p1 x [s_or] [s_or] 1 0) _
        refine Ev.step ?_
        show Ev (fun k => sp_left_expr_1_l2_b (tab_sp_bracketed k) p1 x [s_or] [s_or] 1 0) _
        unfold sp_left_expr_1_l2_b
        have hx : idx [s_or] (0 : Int) = some s_or := rfl
        simp only [if_pos (show (0 : Int) < 1 by decide), hx, Option.bind_some, a1, Bool.false_eq_true, if_false]
        refine Ev.step (Ev.now fun k => ?_)
        show sp_left_expr_1_l2_b (tab_sp_bracketed k) p1 x [s_or] [s_or] 1 1 = _
        unfold sp_left_expr_1_l2_b
        rw [if_neg (by decide)]
      · show r06_P_Expr_l1_b (tab_r06_P_Expr k) q1 y = _
        unfold r06_P_Expr_l1_b
        rw [b1]
        rfl
    · have r1 : rem t p1 < rem t p := h.rem_lt e0 s1 e1 (by omega)
      obtain ⟨p2, x2, q2, y2, a2, b2, s2⟩ := hun p1 q1 s1 e1 (by omega)
      have r2 := s2.rem_le s1 (by decide)
      obtain ⟨p', x', q', y', a', b', s'⟩ := ih p2 q2 (Expr.mk 10 0 s_or [] [x, x2] []) (Expr.mk 10 0 s_or [] [y, y2] []) s2.sim (by omega) (by omega) fun he => by rw [(s2.live he).2.1, hv e0]
      refine ⟨p', x', q', y', Ev.step ?_, Ev.step ?_, s'.sim, fun he => ?_⟩
      · show Ev (fun k => sp_left_expr_1_l2 k p x [s_or] [s_or] 1 0) _
        refine Ev.step ?_
        show Ev (fun k => sp_left_expr_1_l2_b (tab_sp_bracketed k) p x [s_or] [s_or] 1 0) _
        unfold sp_left_expr_1_l2_b
        have hx : idx [s_or] (0 : Int) = some s_or := rfl
        simp only [if_pos (show (0 : Int) < 1 by decide), hx, Option.bind_some, a1, if_true]
        refine Ev.bind a2 ?_
        unfold syntax_bin
        simp only [Option.bind_some]
        exact a'
      · show Ev (fun k => r06_P_Expr_l1_b (tab_r06_P_Expr k) q y) _
        unfold r06_P_Expr_l1_b
        simp only [b1, Option.bind_some, if_true]
        refine Ev.bind b2 ?_
        unfold r06_bin
        simp only [Option.bind_some]
        exact b'
      · obtain ⟨v1, v2, v3, v4⟩ := s'.live he
        obtain ⟨w1, w2, w3, w4⟩ := s2.live v1
        exact ⟨e0, v2, by omega, by omega⟩


theorem and_sim (ht : Toks t) (hun : For t (n + 1) sp_not r06_P_not) (h : Sim t p q) (he : p.e = 0) (hn : rem t p ≤ n) : Duo t 1 sp_expr_1 r06_P_and p q := by
  obtain ⟨p1, x1, q1, y1, a1, b1, s1⟩ := hun p q h he (by omega)
  have r1 := s1.rem_le h (by decide)
  obtain ⟨p', x', q', y', a', b', s'⟩ := loop_not ht hun n p1 q1 x1 y1 s1.sim (by omega) (by omega) fun he => (s1.live he).2.1
  have t2 := ((At.refl h).step s1).step s'
  refine ⟨p', x', q', y', Ev.step ?_, Ev.step ?_, t2.stp (by decide) fun he => (s'.live he).2.1⟩
  · show Ev (fun k => sp_expr_1_b (tab_sp_bracketed k) p) _
    unfold sp_expr_1_b
    refine Ev.bind (a := (p', x')) (Ev.step ?_) (Ev.now fun _ => rfl)
    show Ev (fun k => sp_left_not_b (tab_sp_bracketed k) p [s_and]) _
    unfold sp_left_not_b
    exact Ev.bind a1 a'
  · show Ev (fun k => r06_P_and_b (tab_r06_P_Expr k) q) _
    unfold r06_P_and_b
    exact Ev.bind b1 b'

theorem expr_sim (ht : Toks t) (hun : For t (n + 1) sp_expr_1 r06_P_and) (h : Sim t p q) (he : p.e = 0) (hn : rem t p ≤ n) : Duo t 1 sp_expr r06_P_Expr p q := by
  obtain ⟨p2, q2, b, h1, h2, h3, h4⟩ := enter_sim h
  rcases h4 with ⟨rfl, _, h5, h6, h7⟩ | ⟨rfl, h5⟩
  · obtain ⟨_, _, g1, g2, g3, g4⟩ := h.live he
    have hr2 : rem t p2 ≤ n := by unfold rem at hn ⊢; rw [if_pos he] at hn; rw [if_pos h5, h6]; exact hn
    obtain ⟨p1, x1, q1, y1, a1, b1, s1⟩ := hun p2 q2 h3 h5 (by omega)
    have r1 := s1.rem_le h3 (by decide)
    obtain ⟨p', x', q', y', a', b', s'⟩ := loop_expr_1 ht hun n p1 q1 x1 y1 s1.sim (by omega) (by omega) fun he => (s1.live he).2.1
    have t2 := ((At.refl h3).step s1).step s'
    obtain ⟨l1, l2, l3⟩ := leave_sim s'.sim fun he' => by
      obtain ⟨_, d, _⟩ := t2.adv he'
      omega
    refine ⟨up p', x', upT q', y', Ev.step ?_, Ev.step ?_, l2, fun he' => ?_⟩
    · show Ev (fun k => sp_expr_b (tab_sp_bracketed k) p) _
      unfold sp_expr_b
      simp only [h1, Option.bind_some, if_true]
      refine Ev.bind (a := (p', x')) (Ev.step ?_) ?_
      · show Ev (fun k => sp_left_expr_1_b (tab_sp_bracketed k) p2 [s_or]) _
        unfold sp_left_expr_1_b
        exact Ev.bind a1 a'
      · simp only [l1, Option.bind_some]
        exact Ev.now fun _ => rfl
    · show Ev (fun k => r06_P_Expr_b (tab_r06_P_Expr k) q) _
      unfold r06_P_Expr_b
      simp only [h2, Option.bind_some]
      exact Ev.bind b1 b'
    · have he'' : p'.e = 0 := he'
      obtain ⟨_, d, i⟩ := t2.adv he''
      have := l3 he''
      exact ⟨he, (s'.live he'').2.1, by omega, by show p.i + 1 ≤ p'.i; omega⟩
  · obtain ⟨y, hy⟩ := and_dead (q := q2) (by rw [h3.e]; exact h5)
    have hE2 : q2.E ≠ 0 := by rw [h3.e]; exact h5
    refine ⟨p2, Expr.mk 0 0 [] [] [] [], upT q2, y, Ev.step ?_, Ev.step ?_, ⟨h3.1, h3.2.1, h3.2.2.1, .inr ⟨h5, h3.e, h3.at_⟩⟩, fun h => absurd h h5⟩
    · show Ev (fun k => sp_expr_b (tab_sp_bracketed k) p) _
      unfold sp_expr_b
      simp only [h1, Option.bind_some, Bool.false_eq_true, if_false]
      exact Ev.now fun _ => rfl
    · show Ev (fun k => r06_P_Expr_b (tab_r06_P_Expr k) q) _
      unfold r06_P_Expr_b
      simp only [h2, Option.bind_some]
      refine Ev.bind hy ?_
      refine Ev.step (Ev.now fun k => ?_)
      show r06_P_Expr_l1_b (tab_r06_P_Expr k) q2 y = _
      unfold r06_P_Expr_l1_b
      rw [take_dead hE2]
      rfl


end Go.Syn
