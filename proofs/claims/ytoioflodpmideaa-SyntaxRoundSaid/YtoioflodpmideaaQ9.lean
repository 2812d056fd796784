/- The law of brackets, in plain terms: an expression in brackets is the expression, if it is not too deep or too long then. -/
import Derived.Test.YtoioflodpmideaaQ7
import Derived.Test.YtoioflodpmideaaP10
namespace Go.Syn
open Go.Abs Go.Proofs.Try

theorem expr_fit {k : Nat} {s : Str} {r : Expr × Int × Int} (h : syntax_Expr k s = some r) : Fit r.1 := by
  obtain ⟨v, g', hv⟩ := has_val func5 rfl rfl (syntax_Expr_ok h) (vs := #[.string ⟨s.toArray⟩]) rfl (str_rv s _)
  obtain ⟨u, hu⟩ := RV.tup_at hv (i := 0) rfl
  exact hu.fit

theorem some_expr (s : Str) (hs : s.length ≤ 30000) : ∃ r, Ev (fun k => syntax_Expr k s) r := by
  obtain ⟨l, at_, e, h1, h2, h3⟩ := scan_ev s hs
  by_cases he : e = 0
  · obtain ⟨ha, ht⟩ := h3 he
    subst he
    subst ha
    obtain ⟨p', x, q', y, g1, _, g3⟩ := (all_sim ht (rem l (Parser.mk l 0 0 0 0) + 1)).expr _ _ (start_sim ht) rfl (by omega)
    obtain ⟨z, z1, z2⟩ := ends g3.sim
    have P : ∀ X, Ev (fun k => (sp_now p').bind fun r6 => if r6.Kind = 0 then (if p'.e = 0 then (some (x, 0, 0)) else (some (Expr.mk 0 0 [] [] [] [], p'.at_, p'.e))) else ((sp_fail p' 10).bind fun r7 => if r7.e = 0 then (some (x, 0, 0)) else (some (Expr.mk 0 0 [] [] [] [], r7.at_, r7.e)))) X → Ev (fun k => syntax_Expr k s) X := by
      intro X hX
      obtain ⟨X1, X2, X3⟩ := X
      unfold syntax_Expr syntax_read_r
      refine Ev.bind (a := (X1, X2, X3)) (Ev.bind h1 ?_) (Ev.now fun _ => rfl)
      simp only [if_true]
      unfold syntax_Expr_1
      exact Ev.bind (Ev.bind g1 (Ev.now fun _ => rfl)) hX
    rcases z2 with ⟨k0, e0, _⟩ | ⟨k0, e0, _, _⟩ | ⟨k0, p2, _, w1, e0, _⟩
    · exact ⟨_, P (x, 0, 0) (by simp only [z1, Option.bind_some, if_pos k0, if_pos e0]; exact Ev.now fun _ => rfl)⟩
    · exact ⟨_, P (Expr.mk 0 0 [] [] [] [], p'.at_, p'.e) (by simp only [z1, Option.bind_some, if_pos k0, if_neg e0]; exact Ev.now fun _ => rfl)⟩
    · exact ⟨_, P (Expr.mk 0 0 [] [] [] [], p2.at_, p2.e) (by simp only [z1, Option.bind_some, if_neg k0, w1, if_neg e0]; exact Ev.now fun _ => rfl)⟩
  · refine ⟨(Expr.mk 0 0 [] [] [] [], at_, e), ?_⟩
    unfold syntax_Expr syntax_read_r
    refine Ev.bind (a := (Expr.mk 0 0 [] [] [] [], at_, e)) (Ev.bind h1 ?_) (Ev.now fun _ => rfl)
    simp only [if_neg he]
    exact Ev.now fun _ => rfl

theorem l06_SyntaxRound_pure (s : Str) : ∃ k, l06_SyntaxRound k s = some true := by
  by_cases h : (9000 : Int) < (s.length : Int)
  · refine ⟨60, ?_⟩
    unfold l06_SyntaxRound
    rw [if_pos h, alive_k 0, Option.bind_some]
  · have hs : s.length ≤ 9000 := by omega
    have l1 : s_x28.length = 1 := rfl
    have l2 : s_x0ax29.length = 2 := rfl
    have hb : (s_x28 ++ s) ++ s_x0ax29 = brk s := rfl
    obtain ⟨⟨x, at_, e⟩, h1⟩ := some_expr s (by omega)
    obtain ⟨⟨y, at2, f⟩, h2⟩ := some_expr (brk s) (by rw [brk_len]; omega)
    have alive : Ev (fun k => (l06_alive k).bind fun r => some r) true := Ev.bind alive_ev (Ev.now fun _ => rfl)
    have all : Ev (fun k => l06_SyntaxRound k s) true := by
      unfold l06_SyntaxRound
      simp only [if_neg h]
      refine Ev.bind h1 ?_
      refine Ev.chk (by omega) (Ev.chk (by rw [List.length_append]; omega) ?_)
      simp only [hb]
      refine Ev.bind h2 ?_
      by_cases he : e = 0
      · subst he
        obtain ⟨y2, a2, f2, g1, g2⟩ := round_expr hs h1
        have hu := Ev.uniq' h2 g1
        have hy : y = y2 := congrArg (fun v => v.1) hu
        have hf : f = f2 := congrArg (fun v => v.2.2) hu
        rw [← hf, ← hy] at g2
        rcases g2 with g | g | ⟨g, g3⟩
        · subst g
          simp only [if_true, if_neg (show ¬ (8 : Int) = 9 by decide)]
          exact alive
        · subst g
          simp only [if_true]
          exact alive
        · subst g
          rw [g3]
          have hfit : Fit x := by
            obtain ⟨K, hK⟩ := h1
            exact expr_fit (hK K (Nat.le_refl _))
          simp only [if_true, if_neg (show ¬ (0 : Int) = 9 by decide), if_neg (show ¬ (0 : Int) = 8 by decide)]
          refine Ev.bind (expr_same hfit) ?_
          simp only [if_true]
          exact alive
      · simp only [if_neg he]
        exact alive
    obtain ⟨K, hK⟩ := all
    exact ⟨K, hK K (Nat.le_refl _)⟩

end Go.Syn
