/- The laws of expressions and of queries, in plain terms: the program and the reference answer alike. -/
import Derived.Test.YtoioflodpmideaaGreatP16
import Derived.Test.YtoioflodpmideaaGreatP10
import Derived.WalkKit
import Derived.ProofKit
namespace Go.Syn
open Go.Abs Go.Proofs.Tryz

theorem alive_k (k : Nat) : l06_alive (k + 60) = some true := by kernel_rfl
theorem alive_ev : Ev l06_alive true := ⟨60, fun k hk => by obtain ⟨j, rfl⟩ : ∃ j, k = j + 60 := ⟨k - 60, by omega⟩; exact alive_k j⟩

theorem str_rv (s : Str) (g : Gh) : ∀ (i : Nat) (v : Value) (a : V), (#[Value.string ⟨s.toArray⟩] : Array Value)[i]? = some v → [V.one (.str s)][i]? = some a → RV g v a := by
  intro i v a hv ha
  match i, hv, ha with
  | 0, hv, ha => cases hv; cases ha; exact rv_str (by simp)

variable {t : List Token} {p : Parser} {q : PT}

theorem end_ref (q : PT) (h : q.E ≠ 0) : r06_P_End q = some (q, q.At, q.E) := by
  unfold r06_P_End r06_P_End_j1
  rw [if_neg h, if_neg h]

/-- The ends of both, side by side. -/
theorem ends (h : Sim t p q) : ∃ z, sp_now p = some z ∧
    ((z.Kind = 0 ∧ p.e = 0 ∧ r06_P_End q = some (q, 0, 0)) ∨ (z.Kind = 0 ∧ p.e ≠ 0 ∧ ∃ q', r06_P_End q = some (q', p.at_, p.e)) ∨
     (z.Kind ≠ 0 ∧ ∃ p' q', sp_fail p 10 = some p' ∧ p'.e ≠ 0 ∧ r06_P_End q = some (q', p'.at_, p'.e))) := by
  obtain ⟨z, h1, h2, h3⟩ := now_some h
  refine ⟨z, h1, ?_⟩
  obtain ⟨p2, q2, b1, b2, b3, b4, b5, b6⟩ := bad_sim h (n := 10) (by decide)
  by_cases he : p.e = 0
  · have hE : q.E = 0 := by rw [h.e]; exact he
    obtain ⟨g1, g2, _⟩ := h.live he
    have hx : idx q.T q.I = some z := by
      have : q.T = p.t ∧ q.I = p.i := by rw [g1, g2]; exact ⟨rfl, rfl⟩
      rw [this.1, this.2]; exact h2
    by_cases hk : z.Kind = 0
    · refine .inl ⟨hk, he, ?_⟩
      unfold r06_P_End r06_P_End_j1
      rw [if_pos hE, hx, Option.bind_some, if_pos hk, if_pos hE]
    · refine .inr (.inr ⟨hk, p2, q2, b1, b4, ?_⟩)
      unfold r06_P_End r06_P_End_j1
      rw [if_pos hE, hx, Option.bind_some, if_neg hk, b2, Option.bind_some, if_neg (by rw [b3.e]; exact b4), b3.e, b3.at_]
  · have hE : q.E ≠ 0 := by rw [h.e]; exact he
    by_cases hk : z.Kind = 0
    · exact .inr (.inl ⟨hk, he, q, by rw [end_ref q hE, h.e, h.at_]⟩)
    · obtain ⟨rfl, rfl⟩ := b6 he
      exact .inr (.inr ⟨hk, p2, q2, b1, b4, by rw [end_ref q2 hE, h.e, h.at_]⟩)

theorem start_sim {l : List Token} (ht : Toks l) : Sim l (Parser.mk l 0 0 0 0) (PT.mk l 0 0 0 0) :=
  ⟨rfl, Int.le_refl _, by show (0 : Int) < l.length; have := ht.ne; omega, .inl ⟨rfl, Int.le_refl _, by show (0 : Int) ≤ 40; omega, rfl⟩⟩

theorem top_expr (s : Str) (hs : s.length ≤ 30000) : ∃ (x : Expr) (at_ e : Int), Ev (fun k => syntax_Expr k s) (x, at_, e) ∧ Ev (fun k => r06_Expr k s) (x, at_, e) := by
  obtain ⟨l, at_, e, h1, h2, h3⟩ := scan_ev s hs
  have hn : Ev (fun k => r06_New k s 0) (PT.mk l 0 0 at_ e) := by
    unfold r06_New
    exact Ev.bind h2 (Ev.now fun _ => rfl)
  by_cases he : e = 0
  · obtain ⟨ha, ht⟩ := h3 he
    subst he
    subst ha
    have hsim := start_sim ht
    obtain ⟨p', x, q', y, g1, g2, g3⟩ := (all_sim ht (rem l (Parser.mk l 0 0 0 0) + 1)).expr _ _ hsim rfl (by omega)
    obtain ⟨z, z1, z2⟩ := ends g3.sim
    have P : ∀ X, Ev (fun k => (sp_now p').bind fun r6 => if r6.Kind = 0 then (if p'.e = 0 then (some (x, 0, 0)) else (some ((Expr.mk 0 0 [] [] [] []), p'.at_, p'.e))) else ((sp_fail p' 10).bind fun r7 => if r7.e = 0 then (some (x, 0, 0)) else (some ((Expr.mk 0 0 [] [] [] []), r7.at_, r7.e)))) X → Ev (fun k => syntax_Expr k s) X := by
      intro X hX
      obtain ⟨X1, X2, X3⟩ := X
      unfold syntax_Expr syntax_read_r
      refine Ev.bind (a := (X1, X2, X3)) (Ev.bind h1 ?_) (Ev.now fun _ => rfl)
      simp only [if_true]
      unfold syntax_Expr_1
      exact Ev.bind (Ev.bind g1 (Ev.now fun _ => rfl)) hX
    have R : ∀ X, Ev (fun k => (r06_P_End q').bind fun (r4, r5, r6) => if r6 = 0 then (some (y, r5, r6)) else (some ((Expr.mk 0 0 [] [] [] []), r5, r6))) X → Ev (fun k => r06_Expr k s) X := by
      intro X hX
      unfold r06_Expr
      refine Ev.bind hn ?_
      simp only [if_true]
      exact Ev.bind g2 hX
    rcases z2 with ⟨k0, e0, w0⟩ | ⟨k0, e0, q2, w0⟩ | ⟨k0, p2, q2, w1, e0, w0⟩
    · have hy := (g3.live e0).2.1
      subst hy
      refine ⟨y, 0, 0, P _ ?_, R _ ?_⟩
      · simp only [z1, Option.bind_some, if_pos k0, if_pos e0]; exact Ev.now fun _ => rfl
      · simp only [w0, Option.bind_some, if_true]; exact Ev.now fun _ => rfl
    · refine ⟨(Expr.mk 0 0 [] [] [] []), p'.at_, p'.e, P _ ?_, R _ ?_⟩
      · simp only [z1, Option.bind_some, if_pos k0, if_neg e0]; exact Ev.now fun _ => rfl
      · simp only [w0, Option.bind_some, if_neg e0]; exact Ev.now fun _ => rfl
    · refine ⟨(Expr.mk 0 0 [] [] [] []), p2.at_, p2.e, P _ ?_, R _ ?_⟩
      · simp only [z1, Option.bind_some, if_neg k0, w1, if_neg e0]; exact Ev.now fun _ => rfl
      · simp only [w0, Option.bind_some, if_neg e0]; exact Ev.now fun _ => rfl
  · refine ⟨(Expr.mk 0 0 [] [] [] []), at_, e, ?_, ?_⟩
    · unfold syntax_Expr syntax_read_r
      refine Ev.bind (a := ((Expr.mk 0 0 [] [] [] []), at_, e)) (Ev.bind h1 ?_) (Ev.now fun _ => rfl)
      simp only [if_neg he]
      exact Ev.now fun _ => rfl
    · unfold r06_Expr
      refine Ev.bind hn ?_
      simp only [if_neg he]
      exact Ev.now fun _ => rfl

theorem expr_fit {k : Nat} {s : Str} {r : Expr × Int × Int} (h : syntax_Expr k s = some r) : Fit r.1 := by
  obtain ⟨v, g', hv⟩ := has_val func8 rfl rfl (syntax_Expr_ok h) (vs := #[.string ⟨s.toArray⟩]) rfl (str_rv s _)
  obtain ⟨u, hu⟩ := RV.tup_at hv (i := 0) rfl
  exact hu.fit

theorem l06_SyntaxExprs_pure (s : Str) : ∃ k, l06_SyntaxExprs k s = some true := by
  by_cases h : (21000 : Int) < (s.length : Int)
  · refine ⟨60, ?_⟩
    unfold l06_SyntaxExprs
    rw [if_pos h, alive_k 0, Option.bind_some]
  · obtain ⟨x, at_, e, h1, h2⟩ := top_expr s (by omega)
    have hf : Fit x := by
      obtain ⟨K, hK⟩ := h1
      exact expr_fit (hK K (Nat.le_refl _))
    have : Ev (fun k => l06_SyntaxExprs k s) true := by
      unfold l06_SyntaxExprs
      simp only [if_neg h]
      refine Ev.bind h1 (Ev.bind h2 (Ev.bind (expr_same hf) ?_))
      simp only [if_true]
      exact Ev.bind alive_ev (Ev.now fun _ => rfl)
    obtain ⟨K, hK⟩ := this
    exact ⟨K, hK K (Nat.le_refl _)⟩

theorem top_query (s : Str) (hs : s.length ≤ 30000) : ∃ (x : Query) (at_ e : Int), Ev (fun k => syntax_Query k s) (x, at_, e) ∧ Ev (fun k => r06_Query k s) (x, at_, e) := by
  obtain ⟨l, at_, e, h1, h2, h3⟩ := scan_ev s hs
  have hn : Ev (fun k => r06_New k s 0) (PT.mk l 0 0 at_ e) := by
    unfold r06_New
    exact Ev.bind h2 (Ev.now fun _ => rfl)
  by_cases he : e = 0
  · obtain ⟨ha, ht⟩ := h3 he
    subst he
    subst ha
    have hsim := start_sim ht
    obtain ⟨p', x, q', y, g1, g2, g3⟩ := (all_sim ht (rem l (Parser.mk l 0 0 0 0) + 1)).query _ _ hsim rfl (by omega)
    obtain ⟨z, z1, z2⟩ := ends g3.sim
    have P : ∀ X, Ev (fun k => (sp_now p').bind fun r6 => if r6.Kind = 0 then (if p'.e = 0 then (some (x, 0, 0)) else (some ((Query.mk 0 false [] [] [] [] [] [] 0 []), p'.at_, p'.e))) else ((sp_fail p' 10).bind fun r7 => if r7.e = 0 then (some (x, 0, 0)) else (some ((Query.mk 0 false [] [] [] [] [] [] 0 []), r7.at_, r7.e)))) X → Ev (fun k => syntax_Query k s) X := by
      intro X hX
      obtain ⟨X1, X2, X3⟩ := X
      unfold syntax_Query syntax_read_y
      refine Ev.bind (a := (X1, X2, X3)) (Ev.bind h1 ?_) (Ev.now fun _ => rfl)
      simp only [if_true]
      unfold syntax_Query_1
      exact Ev.bind (Ev.bind g1 (Ev.now fun _ => rfl)) hX
    have R : ∀ X, Ev (fun k => (r06_P_End q').bind fun (r4, r5, r6) => if r6 = 0 then (some (y, r5, r6)) else (some ((Query.mk 0 false [] [] [] [] [] [] 0 []), r5, r6))) X → Ev (fun k => r06_Query k s) X := by
      intro X hX
      unfold r06_Query
      refine Ev.bind hn ?_
      simp only [if_true]
      exact Ev.bind g2 hX
    rcases z2 with ⟨k0, e0, w0⟩ | ⟨k0, e0, q2, w0⟩ | ⟨k0, p2, q2, w1, e0, w0⟩
    · have hy := (g3.live e0).2.1
      subst hy
      refine ⟨y, 0, 0, P _ ?_, R _ ?_⟩
      · simp only [z1, Option.bind_some, if_pos k0, if_pos e0]; exact Ev.now fun _ => rfl
      · simp only [w0, Option.bind_some, if_true]; exact Ev.now fun _ => rfl
    · refine ⟨(Query.mk 0 false [] [] [] [] [] [] 0 []), p'.at_, p'.e, P _ ?_, R _ ?_⟩
      · simp only [z1, Option.bind_some, if_pos k0, if_neg e0]; exact Ev.now fun _ => rfl
      · simp only [w0, Option.bind_some, if_neg e0]; exact Ev.now fun _ => rfl
    · refine ⟨(Query.mk 0 false [] [] [] [] [] [] 0 []), p2.at_, p2.e, P _ ?_, R _ ?_⟩
      · simp only [z1, Option.bind_some, if_neg k0, w1, if_neg e0]; exact Ev.now fun _ => rfl
      · simp only [w0, Option.bind_some, if_neg e0]; exact Ev.now fun _ => rfl
  · refine ⟨(Query.mk 0 false [] [] [] [] [] [] 0 []), at_, e, ?_, ?_⟩
    · unfold syntax_Query syntax_read_y
      refine Ev.bind (a := ((Query.mk 0 false [] [] [] [] [] [] 0 []), at_, e)) (Ev.bind h1 ?_) (Ev.now fun _ => rfl)
      simp only [if_neg he]
      exact Ev.now fun _ => rfl
    · unfold r06_Query
      refine Ev.bind hn ?_
      simp only [if_neg he]
      exact Ev.now fun _ => rfl

theorem query_fit {k : Nat} {s : Str} {r : Query × Int × Int} (h : syntax_Query k s = some r) : Fit r.1 := by
  obtain ⟨v, g', hv⟩ := has_val func11 rfl rfl (syntax_Query_ok h) (vs := #[.string ⟨s.toArray⟩]) rfl (str_rv s _)
  obtain ⟨u, hu⟩ := RV.tup_at hv (i := 0) rfl
  exact hu.fit

theorem l06_SyntaxQueries_pure (s : Str) : ∃ k, l06_SyntaxQueries k s = some true := by
  by_cases h : (21000 : Int) < (s.length : Int)
  · refine ⟨60, ?_⟩
    unfold l06_SyntaxQueries
    rw [if_pos h, alive_k 0, Option.bind_some]
  · obtain ⟨x, at_, e, h1, h2⟩ := top_query s (by omega)
    have hf : Fit x := by
      obtain ⟨K, hK⟩ := h1
      exact query_fit (hK K (Nat.le_refl _))
    have : Ev (fun k => l06_SyntaxQueries k s) true := by
      unfold l06_SyntaxQueries
      simp only [if_neg h]
      refine Ev.bind h1 (Ev.bind h2 (Ev.bind (query_same' hf) ?_))
      simp only [if_true]
      exact Ev.bind alive_ev (Ev.now fun _ => rfl)
    obtain ⟨K, hK⟩ := this
    exact ⟨K, hK K (Nat.le_refl _)⟩

end Go.Syn
