/- A schema is the same as itself; the law of schemas in plain terms. -/
import Derived.Test.YtoioflodpmideaaGreatP19
namespace Go.Syn
open Go.Abs Go.Proofs.Tryz

theorem texts_same {l : List Str} (hl : l.length ≤ maxLen) : Ev (fun k => r06_SameTexts k l l) true := by
  have loop : ∀ m i : Nat, i + m = l.length → Ev (fun k => r06_SameTexts_l1 k l l (i : Int)) true := by
    intro m
    induction m with
    | zero =>
      intro i hi
      refine Ev.step (Ev.now fun k => ?_)
      show r06_SameTexts_l1_b (tab_r06_SameTexts_l1 k) l l (i : Int) = _
      unfold r06_SameTexts_l1_b
      rw [if_neg (by omega)]
    | succ m ih =>
      intro i hi
      have hlt : i < l.length := by omega
      refine Ev.step ?_
      show Ev (fun k => r06_SameTexts_l1_b (tab_r06_SameTexts_l1 k) l l (i : Int)) _
      unfold r06_SameTexts_l1_b
      simp only [if_pos (show (i : Int) < (l.length : Int) by omega), idx_nat hlt, Option.bind_some, len_wrap hlt hl, if_true]
      exact ih (i + 1) (by omega)
  unfold r06_SameTexts
  simp only [if_true]
  exact loop l.length 0 (Nat.zero_add _)

theorem pairs_same {l : List Pair} (hl : l.length ≤ maxLen) : Ev (fun k => r06_SamePairs k l l) true := by
  have loop : ∀ m i : Nat, i + m = l.length → Ev (fun k => r06_SamePairs_l1 k l l (i : Int)) true := by
    intro m
    induction m with
    | zero =>
      intro i hi
      refine Ev.step (Ev.now fun k => ?_)
      show r06_SamePairs_l1_b (tab_r06_SamePairs_j2 k) l l (i : Int) = _
      unfold r06_SamePairs_l1_b
      rw [if_neg (by omega)]
    | succ m ih =>
      intro i hi
      have hlt : i < l.length := by omega
      refine Ev.step ?_
      show Ev (fun k => r06_SamePairs_l1_b (tab_r06_SamePairs_j2 k) l l (i : Int)) _
      unfold r06_SamePairs_l1_b r06_SamePairs_j2_b
      simp only [if_pos (show (i : Int) < (l.length : Int) by omega), idx_nat hlt, Option.bind_some, len_wrap hlt hl, if_true, decide_true, Bool.not_true, Bool.false_eq_true, if_false]
      exact ih (i + 1) (by omega)
  unfold r06_SamePairs
  simp only [if_true]
  exact loop l.length 0 (Nat.zero_add _)

theorem Schema.fit {x : Schema} (h : Fit x) : (x.Levels.length ≤ maxLen) ∧ (x.Edges.length ≤ maxLen) ∧ (x.Tables.length ≤ maxLen ∧ ∀ y ∈ x.Tables, Fit y) ∧ (x.Channels.length ≤ maxLen) ∧ (x.Principals.length ≤ maxLen) :=
  ⟨(fit_list (h (.sl 1 (Row.rows (α := Str) x.Levels)) (.head _))).1, (fit_list (h (.sl 2 (Row.rows (α := Pair) x.Edges)) (.tail _ (.head _)))).1, fit_list (h (.sl 6 (Row.rows (α := Table) x.Tables)) (.tail _ (.tail _ (.head _)))),
    (fit_list (h (.sl 2 (Row.rows (α := Pair) x.Channels)) (.tail _ (.tail _ (.tail _ (.head _)))))).1, (fit_list (h (.sl 2 (Row.rows (α := Pair) x.Principals)) (.tail _ (.tail _ (.tail _ (.tail _ (.head _))))))).1⟩

theorem Table.fit {x : Table} (h : Fit x) : (x.Cols.length ≤ maxLen) ∧ (x.Key.length ≤ maxLen) ∧ (x.When.length ≤ maxLen ∧ ∀ y ∈ x.When, Fit y) :=
  ⟨(fit_list (h (.sl 4 (Row.rows (α := Col) x.Cols)) (.tail _ (.tail _ (.head _))))).1, (fit_list (h (.sl 1 (Row.rows (α := Str) x.Key)) (.tail _ (.tail _ (.tail _ (.head _)))))).1, fit_list (h (.sl 6 (Row.rows (α := Expr) x.When)) (.tail _ (.tail _ (.tail _ (.tail _ (.tail _ (.head _)))))))⟩

theorem k_same (k : Nat) : (tab_r06_SameSchema_j3 k).k = k := by cases k <;> rfl

theorem schema_same {x : Schema} (h : Fit x) : Ev (fun k => r06_SameSchema k x x) true := by
  obtain ⟨f1, f2, ⟨f3, f4⟩, f5, f6⟩ := Schema.fit h
  have loop : ∀ m i : Nat, i + m = x.Tables.length → Ev (fun k => r06_SameSchema_l2 k x x (i : Int)) true := by
    intro m
    induction m with
    | zero =>
      intro i hi
      refine Ev.step (Ev.now fun k => ?_)
      show r06_SameSchema_l2_b (tab_r06_SameSchema_j3 k) x x (i : Int) = _
      unfold r06_SameSchema_l2_b
      rw [if_neg (by omega)]
    | succ m ih =>
      intro i hi
      have hlt : i < x.Tables.length := by omega
      obtain ⟨g1, g2, g3, g4⟩ := Table.fit (f4 _ (List.getElem_mem hlt))
      have cols : ∀ n j : Nat, j + n = x.Tables[i].Cols.length → Ev (fun k => r06_SameSchema_l4 k x x x.Tables[i] x.Tables[i] (i : Int) (j : Int)) true := by
        intro n
        induction n with
        | zero =>
          intro j hj
          refine Ev.step ?_
          show Ev (fun k => r06_SameSchema_l4_b (tab_r06_SameSchema_j3 k) x x x.Tables[i] x.Tables[i] (i : Int) (j : Int)) _
          unfold r06_SameSchema_l4_b
          simp only [if_neg (show ¬ (j : Int) < (x.Tables[i].Cols.length : Int) by omega), len_wrap hlt f3]
          exact ih (i + 1) (by omega)
        | succ n ihn =>
          intro j hj
          have hj' : j < x.Tables[i].Cols.length := by omega
          refine Ev.step ?_
          show Ev (fun k => r06_SameSchema_l4_b (tab_r06_SameSchema_j3 k) x x x.Tables[i] x.Tables[i] (i : Int) (j : Int)) _
          unfold r06_SameSchema_l4_b
          simp only [if_pos (show (j : Int) < (x.Tables[i].Cols.length : Int) by omega), idx_nat hj', Option.bind_some, decide_true, beq_self_eq_true, Bool.true_and, if_true, len_wrap hj' g1]
          exact ihn (j + 1) (by omega)
      refine Ev.step ?_
      show Ev (fun k => r06_SameSchema_l2_b (tab_r06_SameSchema_j3 k) x x (i : Int)) _
      unfold r06_SameSchema_l2_b
      simp only [if_pos (show (i : Int) < (x.Tables.length : Int) by omega), idx_nat hlt, Option.bind_some, if_true, k_same]
      refine Ev.bind (texts_same g2) ?_
      simp only [if_true]
      refine Ev.bind (exprs_same g3 fun y hy => expr_same (g4 y hy)) ?_
      unfold r06_SameSchema_j3_b
      simp only [Bool.not_true, Bool.false_eq_true, if_false]
      exact cols _ 0 (Nat.zero_add _)
  unfold r06_SameSchema
  refine Ev.bind (texts_same f1) ?_
  simp only [if_true]
  refine Ev.bind (pairs_same f2) ?_
  simp only [if_true]
  refine Ev.bind (pairs_same f5) ?_
  simp only [if_true]
  refine Ev.bind (pairs_same f6) ?_
  unfold r06_SameSchema_j1
  simp only [if_true, decide_true, Bool.not_true, Bool.false_eq_true, if_false]
  exact loop _ 0 (Nat.zero_add _)

theorem start_one {l : List Token} (ht : Toks l) : Sim l (Parser.mk l 0 1 0 0) (PT.mk l 0 1 0 0) :=
  ⟨rfl, Int.le_refl _, by show (0 : Int) < l.length; have := ht.ne; omega, .inl ⟨rfl, by show (0 : Int) ≤ 1; omega, by show (1 : Int) ≤ 40; omega, rfl⟩⟩

theorem top_schema (s : Str) (hs : s.length ≤ 30000) : ∃ (x : Schema) (at_ e : Int), Ev (fun k => syntax_Schema k s) (x, at_, e) ∧ Ev (fun k => r06_Schema k s) (x, at_, e) := by
  obtain ⟨l, at_, e, h1, h2, h3⟩ := scan_ev s hs
  have hn : Ev (fun k => r06_New k s 1) (PT.mk l 0 1 at_ e) := by
    unfold r06_New
    exact Ev.bind h2 (Ev.now fun _ => rfl)
  by_cases he : e = 0
  · obtain ⟨ha, ht⟩ := h3 he
    subst he
    subst ha
    have hsim := start_one ht
    obtain ⟨p', x, q', y, g1, g2, g3⟩ := schema_sim ht hsim rfl
    obtain ⟨z, z1, z2⟩ := ends g3.sim
    have P : ∀ X, Ev (fun k => (sp_now p').bind fun r6 => if r6.Kind = 0 then (if p'.e = 0 then (some (x, 0, 0)) else (some ((Schema.mk [] [] [] [] [] 0), p'.at_, p'.e))) else ((sp_fail p' 10).bind fun r7 => if r7.e = 0 then (some (x, 0, 0)) else (some ((Schema.mk [] [] [] [] [] 0), r7.at_, r7.e)))) X → Ev (fun k => syntax_Schema k s) X := by
      intro X hX
      obtain ⟨X1, X2, X3⟩ := X
      unfold syntax_Schema syntax_read_a
      refine Ev.bind (a := (X1, X2, X3)) (Ev.bind h1 ?_) (Ev.now fun _ => rfl)
      simp only [if_true]
      unfold syntax_Schema_1
      exact Ev.bind (Ev.bind g1 (Ev.now fun _ => rfl)) hX
    have R : ∀ X, Ev (fun k => (r06_P_End q').bind fun (r4, r5, r6) => if r6 = 0 then (some (y, r5, r6)) else (some ((Schema.mk [] [] [] [] [] 0), r5, r6))) X → Ev (fun k => r06_Schema k s) X := by
      intro X hX
      unfold r06_Schema
      refine Ev.bind hn ?_
      simp only [if_true]
      exact Ev.bind g2 hX
    rcases z2 with ⟨k0, e0, w0⟩ | ⟨k0, e0, q2, w0⟩ | ⟨k0, p2, q2, w1, e0, w0⟩
    · have hy := (g3.live e0).2.1
      subst hy
      refine ⟨y, 0, 0, P _ ?_, R _ ?_⟩
      · simp only [z1, Option.bind_some, if_pos k0, if_pos e0]; exact Ev.now fun _ => rfl
      · simp only [w0, Option.bind_some, if_true]; exact Ev.now fun _ => rfl
    · refine ⟨(Schema.mk [] [] [] [] [] 0), p'.at_, p'.e, P _ ?_, R _ ?_⟩
      · simp only [z1, Option.bind_some, if_pos k0, if_neg e0]; exact Ev.now fun _ => rfl
      · simp only [w0, Option.bind_some, if_neg e0]; exact Ev.now fun _ => rfl
    · refine ⟨(Schema.mk [] [] [] [] [] 0), p2.at_, p2.e, P _ ?_, R _ ?_⟩
      · simp only [z1, Option.bind_some, if_neg k0, w1, if_neg e0]; exact Ev.now fun _ => rfl
      · simp only [w0, Option.bind_some, if_neg e0]; exact Ev.now fun _ => rfl
  · refine ⟨(Schema.mk [] [] [] [] [] 0), at_, e, ?_, ?_⟩
    · unfold syntax_Schema syntax_read_a
      refine Ev.bind (a := ((Schema.mk [] [] [] [] [] 0), at_, e)) (Ev.bind h1 ?_) (Ev.now fun _ => rfl)
      simp only [if_neg he]
      exact Ev.now fun _ => rfl
    · unfold r06_Schema
      refine Ev.bind hn ?_
      simp only [if_neg he]
      exact Ev.now fun _ => rfl

theorem schema_fit {k : Nat} {s : Str} {r : Schema × Int × Int} (h : syntax_Schema k s = some r) : Fit r.1 := by
  obtain ⟨v, g', hv⟩ := has_val func17 rfl rfl (syntax_Schema_ok h) (vs := #[.string ⟨s.toArray⟩]) rfl (str_rv s _)
  obtain ⟨u, hu⟩ := RV.tup_at hv (i := 0) rfl
  exact hu.fit

theorem l06_SyntaxSchemas_pure (s : Str) : ∃ k, l06_SyntaxSchemas k s = some true := by
  by_cases h : (21000 : Int) < (s.length : Int)
  · refine ⟨60, ?_⟩
    unfold l06_SyntaxSchemas
    rw [if_pos h, alive_k 0, Option.bind_some]
  · obtain ⟨x, at_, e, h1, h2⟩ := top_schema s (by omega)
    have hf : Fit x := by
      obtain ⟨K, hK⟩ := h1
      exact schema_fit (hK K (Nat.le_refl _))
    have : Ev (fun k => l06_SyntaxSchemas k s) true := by
      unfold l06_SyntaxSchemas
      simp only [if_neg h]
      refine Ev.bind h1 (Ev.bind h2 (Ev.bind (schema_same hf) ?_))
      simp only [if_true]
      exact Ev.bind alive_ev (Ev.now fun _ => rfl)
    obtain ⟨K, hK⟩ := this
    exact ⟨K, hK K (Nat.le_refl _)⟩

end Go.Syn
