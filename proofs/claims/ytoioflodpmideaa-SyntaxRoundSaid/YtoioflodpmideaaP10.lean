/- An expression is the same as itself, and so is a query. -/
import Derived.Test.YtoioflodpmideaaP9
import Derived.Test.YtoioflodpmideaaAbs24
namespace Go.Syn
open Go.Abs

variable {n : Nat}

theorem tabs (k : Nat) : (tab_r06_SameExpr k).r06_SameExpr = r06_SameExpr k := rfl

theorem len_wrap {i : Nat} {m : Nat} (h : i < m) (hm : m ≤ maxLen) : IntKind.i64.wrap ((i : Int) + 1) = ((i + 1 : Nat) : Int) := by
  unfold maxLen at hm
  rw [wrap_eq (by omega) (by omega)]; rfl

theorem idx_nat {α : Type} {l : List α} {i : Nat} (h : i < l.length) : idx l (i : Int) = some l[i] := by
  unfold idx; rw [if_pos (by omega)]; simp [h]

/-- A list of expressions, each of which is the same as itself. -/
theorem exprs_same {l : List Expr} (hl : l.length ≤ maxLen) (h : ∀ x ∈ l, Ev (fun k => r06_SameExpr k x x) true) : Ev (fun k => r06_SameExprs k l l) true := by
  have loop : ∀ m i : Nat, i + m = l.length → Ev (fun k => r06_SameExprs_l1 k l l (i : Int)) true := by
    intro m
    induction m with
    | zero =>
      intro i hi
      refine Ev.step (Ev.now fun k => ?_)
      show r06_SameExprs_l1_b (tab_r06_SameExpr k) l l (i : Int) = _
      unfold r06_SameExprs_l1_b
      rw [if_neg (by omega)]
    | succ m ih =>
      intro i hi
      have hlt : i < l.length := by omega
      refine Ev.step ?_
      show Ev (fun k => r06_SameExprs_l1_b (tab_r06_SameExpr k) l l (i : Int)) _
      unfold r06_SameExprs_l1_b
      simp only [if_pos (show (i : Int) < (l.length : Int) by omega), idx_nat hlt, Option.bind_some, len_wrap hlt hl]
      refine Ev.bind (h l[i] (List.getElem_mem hlt)) ?_
      simp only [if_true]
      exact ih (i + 1) (by omega)
  refine Ev.step ?_
  show Ev (fun k => r06_SameExprs_b (tab_r06_SameExpr k) l l) _
  unfold r06_SameExprs_b
  simp only [if_true]
  exact loop l.length 0 (Nat.zero_add _)

theorem queries_same {l : List Query} (hl : l.length ≤ maxLen) (h : ∀ x ∈ l, Ev (fun k => r06_SameQuery k x x) true) : Ev (fun k => r06_SameQueries k l l) true := by
  have loop : ∀ m i : Nat, i + m = l.length → Ev (fun k => r06_SameQueries_l1 k l l (i : Int)) true := by
    intro m
    induction m with
    | zero =>
      intro i hi
      refine Ev.step (Ev.now fun k => ?_)
      show r06_SameQueries_l1_b (tab_r06_SameExpr k) l l (i : Int) = _
      unfold r06_SameQueries_l1_b
      rw [if_neg (by omega)]
    | succ m ih =>
      intro i hi
      have hlt : i < l.length := by omega
      refine Ev.step ?_
      show Ev (fun k => r06_SameQueries_l1_b (tab_r06_SameExpr k) l l (i : Int)) _
      unfold r06_SameQueries_l1_b
      simp only [if_pos (show (i : Int) < (l.length : Int) by omega), idx_nat hlt, Option.bind_some, len_wrap hlt hl]
      refine Ev.bind (h l[i] (List.getElem_mem hlt)) ?_
      simp only [if_true]
      exact ih (i + 1) (by omega)
  refine Ev.step ?_
  show Ev (fun k => r06_SameQueries_b (tab_r06_SameExpr k) l l) _
  unfold r06_SameQueries_b
  simp only [if_true]
  exact loop l.length 0 (Nat.zero_add _)

theorem froms_same {l : List From} (hl : l.length ≤ maxLen) (h : ∀ x ∈ l, Ev (fun k => r06_SameQueries k x.Q x.Q) true ∧ Ev (fun k => r06_SameFroms k x.Kids x.Kids) true ∧ Ev (fun k => r06_SameExprs k x.On x.On) true) : Ev (fun k => r06_SameFroms k l l) true := by
  have loop : ∀ m i : Nat, i + m = l.length → Ev (fun k => r06_SameFroms_l1 k l l (i : Int)) true := by
    intro m
    induction m with
    | zero =>
      intro i hi
      refine Ev.step (Ev.now fun k => ?_)
      show r06_SameFroms_l1_b (tab_r06_SameExpr k) l l (i : Int) = _
      unfold r06_SameFroms_l1_b
      rw [if_neg (by omega)]
    | succ m ih =>
      intro i hi
      have hlt : i < l.length := by omega
      obtain ⟨h1, h2, h3⟩ := h l[i] (List.getElem_mem hlt)
      refine Ev.step ?_
      show Ev (fun k => r06_SameFroms_l1_b (tab_r06_SameExpr k) l l (i : Int)) _
      unfold r06_SameFroms_l1_b
      simp only [if_pos (show (i : Int) < (l.length : Int) by omega), idx_nat hlt, Option.bind_some, if_true, beq_self_eq_true]
      refine Ev.bind h1 ?_
      simp only [if_true]
      refine Ev.bind h2 ?_
      simp only [if_true]
      refine Ev.bind h3 ?_
      unfold r06_SameFroms_j2_b
      simp only [Bool.not_true, Bool.false_eq_true, if_false, len_wrap hlt hl]
      exact ih (i + 1) (by omega)
  refine Ev.step ?_
  show Ev (fun k => r06_SameFroms_b (tab_r06_SameExpr k) l l) _
  unfold r06_SameFroms_b
  simp only [if_true]
  exact loop l.length 0 (Nat.zero_add _)

theorem query_same {x : Query} (h1 : x.Items.length ≤ maxLen) (h2 : x.Order.length ≤ maxLen) (e1 : ∀ y ∈ x.Items, Ev (fun k => r06_SameExpr k y.E y.E) true) (e2 : ∀ y ∈ x.Order, Ev (fun k => r06_SameExpr k y.E y.E) true)
    (f1 : Ev (fun k => r06_SameFroms k x.From x.From) true) (f2 : Ev (fun k => r06_SameExprs k x.Where x.Where) true) (f3 : Ev (fun k => r06_SameExprs k x.Group x.Group) true) (f4 : Ev (fun k => r06_SameExprs k x.Having x.Having) true) (f5 : Ev (fun k => r06_SameQueries k x.Kids x.Kids) true) :
    Ev (fun k => r06_SameQuery k x x) true := by
  have loop4 : ∀ m i : Nat, i + m = x.Order.length → Ev (fun k => r06_SameQuery_l4 k x x (i : Int)) true := by
    intro m
    induction m with
    | zero =>
      intro i hi
      refine Ev.step ?_
      show Ev (fun k => r06_SameQuery_l4_b (tab_r06_SameExpr k) x x (i : Int)) _
      unfold r06_SameQuery_l4_b
      simp only [if_neg (show ¬ (i : Int) < (x.Order.length : Int) by omega)]
      refine Ev.bind f1 ?_
      simp only [if_true]
      refine Ev.bind f2 ?_
      simp only [if_true]
      refine Ev.bind f3 ?_
      simp only [if_true]
      refine Ev.bind f4 ?_
      simp only [if_true]
      exact Ev.bind f5 (Ev.now fun _ => rfl)
    | succ m ih =>
      intro i hi
      have hlt : i < x.Order.length := by omega
      refine Ev.step ?_
      show Ev (fun k => r06_SameQuery_l4_b (tab_r06_SameExpr k) x x (i : Int)) _
      unfold r06_SameQuery_l4_b
      simp only [if_pos (show (i : Int) < (x.Order.length : Int) by omega), idx_nat hlt, Option.bind_some, beq_self_eq_true, if_true]
      refine Ev.bind (e2 _ (List.getElem_mem hlt)) ?_
      unfold r06_SameQuery_j5_b
      simp only [Bool.not_true, Bool.false_eq_true, if_false, len_wrap hlt h2]
      exact ih (i + 1) (by omega)
  have loop2 : ∀ m i : Nat, i + m = x.Items.length → Ev (fun k => r06_SameQuery_l2 k x x (i : Int)) true := by
    intro m
    induction m with
    | zero =>
      intro i hi
      refine Ev.step ?_
      show Ev (fun k => r06_SameQuery_l2_b (tab_r06_SameExpr k) x x (i : Int)) _
      unfold r06_SameQuery_l2_b
      simp only [if_neg (show ¬ (i : Int) < (x.Items.length : Int) by omega)]
      exact loop4 x.Order.length 0 (Nat.zero_add _)
    | succ m ih =>
      intro i hi
      have hlt : i < x.Items.length := by omega
      refine Ev.step ?_
      show Ev (fun k => r06_SameQuery_l2_b (tab_r06_SameExpr k) x x (i : Int)) _
      unfold r06_SameQuery_l2_b
      simp only [if_pos (show (i : Int) < (x.Items.length : Int) by omega), idx_nat hlt, Option.bind_some, if_true]
      refine Ev.bind (e1 _ (List.getElem_mem hlt)) ?_
      unfold r06_SameQuery_j3_b
      simp only [Bool.not_true, Bool.false_eq_true, if_false, len_wrap hlt h1]
      exact ih (i + 1) (by omega)
  refine Ev.step ?_
  show Ev (fun k => r06_SameQuery_b (tab_r06_SameExpr k) x x) _
  unfold r06_SameQuery_b r06_SameQuery_j1_b
  simp only [if_true, beq_self_eq_true, decide_true, Bool.not_true, Bool.false_eq_true, if_false]
  exact loop2 x.Items.length 0 (Nat.zero_add _)

/- What a value of each kind bears. -/
theorem Expr.fit {x : Expr} (h : Fit x) : (x.Kids.length ≤ maxLen ∧ ∀ y ∈ x.Kids, Fit y) ∧ (x.Q.length ≤ maxLen ∧ ∀ y ∈ x.Q, Fit y) :=
  ⟨fit_list (h (.sl 6 (Row.rows x.Kids)) (.tail _ (.tail _ (.tail _ (.tail _ (.head _)))))), fit_list (h (.sl 10 (Row.rows x.Q)) (.tail _ (.tail _ (.tail _ (.tail _ (.tail _ (.head _)))))))⟩

theorem Query.fit {x : Query} (h : Fit x) : (x.Items.length ≤ maxLen ∧ ∀ y ∈ x.Items, Fit y) ∧ (x.From.length ≤ maxLen ∧ ∀ y ∈ x.From, Fit y) ∧ (x.Where.length ≤ maxLen ∧ ∀ y ∈ x.Where, Fit y) ∧ (x.Group.length ≤ maxLen ∧ ∀ y ∈ x.Group, Fit y) ∧
    (x.Having.length ≤ maxLen ∧ ∀ y ∈ x.Having, Fit y) ∧ (x.Order.length ≤ maxLen ∧ ∀ y ∈ x.Order, Fit y) ∧ (x.Kids.length ≤ maxLen ∧ ∀ y ∈ x.Kids, Fit y) :=
  ⟨fit_list (h (.sl 7 (Row.rows x.Items)) (.tail _ (.tail _ (.head _)))), fit_list (h (.sl 7 (Row.rows x.From)) (.tail _ (.tail _ (.tail _ (.head _))))), fit_list (h (.sl 6 (Row.rows x.Where)) (.tail _ (.tail _ (.tail _ (.tail _ (.head _)))))),
    fit_list (h (.sl 6 (Row.rows x.Group)) (.tail _ (.tail _ (.tail _ (.tail _ (.tail _ (.head _))))))), fit_list (h (.sl 6 (Row.rows x.Having)) (.tail _ (.tail _ (.tail _ (.tail _ (.tail _ (.tail _ (.head _)))))))),
    fit_list (h (.sl 7 (Row.rows x.Order)) (.tail _ (.tail _ (.tail _ (.tail _ (.tail _ (.tail _ (.tail _ (.head _))))))))), fit_list (h (.sl 10 (Row.rows x.Kids)) (.tail _ (.tail _ (.tail _ (.tail _ (.tail _ (.tail _ (.tail _ (.tail _ (.tail _ (.head _)))))))))))⟩

theorem From.fit {x : From} (h : Fit x) : (x.Q.length ≤ maxLen ∧ ∀ y ∈ x.Q, Fit y) ∧ (x.Kids.length ≤ maxLen ∧ ∀ y ∈ x.Kids, Fit y) ∧ (x.On.length ≤ maxLen ∧ ∀ y ∈ x.On, Fit y) :=
  ⟨fit_list (h (.sl 10 (Row.rows x.Q)) (.tail _ (.tail _ (.tail _ (.tail _ (.head _)))))), fit_list (h (.sl 7 (Row.rows x.Kids)) (.tail _ (.tail _ (.tail _ (.tail _ (.tail _ (.head _))))))), fit_list (h (.sl 6 (Row.rows x.On)) (.tail _ (.tail _ (.tail _ (.tail _ (.tail _ (.tail _ (.head _))))))))⟩

theorem ItemT.fit {x : ItemT} (h : Fit x) : Fit x.E := fun c hc => h c (List.mem_append_left (bs := [C.str x.Name]) hc)
theorem Key.fit {x : Key} (h : Fit x) : Fit x.E := fun c hc => h c (List.mem_append_left (bs := [C.lit (.bool x.Desc)]) hc)

theorem all_same : ∀ N : Nat, (∀ x : Expr, SizeOf.sizeOf x < N → Fit x → Ev (fun k => r06_SameExpr k x x) true) ∧ (∀ x : Query, SizeOf.sizeOf x < N → Fit x → Ev (fun k => r06_SameQuery k x x) true) ∧
    (∀ x : From, SizeOf.sizeOf x < N → Fit x → Ev (fun k => r06_SameQueries k x.Q x.Q) true ∧ Ev (fun k => r06_SameFroms k x.Kids x.Kids) true ∧ Ev (fun k => r06_SameExprs k x.On x.On) true) := by
  intro N
  induction N with
  | zero => exact ⟨fun _ h => absurd h (by omega), fun _ h => absurd h (by omega), fun _ h => absurd h (by omega)⟩
  | succ N ih =>
    obtain ⟨ie, iq, jf⟩ := ih
    refine ⟨fun x hx hf => ?_, fun x hx hf => ?_, fun x hx hf => ?_⟩
    · obtain ⟨⟨l1, m1⟩, l2, m2⟩ := Expr.fit hf
      have s1 : ∀ y ∈ x.Kids, SizeOf.sizeOf y < N := fun y hy => by
        have := List.sizeOf_lt_of_mem hy
        cases x; simp only [Expr.Kids] at this; simp only [Expr.mk.sizeOf_spec] at hx; omega
      have s2 : ∀ y ∈ x.Q, SizeOf.sizeOf y < N := fun y hy => by
        have := List.sizeOf_lt_of_mem hy
        cases x; simp only [Expr.Q] at this; simp only [Expr.mk.sizeOf_spec] at hx; omega
      have e1 := exprs_same l1 fun y hy => ie y (s1 y hy) (m1 y hy)
      have e2 := queries_same l2 fun y hy => iq y (s2 y hy) (m2 y hy)
      refine Ev.step ?_
      show Ev (fun k => r06_SameExpr_b (tab_r06_SameExpr k) x x) _
      unfold r06_SameExpr_b
      simp only [if_true]
      refine Ev.bind e1 ?_
      simp only [if_true]
      exact Ev.bind e2 (Ev.now fun _ => rfl)
    · obtain ⟨⟨l1, m1⟩, ⟨l2, m2⟩, ⟨l3, m3⟩, ⟨l4, m4⟩, ⟨l5, m5⟩, ⟨l6, m6⟩, l7, m7⟩ := Query.fit hf
      have s1 : ∀ y ∈ x.Items, SizeOf.sizeOf y.E < N := fun y hy => by
        have := List.sizeOf_lt_of_mem hy
        cases x; cases y; simp only [Query.Items, ItemT.mk.sizeOf_spec] at this; simp only [Query.mk.sizeOf_spec] at hx; simp only [ItemT.E]; omega
      have s2 : ∀ y ∈ x.From, SizeOf.sizeOf y < N := fun y hy => by
        have := List.sizeOf_lt_of_mem hy
        cases x; simp only [Query.From] at this; simp only [Query.mk.sizeOf_spec] at hx; omega
      have s3 : ∀ y ∈ x.Where, SizeOf.sizeOf y < N := fun y hy => by
        have := List.sizeOf_lt_of_mem hy
        cases x; simp only [Query.Where] at this; simp only [Query.mk.sizeOf_spec] at hx; omega
      have s4 : ∀ y ∈ x.Group, SizeOf.sizeOf y < N := fun y hy => by
        have := List.sizeOf_lt_of_mem hy
        cases x; simp only [Query.Group] at this; simp only [Query.mk.sizeOf_spec] at hx; omega
      have s5 : ∀ y ∈ x.Having, SizeOf.sizeOf y < N := fun y hy => by
        have := List.sizeOf_lt_of_mem hy
        cases x; simp only [Query.Having] at this; simp only [Query.mk.sizeOf_spec] at hx; omega
      have s6 : ∀ y ∈ x.Order, SizeOf.sizeOf y.E < N := fun y hy => by
        have := List.sizeOf_lt_of_mem hy
        cases x; cases y; simp only [Query.Order, Key.mk.sizeOf_spec] at this; simp only [Query.mk.sizeOf_spec] at hx; simp only [Key.E]; omega
      have s7 : ∀ y ∈ x.Kids, SizeOf.sizeOf y < N := fun y hy => by
        have := List.sizeOf_lt_of_mem hy
        cases x; simp only [Query.Kids] at this; simp only [Query.mk.sizeOf_spec] at hx; omega
      exact query_same l1 l6 (fun y hy => ie _ (s1 y hy) (ItemT.fit (m1 y hy))) (fun y hy => ie _ (s6 y hy) (Key.fit (m6 y hy))) (froms_same l2 fun y hy => jf y (s2 y hy) (m2 y hy))
        (exprs_same l3 fun y hy => ie y (s3 y hy) (m3 y hy)) (exprs_same l4 fun y hy => ie y (s4 y hy) (m4 y hy)) (exprs_same l5 fun y hy => ie y (s5 y hy) (m5 y hy)) (queries_same l7 fun y hy => iq y (s7 y hy) (m7 y hy))
    · obtain ⟨⟨l1, m1⟩, ⟨l2, m2⟩, l3, m3⟩ := From.fit hf
      have s1 : ∀ y ∈ x.Q, SizeOf.sizeOf y < N := fun y hy => by
        have := List.sizeOf_lt_of_mem hy
        cases x; simp only [From.Q] at this; simp only [From.mk.sizeOf_spec] at hx; omega
      have s2 : ∀ y ∈ x.Kids, SizeOf.sizeOf y < N := fun y hy => by
        have := List.sizeOf_lt_of_mem hy
        cases x; simp only [From.Kids] at this; simp only [From.mk.sizeOf_spec] at hx; omega
      have s3 : ∀ y ∈ x.On, SizeOf.sizeOf y < N := fun y hy => by
        have := List.sizeOf_lt_of_mem hy
        cases x; simp only [From.On] at this; simp only [From.mk.sizeOf_spec] at hx; omega
      exact ⟨queries_same l1 fun y hy => iq y (s1 y hy) (m1 y hy), froms_same l2 fun y hy => jf y (s2 y hy) (m2 y hy), exprs_same l3 fun y hy => ie y (s3 y hy) (m3 y hy)⟩

theorem expr_same {x : Expr} (h : Fit x) : Ev (fun k => r06_SameExpr k x x) true := (all_same (SizeOf.sizeOf x + 1)).1 x (by omega) h
theorem query_same' {x : Query} (h : Fit x) : Ev (fun k => r06_SameQuery k x x) true := (all_same (SizeOf.sizeOf x + 1)).2.1 x (by omega) h

end Go.Syn
