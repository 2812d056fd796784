/- The words of the language: both ask the same. (The cascade is printed by a program of this session.) -/
import Derived.Test.YtoioflodpmideaaP1
namespace Go.Syn
open Go.Abs

noncomputable def L0 : List Str := [s_all, s_and, s_as, s_begin, s_begins, s_between, s_by, s_call, s_case, s_catch, s_commit, s_delete, s_desc, s_distinct]
noncomputable def L1 : List Str := [s_else, s_end, s_except, s_exists, s_for, s_from, s_group, s_having, s_hide, s_if, s_in, s_input, s_insert, s_int]
noncomputable def L2 : List Str := [s_into, s_intersect, s_is, s_join, s_key, s_left, s_level, s_levels, s_limit, s_not, s_null, s_on, s_or, s_order]
noncomputable def L3 : List Str := [s_principal, s_print, s_proc, s_raise, s_rollback, s_rows, s_select, s_set, s_table, s_text, s_then, s_true, s_try]
noncomputable def L4 : List Str := [s_false, s_bool, s_union, s_update, s_values, s_var, s_visible, s_when, s_where, s_while, s_channel, s_skip]
theorem token_Word_j4_t (s : Str) : token_Word_j4 s true = some true := by unfold token_Word_j4; simp
theorem token_Word_j4_f (s : Str) : token_Word_j4 s false = some (decide (s ∈ L4)) := by
  unfold token_Word_j4 L4
  rw [if_neg (by decide)]
  by_cases h0 : s = s_false
  · rw [if_pos h0]; simp [h0]
  rw [if_neg h0]
  by_cases h1 : s = s_bool
  · rw [if_pos h1]; simp [h1]
  rw [if_neg h1]
  by_cases h2 : s = s_union
  · rw [if_pos h2]; simp [h2]
  rw [if_neg h2]
  by_cases h3 : s = s_update
  · rw [if_pos h3]; simp [h3]
  rw [if_neg h3]
  by_cases h4 : s = s_values
  · rw [if_pos h4]; simp [h4]
  rw [if_neg h4]
  by_cases h5 : s = s_var
  · rw [if_pos h5]; simp [h5]
  rw [if_neg h5]
  by_cases h6 : s = s_visible
  · rw [if_pos h6]; simp [h6]
  rw [if_neg h6]
  by_cases h7 : s = s_when
  · rw [if_pos h7]; simp [h7]
  rw [if_neg h7]
  by_cases h8 : s = s_where
  · rw [if_pos h8]; simp [h8]
  rw [if_neg h8]
  by_cases h9 : s = s_while
  · rw [if_pos h9]; simp [h9]
  rw [if_neg h9]
  by_cases h10 : s = s_channel
  · rw [if_pos h10]; simp [h10]
  rw [if_neg h10]
  by_cases h11 : s = s_skip
  · rw [if_pos h11]; simp [h11]
  rw [if_neg h11]
  simp [h0, h1, h2, h3, h4, h5, h6, h7, h8, h9, h10, h11]
theorem token_Word_j3_t (s : Str) : token_Word_j3 s true = some true := by unfold token_Word_j3; simp
theorem token_Word_j3_f (s : Str) : token_Word_j3 s false = if s ∈ L3 then some true else token_Word_j4 s false := by
  unfold token_Word_j3 L3
  rw [if_neg (by decide)]
  by_cases h0 : s = s_principal
  · rw [if_pos h0]; simp [h0, token_Word_j4_t]
  rw [if_neg h0]
  by_cases h1 : s = s_print
  · rw [if_pos h1]; simp [h1, token_Word_j4_t]
  rw [if_neg h1]
  by_cases h2 : s = s_proc
  · rw [if_pos h2]; simp [h2, token_Word_j4_t]
  rw [if_neg h2]
  by_cases h3 : s = s_raise
  · rw [if_pos h3]; simp [h3, token_Word_j4_t]
  rw [if_neg h3]
  by_cases h4 : s = s_rollback
  · rw [if_pos h4]; simp [h4, token_Word_j4_t]
  rw [if_neg h4]
  by_cases h5 : s = s_rows
  · rw [if_pos h5]; simp [h5, token_Word_j4_t]
  rw [if_neg h5]
  by_cases h6 : s = s_select
  · rw [if_pos h6]; simp [h6, token_Word_j4_t]
  rw [if_neg h6]
  by_cases h7 : s = s_set
  · rw [if_pos h7]; simp [h7, token_Word_j4_t]
  rw [if_neg h7]
  by_cases h8 : s = s_table
  · rw [if_pos h8]; simp [h8, token_Word_j4_t]
  rw [if_neg h8]
  by_cases h9 : s = s_text
  · rw [if_pos h9]; simp [h9, token_Word_j4_t]
  rw [if_neg h9]
  by_cases h10 : s = s_then
  · rw [if_pos h10]; simp [h10, token_Word_j4_t]
  rw [if_neg h10]
  by_cases h11 : s = s_true
  · rw [if_pos h11]; simp [h11, token_Word_j4_t]
  rw [if_neg h11]
  by_cases h12 : s = s_try
  · simp [h12, token_Word_j4_t]
  · simp [h0, h1, h2, h3, h4, h5, h6, h7, h8, h9, h10, h11, h12]
theorem token_Word_j2_t (s : Str) : token_Word_j2 s true = some true := by unfold token_Word_j2; simp
theorem token_Word_j2_f (s : Str) : token_Word_j2 s false = if s ∈ L2 then some true else token_Word_j3 s false := by
  unfold token_Word_j2 L2
  rw [if_neg (by decide)]
  by_cases h0 : s = s_into
  · rw [if_pos h0]; simp [h0, token_Word_j3_t]
  rw [if_neg h0]
  by_cases h1 : s = s_intersect
  · rw [if_pos h1]; simp [h1, token_Word_j3_t]
  rw [if_neg h1]
  by_cases h2 : s = s_is
  · rw [if_pos h2]; simp [h2, token_Word_j3_t]
  rw [if_neg h2]
  by_cases h3 : s = s_join
  · rw [if_pos h3]; simp [h3, token_Word_j3_t]
  rw [if_neg h3]
  by_cases h4 : s = s_key
  · rw [if_pos h4]; simp [h4, token_Word_j3_t]
  rw [if_neg h4]
  by_cases h5 : s = s_left
  · rw [if_pos h5]; simp [h5, token_Word_j3_t]
  rw [if_neg h5]
  by_cases h6 : s = s_level
  · rw [if_pos h6]; simp [h6, token_Word_j3_t]
  rw [if_neg h6]
  by_cases h7 : s = s_levels
  · rw [if_pos h7]; simp [h7, token_Word_j3_t]
  rw [if_neg h7]
  by_cases h8 : s = s_limit
  · rw [if_pos h8]; simp [h8, token_Word_j3_t]
  rw [if_neg h8]
  by_cases h9 : s = s_not
  · rw [if_pos h9]; simp [h9, token_Word_j3_t]
  rw [if_neg h9]
  by_cases h10 : s = s_null
  · rw [if_pos h10]; simp [h10, token_Word_j3_t]
  rw [if_neg h10]
  by_cases h11 : s = s_on
  · rw [if_pos h11]; simp [h11, token_Word_j3_t]
  rw [if_neg h11]
  by_cases h12 : s = s_or
  · rw [if_pos h12]; simp [h12, token_Word_j3_t]
  rw [if_neg h12]
  by_cases h13 : s = s_order
  · simp [h13, token_Word_j3_t]
  · simp [h0, h1, h2, h3, h4, h5, h6, h7, h8, h9, h10, h11, h12, h13]
theorem token_Word_j1_t (s : Str) : token_Word_j1 s true = some true := by unfold token_Word_j1; simp
theorem token_Word_j1_f (s : Str) : token_Word_j1 s false = if s ∈ L1 then some true else token_Word_j2 s false := by
  unfold token_Word_j1 L1
  rw [if_neg (by decide)]
  by_cases h0 : s = s_else
  · rw [if_pos h0]; simp [h0, token_Word_j2_t]
  rw [if_neg h0]
  by_cases h1 : s = s_end
  · rw [if_pos h1]; simp [h1, token_Word_j2_t]
  rw [if_neg h1]
  by_cases h2 : s = s_except
  · rw [if_pos h2]; simp [h2, token_Word_j2_t]
  rw [if_neg h2]
  by_cases h3 : s = s_exists
  · rw [if_pos h3]; simp [h3, token_Word_j2_t]
  rw [if_neg h3]
  by_cases h4 : s = s_for
  · rw [if_pos h4]; simp [h4, token_Word_j2_t]
  rw [if_neg h4]
  by_cases h5 : s = s_from
  · rw [if_pos h5]; simp [h5, token_Word_j2_t]
  rw [if_neg h5]
  by_cases h6 : s = s_group
  · rw [if_pos h6]; simp [h6, token_Word_j2_t]
  rw [if_neg h6]
  by_cases h7 : s = s_having
  · rw [if_pos h7]; simp [h7, token_Word_j2_t]
  rw [if_neg h7]
  by_cases h8 : s = s_hide
  · rw [if_pos h8]; simp [h8, token_Word_j2_t]
  rw [if_neg h8]
  by_cases h9 : s = s_if
  · rw [if_pos h9]; simp [h9, token_Word_j2_t]
  rw [if_neg h9]
  by_cases h10 : s = s_in
  · rw [if_pos h10]; simp [h10, token_Word_j2_t]
  rw [if_neg h10]
  by_cases h11 : s = s_input
  · rw [if_pos h11]; simp [h11, token_Word_j2_t]
  rw [if_neg h11]
  by_cases h12 : s = s_insert
  · rw [if_pos h12]; simp [h12, token_Word_j2_t]
  rw [if_neg h12]
  by_cases h13 : s = s_int
  · simp [h13, token_Word_j2_t]
  · simp [h0, h1, h2, h3, h4, h5, h6, h7, h8, h9, h10, h11, h12, h13]
theorem token_Word_f (s : Str) : token_Word s = if s ∈ L0 then some true else token_Word_j1 s false := by
  unfold token_Word L0
  by_cases h0 : s = s_all
  · rw [if_pos h0]; simp [h0, token_Word_j1_t]
  rw [if_neg h0]
  by_cases h1 : s = s_and
  · rw [if_pos h1]; simp [h1, token_Word_j1_t]
  rw [if_neg h1]
  by_cases h2 : s = s_as
  · rw [if_pos h2]; simp [h2, token_Word_j1_t]
  rw [if_neg h2]
  by_cases h3 : s = s_begin
  · rw [if_pos h3]; simp [h3, token_Word_j1_t]
  rw [if_neg h3]
  by_cases h4 : s = s_begins
  · rw [if_pos h4]; simp [h4, token_Word_j1_t]
  rw [if_neg h4]
  by_cases h5 : s = s_between
  · rw [if_pos h5]; simp [h5, token_Word_j1_t]
  rw [if_neg h5]
  by_cases h6 : s = s_by
  · rw [if_pos h6]; simp [h6, token_Word_j1_t]
  rw [if_neg h6]
  by_cases h7 : s = s_call
  · rw [if_pos h7]; simp [h7, token_Word_j1_t]
  rw [if_neg h7]
  by_cases h8 : s = s_case
  · rw [if_pos h8]; simp [h8, token_Word_j1_t]
  rw [if_neg h8]
  by_cases h9 : s = s_catch
  · rw [if_pos h9]; simp [h9, token_Word_j1_t]
  rw [if_neg h9]
  by_cases h10 : s = s_commit
  · rw [if_pos h10]; simp [h10, token_Word_j1_t]
  rw [if_neg h10]
  by_cases h11 : s = s_delete
  · rw [if_pos h11]; simp [h11, token_Word_j1_t]
  rw [if_neg h11]
  by_cases h12 : s = s_desc
  · rw [if_pos h12]; simp [h12, token_Word_j1_t]
  rw [if_neg h12]
  by_cases h13 : s = s_distinct
  · simp [h13, token_Word_j1_t]
  · simp [h0, h1, h2, h3, h4, h5, h6, h7, h8, h9, h10, h11, h12, h13]

theorem words_list : r05_Words = some (L0 ++ (L1 ++ (L2 ++ (L3 ++ L4)))) := rfl

theorem word_prog (s : Str) : token_Word s = some (decide (s ∈ L0 ++ (L1 ++ (L2 ++ (L3 ++ L4))))) := by
  rw [token_Word_f, token_Word_j1_f, token_Word_j2_f, token_Word_j3_f, token_Word_j4_f]
  by_cases h0 : s ∈ L0
  · simp [h0]
  rw [if_neg h0]
  by_cases h1 : s ∈ L1
  · simp [h0, h1]
  rw [if_neg h1]
  by_cases h2 : s ∈ L2
  · simp [h0, h1, h2]
  rw [if_neg h2]
  by_cases h3 : s ∈ L3
  · simp [h0, h1, h2, h3]
  rw [if_neg h3]
  simp [h0, h1, h2, h3]

theorem word_ref_l (s : Str) (l : List Str) (hl : l.length ≤ 1000) : ∀ n i : Nat, i + n = l.length → Ev (fun k => r05_Word_l1 k s l i) (decide (s ∈ l.drop i)) := by
  intro n
  induction n with
  | zero =>
    intro i hi
    refine Ev.step (Ev.now fun k => ?_)
    show r05_Word_l1_b (tab_r05_Word_l1 k) s l i = _
    unfold r05_Word_l1_b
    rw [if_neg (by omega), List.drop_of_length_le (by omega)]
    simp
  | succ n ih =>
    intro i hi
    refine Ev.step ?_
    show Ev (fun k => r05_Word_l1_b (tab_r05_Word_l1 k) s l i) _
    have hlt : i < l.length := by omega
    have hx : idx l (i : Int) = some l[i] := by unfold idx; rw [if_pos (by omega)]; simp [hlt]
    have hd : l.drop i = l[i] :: l.drop (i + 1) := List.drop_eq_getElem_cons hlt
    have hw : IntKind.i64.wrap ((i : Int) + 1) = ((i + 1 : Nat) : Int) := by rw [wrap_eq (by omega) (by omega)]; rfl
    unfold r05_Word_l1_b
    simp only [if_pos (show (i : Int) < (l.length : Int) by omega), hx, Option.bind_some, hw, hd]
    by_cases h : l[i] = s
    · simp only [if_pos h]
      exact Ev.now fun _ => by simp [h]
    · simp only [if_neg h]
      have := ih (i + 1) (by omega)
      have e : decide (s ∈ l[i] :: l.drop (i + 1)) = decide (s ∈ l.drop (i + 1)) := by
        have hne : s ≠ l[i] := fun e => h e.symm
        rw [decide_eq_decide]
        exact ⟨fun hm => (List.mem_cons.1 hm).resolve_left hne, fun hm => List.mem_cons_of_mem _ hm⟩
      rw [e]
      exact this

theorem word_ref (s : Str) : Ev (fun k => r05_Word k s) (decide (s ∈ L0 ++ (L1 ++ (L2 ++ (L3 ++ L4))))) := by
  have h := word_ref_l s (L0 ++ (L1 ++ (L2 ++ (L3 ++ L4)))) (by decide) _ 0 (Nat.zero_add _)
  simp only [List.drop_zero] at h
  unfold r05_Word
  rw [words_list]
  exact h

variable {t : List Token} {p : Parser} {q : PT}

theorem name_sim (ht : Toks t) (h : Sim t p q) : ∃ p' q' x y, sp_name p = some (p', x) ∧ Ev (fun k => r06_P_name k q) (q', y) ∧ Stp t 1 p p' x q' y ∧ x = y := by
  obtain ⟨p2, q2, h4, h5, h6, h7, _⟩ := bad_sim h (n := 10) (by decide)
  obtain ⟨x, hx1, hx2, hx3⟩ := now_some h
  by_cases he : p.e = 0
  · obtain ⟨h1, h2, h3, h8, h9, h10⟩ := h.live he
    have hx : idx t p.i = some x := by rw [h1] at hx2; exact hx2
    by_cases hk : x.Kind = 1
    · by_cases hw : x.Text ∈ L0 ++ (L1 ++ (L2 ++ (L3 ++ L4)))
      · refine ⟨p2, q2, [], [], ?_, ?_, ⟨h6, fun he => absurd he h7⟩, rfl⟩
        · have : sp_named p = some false := by unfold sp_named; simp only [if_pos he, hx1, Option.bind_some, if_pos hk, word_prog, decide_eq_true hw]; rfl
          unfold sp_name; rw [this]; simp [h4]
        · rw [h2] at h5
          unfold r06_P_name
          rw [h2]
          simp only [if_true, hx, Option.bind_some, if_pos hk]
          refine Ev.bind (word_ref x.Text) ?_
          simp only [decide_eq_true hw, if_true, h5, Option.bind_some]
          exact Ev.now fun _ => rfl
      · obtain ⟨g1, g2, g3⟩ := go_on ht h he hx3 (by rw [hk]; decide)
        refine ⟨_, ⟨q.T, p.i + 1, q.Deep, q.At, q.E⟩, x.Text, x.Text, ?_, ?_, ⟨g3, fun _ => ⟨he, rfl, rfl, by show p.i + 1 ≤ p.i + 1; omega⟩⟩, rfl⟩
        · have : sp_named p = some true := by unfold sp_named; simp only [if_pos he, hx1, Option.bind_some, if_pos hk, word_prog, decide_eq_false hw]; rfl
          unfold sp_name; rw [this]; simp [hx1, g1]
        · have hlen := ht.len
          have g4 : IntKind.i64.wrap (p.i + 1 - 1) = p.i := by rw [wrap_eq (by omega) (by omega)]; omega
          unfold r06_P_name
          rw [h2]
          simp only [if_true, hx, Option.bind_some, if_pos hk]
          refine Ev.bind (word_ref x.Text) ?_
          simp only [decide_eq_false hw, Bool.false_eq_true, if_false, g2, g4, hx, Option.bind_some]
          exact Ev.now fun _ => rfl
    · refine ⟨p2, q2, [], [], ?_, ?_, ⟨h6, fun he => absurd he h7⟩, rfl⟩
      · have : sp_named p = some false := by unfold sp_named; rw [if_pos he, hx1]; simp [hk]
        unfold sp_name; rw [this]; simp [h4]
      · rw [h2] at h5
        unfold r06_P_name
        rw [h2]
        simp only [if_true, hx, Option.bind_some, if_neg hk, h5]
        exact Ev.now fun _ => rfl
  · refine ⟨p2, q2, [], [], ?_, ?_, ⟨h6, fun he => absurd he h7⟩, rfl⟩
    · have : sp_named p = some false := by unfold sp_named; rw [if_neg he]
      unfold sp_name; rw [this]; simp [h4]
    · unfold r06_P_name
      simp only [if_neg (show ¬ q.E = 0 by rw [h.e]; exact he), h5, Option.bind_some]
      exact Ev.now fun _ => rfl

end Go.Syn
