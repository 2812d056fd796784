/- Plain laws of the two parsers: marks out of a list, going deeper, and what is done once something is wrong. -/
import Derived.Test.YtoioflodpmideaaP2
namespace Go.Syn
open Go.Abs

variable {t : List Token} {p : Parser} {q : PT}

/-- The mark that is next, if one is; and the states behind it. -/
theorem mark_form (ht : Toks t) (h : Sim t p q) : ∃ (o : Option Str) (p1 : Parser) (q1 : PT),
    (∀ s, Marky s → sp_mark p s = some (if o = some s then (p1, true) else (p, false)) ∧ r06_P_take q s = some (if o = some s then (q1, true) else (q, false))) ∧
    ∀ s, o = some s → Marky s ∧ p.e = 0 ∧ p1.e = 0 ∧ p1.i = p.i + 1 ∧ p1.deep = p.deep ∧ Sim t p1 q1 := by
  obtain ⟨x, hx1, hx2, hx3⟩ := now_some h
  by_cases he : p.e = 0
  · obtain ⟨h1, h2, h3, h4, h5, h6⟩ := h.live he
    have hm : x ∈ t := List.mem_of_getElem? hx3
    have hsees : ∀ s, sp_sees p 4 s = some (decide (x.Kind = 4 ∧ x.Text = s)) := by
      intro s
      unfold sp_sees
      rw [if_pos he, hx1]
      simp only [Option.bind_some]
      by_cases hk : x.Kind = 4 <;> simp [hk]
    have his : ∀ s, Marky s → r06_P_is q s = some (decide (x.Kind = 4 ∧ x.Text = s)) := by
      intro s hs
      have hx : idx t p.i = some x := by rw [h1] at hx2; exact hx2
      unfold r06_P_is
      rw [h2]
      simp only [if_true]
      rw [hx]
      simp only [Option.bind_some]
      by_cases hk : x.Kind = 1
      · rw [if_pos hk]
        have : x.Text ≠ s := fun e => not_both (ht.word x hm hk) (by rw [e]; exact hs)
        simp [hk, this]
      · rw [if_neg hk]
        by_cases hk4 : x.Kind = 4
        · simp [hk4]
        · rw [if_neg hk4]; simp [hk4]
    by_cases hk : x.Kind = 4
    · obtain ⟨g1, g2, g3⟩ := go_on ht h he hx3 (by rw [hk]; decide)
      refine ⟨some x.Text, ⟨p.t, p.i + 1, p.deep, p.at_, p.e⟩, ⟨q.T, p.i + 1, q.Deep, q.At, q.E⟩, fun s hs => ⟨?_, ?_⟩, fun s hs => ?_⟩
      · unfold sp_mark
        rw [hsees]
        by_cases e : x.Text = s <;> simp [hk, e, g1]
      · unfold r06_P_take
        rw [his s hs, show q.I = p.i by rw [h2], g2]
        by_cases e : x.Text = s <;> simp [hk, e]
      · simp only [Option.some.injEq] at hs
        subst hs
        exact ⟨ht.mark x hm hk, he, he, rfl, rfl, g3⟩
    · refine ⟨none, p, q, fun s hs => ⟨?_, ?_⟩, fun s hs => by cases hs⟩
      · unfold sp_mark; rw [hsees]; simp [hk]
      · unfold r06_P_take; rw [his s hs]; simp [hk]
  · refine ⟨none, p, q, fun s hs => ⟨?_, ?_⟩, fun s hs => by cases hs⟩
    · have : sp_sees p 4 s = some false := by unfold sp_sees; rw [if_neg he]
      unfold sp_mark; rw [this]; simp
    · have : r06_P_is q s = some false := by unfold r06_P_is; rw [if_neg (by rw [h.e]; exact he)]
      unfold r06_P_take; rw [this]; simp

/-- What oneOf answers. -/
def oneAns (o : Option Str) (q q1 : PT) (l : List Str) : PT × Str :=
  match o with
  | some s => if s ∈ l then (q1, s) else (q, [])
  | none => (q, [])

theorem oneOf_l {o : Option Str} {q1 : PT} (l : List Str) (hl : l.length ≤ 1000) (hm : ∀ s ∈ l, r06_P_take q s = some (if o = some s then (q1, true) else (q, false))) :
    ∀ n i : Nat, i + n = l.length → Ev (fun k => r06_P_oneOf_l1 k q l i) (oneAns o q q1 (l.drop i)) := by
  intro n
  induction n with
  | zero =>
    intro i hi
    refine Ev.step (Ev.now fun k => ?_)
    show r06_P_oneOf_l1_b (tab_r06_P_oneOf_l1 k) q l i = _
    unfold r06_P_oneOf_l1_b
    rw [if_neg (by omega), List.drop_of_length_le (by omega)]
    cases o <;> simp [oneAns]
  | succ n ih =>
    intro i hi
    refine Ev.step ?_
    show Ev (fun k => r06_P_oneOf_l1_b (tab_r06_P_oneOf_l1 k) q l i) _
    have hlt : i < l.length := by omega
    have hx : idx l (i : Int) = some l[i] := by unfold idx; rw [if_pos (by omega)]; simp [hlt]
    have hd : l.drop i = l[i] :: l.drop (i + 1) := List.drop_eq_getElem_cons hlt
    have hw : IntKind.i64.wrap ((i : Int) + 1) = ((i + 1 : Nat) : Int) := by rw [wrap_eq (by omega) (by omega)]; rfl
    unfold r06_P_oneOf_l1_b
    simp only [if_pos (show (i : Int) < (l.length : Int) by omega), hx, Option.bind_some, hw, hm l[i] (List.getElem_mem hlt)]
    by_cases h : o = some l[i]
    · simp only [if_pos h, if_true]
      refine Ev.now fun _ => ?_
      rw [h, hd]
      show _ = some (if l[i] ∈ l[i] :: l.drop (i + 1) then (q1, l[i]) else (q, []))
      rw [if_pos (List.mem_cons_self ..)]
    · simp only [if_neg h, Bool.false_eq_true, if_false]
      have := ih (i + 1) (by omega)
      have e : oneAns o q q1 (l.drop i) = oneAns o q q1 (l.drop (i + 1)) := by
        rw [hd]
        cases o with
        | none => rfl
        | some s =>
          have hne : s ≠ l[i] := fun e => h (by rw [e])
          have : (s ∈ l[i] :: l.drop (i + 1)) ↔ s ∈ l.drop (i + 1) := ⟨fun hm => (List.mem_cons.1 hm).resolve_left hne, fun hm => List.mem_cons_of_mem _ hm⟩
          simp only [oneAns, this]
      rw [e]
      exact this

theorem oneOf_ev {o : Option Str} {q1 : PT} (l : List Str) (hl : l.length ≤ 1000) (hm : ∀ s ∈ l, r06_P_take q s = some (if o = some s then (q1, true) else (q, false))) :
    Ev (fun k => r06_P_oneOf k q l) (oneAns o q q1 l) := by
  have h := oneOf_l l hl hm l.length 0 (Nat.zero_add _)
  rw [List.drop_zero] at h
  exact h

/-- One deeper. -/
theorem enter_sim (h : Sim t p q) : ∃ p' q' b, sp_enter p = some (p', b) ∧ r06_P_down q = some q' ∧ Sim t p' q' ∧
    ((b = true ∧ p.e = 0 ∧ p'.e = 0 ∧ p'.i = p.i ∧ p'.deep = p.deep + 1) ∨ (b = false ∧ p'.e ≠ 0)) := by
  by_cases he : p.e = 0
  · obtain ⟨h1, h2, h3, h4, h5, h6⟩ := h.live he
    have hw : IntKind.i64.wrap (p.deep + 1) = p.deep + 1 := wrap_eq (by omega) (by omega)
    have htt : p.t = t := by rw [h1]
    by_cases hd : 40 < p.deep + 1
    · have hs : sp_fail ⟨p.t, p.i, p.deep + 1, p.at_, p.e⟩ 9 = (sp_now p).bind fun x => some ⟨t, p.i, p.deep + 1, x.At, 9⟩ := by
        unfold sp_fail sp_now
        simp [he, htt]
      have hb : r06_P_bad ⟨t, p.i, p.deep + 1, p.at_, 0⟩ 9 = (sp_now p).bind fun x => some ⟨t, p.i, p.deep + 1, x.At, 9⟩ := by
        unfold r06_P_bad sp_now
        simp [htt]
      obtain ⟨x, hx1, hx2, hx3⟩ := now_some h
      refine ⟨⟨t, p.i, p.deep + 1, x.At, 9⟩, ⟨t, p.i, p.deep + 1, x.At, 9⟩, false, ?_, ?_, ⟨rfl, h3, h4, .inr ⟨by show (9 : Int) ≠ 0; decide, rfl, rfl⟩⟩, .inr ⟨rfl, by show (9 : Int) ≠ 0; decide⟩⟩
      · unfold sp_enter
        rw [hw, if_pos hd, hs, hx1]
        simp
      · unfold r06_P_down
        rw [h2]
        simp only [if_true, hw, if_pos hd, hb, hx1]
        simp
    · refine ⟨⟨p.t, p.i, p.deep + 1, p.at_, p.e⟩, ⟨t, p.i, p.deep + 1, p.at_, 0⟩, true, ?_, ?_, ⟨htt, h3, h4, .inl ⟨he, by show 0 ≤ p.deep + 1; omega, by show p.deep + 1 ≤ 40; omega, by simp [htt, he]⟩⟩, .inl ⟨rfl, he, he, rfl, rfl⟩⟩
      · unfold sp_enter
        rw [hw, if_neg hd]
        simp [he]
      · unfold r06_P_down
        rw [h2]
        simp only [if_true, hw, if_neg hd]
  · refine ⟨⟨p.t, p.i, IntKind.i64.wrap (p.deep + 1), p.at_, p.e⟩, ⟨q.T, q.I, IntKind.i64.wrap (q.Deep + 1), q.At, q.E⟩, false, ?_, ?_, ⟨h.1, h.2.1, h.2.2.1, .inr ⟨he, h.e, h.at_⟩⟩, .inr ⟨rfl, he⟩⟩
    · unfold sp_enter
      by_cases hd : 40 < IntKind.i64.wrap (p.deep + 1)
      · rw [if_pos hd]
        have : sp_fail ⟨p.t, p.i, IntKind.i64.wrap (p.deep + 1), p.at_, p.e⟩ 9 = some ⟨p.t, p.i, IntKind.i64.wrap (p.deep + 1), p.at_, p.e⟩ := by
          unfold sp_fail; rw [if_neg (show ¬ p.e = 0 from he)]
        rw [this]
        simp [he]
      · rw [if_neg hd]; simp [he]
    · unfold r06_P_down
      rw [if_neg (by rw [h.e]; exact he)]

/-- Out again. -/
def up (p : Parser) : Parser := ⟨p.t, p.i, IntKind.i64.wrap (p.deep - 1), p.at_, p.e⟩
def upT (q : PT) : PT := ⟨q.T, q.I, IntKind.i64.wrap (q.Deep - 1), q.At, q.E⟩

theorem leave_sim (h : Sim t p q) (hd : p.e = 0 → 1 ≤ p.deep) : sp_leave p = some (up p) ∧ Sim t (up p) (upT q) ∧ (p.e = 0 → (up p).deep = p.deep - 1) := by
  refine ⟨rfl, ?_, fun he => ?_⟩
  · by_cases he : p.e = 0
    · obtain ⟨h1, h2, h3, h4, h5, h6⟩ := h.live he
      have := hd he
      have hw : IntKind.i64.wrap (p.deep - 1) = p.deep - 1 := wrap_eq (by omega) (by omega)
      refine ⟨h.1, h3, h4, .inl ⟨he, ?_, ?_, ?_⟩⟩
      · show 0 ≤ IntKind.i64.wrap (p.deep - 1); omega
      · show IntKind.i64.wrap (p.deep - 1) ≤ 40; omega
      · rw [h2]; simp [up, upT, h.1, he]
    · exact ⟨h.1, h.2.1, h.2.2.1, .inr ⟨he, h.e, h.at_⟩⟩
  · obtain ⟨h1, h2, h3, h4, h5, h6⟩ := h.live he
    have := hd he
    exact wrap_eq (by omega) (by omega)

/- Once something is wrong. -/
theorem take_dead (h : q.E ≠ 0) (s : Str) : r06_P_take q s = some (q, false) := by
  have : r06_P_is q s = some false := by unfold r06_P_is; rw [if_neg h]
  unfold r06_P_take; rw [this]; simp

theorem not_dead (h : q.E ≠ 0) : ∃ y, Ev (fun k => r06_P_not k q) (q, y) := by
  refine ⟨Expr.mk 0 0 [] [] [] [], Ev.step (Ev.now fun k => ?_)⟩
  show r06_P_not_b (tab_r06_P_Expr k) q = _
  unfold r06_P_not_b
  rw [if_neg h]

theorem and_dead (h : q.E ≠ 0) : ∃ y, Ev (fun k => r06_P_and k q) (q, y) := by
  obtain ⟨y, hy⟩ := not_dead h
  refine ⟨y, Ev.step ?_⟩
  show Ev (fun k => r06_P_and_b (tab_r06_P_Expr k) q) _
  unfold r06_P_and_b
  refine Ev.bind hy ?_
  refine Ev.step (Ev.now fun k => ?_)
  show r06_P_and_l1_b (tab_r06_P_Expr k) q y = _
  unfold r06_P_and_l1_b
  rw [take_dead h]
  simp

theorem expr_dead (h : q.E ≠ 0) : ∃ q' y, Ev (fun k => r06_P_Expr k q) (q', y) ∧ q'.E = q.E ∧ q'.At = q.At := by
  have hd : r06_P_down q = some ⟨q.T, q.I, IntKind.i64.wrap (q.Deep + 1), q.At, q.E⟩ := by unfold r06_P_down; rw [if_neg h]
  obtain ⟨y, hy⟩ := and_dead (q := ⟨q.T, q.I, IntKind.i64.wrap (q.Deep + 1), q.At, q.E⟩) h
  refine ⟨upT ⟨q.T, q.I, IntKind.i64.wrap (q.Deep + 1), q.At, q.E⟩, y, Ev.step ?_, rfl, rfl⟩
  show Ev (fun k => r06_P_Expr_b (tab_r06_P_Expr k) q) _
  unfold r06_P_Expr_b
  simp only [hd, Option.bind_some]
  refine Ev.bind hy ?_
  refine Ev.step (Ev.now fun k => ?_)
  show r06_P_Expr_l1_b (tab_r06_P_Expr k) ⟨q.T, q.I, IntKind.i64.wrap (q.Deep + 1), q.At, q.E⟩ y = _
  unfold r06_P_Expr_l1_b
  rw [take_dead (q := ⟨q.T, q.I, IntKind.i64.wrap (q.Deep + 1), q.At, q.E⟩) h]
  simp [upT]

theorem query_dead (h : q.E ≠ 0) : ∃ q' y, Ev (fun k => r06_P_Query k q) (q', y) ∧ q'.E = q.E ∧ q'.At = q.At := by
  have hd : r06_P_down q = some ⟨q.T, q.I, IntKind.i64.wrap (q.Deep + 1), q.At, q.E⟩ := by unfold r06_P_down; rw [if_neg h]
  refine ⟨upT ⟨q.T, q.I, IntKind.i64.wrap (q.Deep + 1), q.At, q.E⟩, Query.mk 0 false [] [] [] [] [] [] 0 [], Ev.step (Ev.now fun k => ?_), rfl, rfl⟩
  show r06_P_Query_b (tab_r06_P_Expr k) q = _
  unfold r06_P_Query_b
  simp only [hd, Option.bind_some, if_neg h]
  rfl

/-- The two go side by side from two states. -/
def Duo (t : List Token) (m : Int) {α : Type} (f : Nat → Parser → Option (Parser × α)) (g : Nat → PT → Option (PT × α)) (p : Parser) (q : PT) : Prop :=
  ∃ p' x q' y, Ev (fun k => f k p) (p', x) ∧ Ev (fun k => g k q) (q', y) ∧ Stp t m p p' x q' y

theorem expr_sim_dead (h : Sim t p q) (he : p.e ≠ 0) : Duo t 1 sp_expr r06_P_Expr p q := by
  obtain ⟨p1, q1, b, h1, h2, h3, h4⟩ := enter_sim h
  rcases h4 with ⟨_, h4, _⟩ | ⟨rfl, h4⟩
  · exact absurd h4 he
  obtain ⟨q', y, h5, h6, h7⟩ := expr_dead (q := q) (by rw [h.e]; exact he)
  have hp1 : p1.e = p.e ∧ p1.at_ = p.at_ := by
    have hq : r06_P_down q = some ⟨q.T, q.I, IntKind.i64.wrap (q.Deep + 1), q.At, q.E⟩ := by unfold r06_P_down; rw [if_neg (by rw [h.e]; exact he)]
    rw [hq] at h2
    obtain rfl := Option.some.inj h2
    exact ⟨h3.e.symm.trans h.e, h3.at_.symm.trans h.at_⟩
  refine ⟨p1, Expr.mk 0 0 [] [] [] [], q', y, Ev.step (Ev.now fun k => ?_), h5, ⟨h3.1, h3.2.1, h3.2.2.1, .inr ⟨h4, by rw [h6, h.e, hp1.1], by rw [h7, h.at_, hp1.2]⟩⟩, fun he => absurd he h4⟩
  show sp_expr_b (tab_sp_bracketed k) p = _
  unfold sp_expr_b
  rw [h1]
  simp

theorem query_sim_dead (h : Sim t p q) (he : p.e ≠ 0) : Duo t 1 sp_query r06_P_Query p q := by
  obtain ⟨p1, q1, b, h1, h2, h3, h4⟩ := enter_sim h
  rcases h4 with ⟨_, h4, _⟩ | ⟨rfl, h4⟩
  · exact absurd h4 he
  obtain ⟨q', y, h5, h6, h7⟩ := query_dead (q := q) (by rw [h.e]; exact he)
  have hp1 : p1.e = p.e ∧ p1.at_ = p.at_ := by
    have hq : r06_P_down q = some ⟨q.T, q.I, IntKind.i64.wrap (q.Deep + 1), q.At, q.E⟩ := by unfold r06_P_down; rw [if_neg (by rw [h.e]; exact he)]
    rw [hq] at h2
    obtain rfl := Option.some.inj h2
    exact ⟨h3.e.symm.trans h.e, h3.at_.symm.trans h.at_⟩
  refine ⟨p1, Query.mk 0 false [] [] [] [] [] [] 0 [], q', y, Ev.step (Ev.now fun k => ?_), h5, ⟨h3.1, h3.2.1, h3.2.2.1, .inr ⟨h4, by rw [h6, h.e, hp1.1], by rw [h7, h.at_, hp1.2]⟩⟩, fun he => absurd he h4⟩
  show sp_query_b (tab_sp_bracketed k) p = _
  unfold sp_query_b
  rw [h1]
  simp

end Go.Syn
