/- Two runs of the parser side by side: over a text, and over the same text between brackets. (Printed by a program of this work.) -/
import Derived.Test.YtoioflodpmideaaQ1
namespace Go.Syn
open Go.Abs
set_option linter.unusedVariables false

/-- The tokens of a text, and those of the same text between brackets. -/
structure Lk (t u : List Token) : Prop where
  ne : 0 < t.length
  len : t.length ≤ 100000
  len2 : u.length ≤ 100010
  room : t.length + 1 < u.length
  same : ∀ (i : Nat) x, t[i]? = some x → x.Kind ≠ 0 → i + 1 < t.length ∧ ∃ y, u[i + 1]? = some y ∧ y.Kind = x.Kind ∧ y.Text = x.Text ∧ y.N = x.N
  last : ∀ (i : Nat) x, t[i]? = some x → x.Kind = 0 → ∃ y, u[i + 1]? = some y ∧ y.Kind = 4 ∧ y.Text = s_x29

structure Rel (t u : List Token) (p p2 : Parser) : Prop where
  e : p.e = 0
  e2 : p2.e = 0
  t1 : p.t = t
  t2 : p2.t = u
  i0 : 0 ≤ p.i
  i1 : p.i < t.length
  i2 : p2.i = p.i + 1
  deep : p2.deep = IntKind.i64.wrap (p.deep + 1)

/-- Where the first run goes well, the second does the same, or is too deep. -/
def RR {α : Type} (t u : List Token) (m m2 : Option (Parser × α)) : Prop := ∀ r r2, m = some r → m2 = some r2 → r.1.e = 0 → r2.1.e = 9 ∨ (Rel t u r.1 r2.1 ∧ r2.2 = r.2)
def RQ (t u : List Token) (m m2 : Option Parser) : Prop := ∀ r r2, m = some r → m2 = some r2 → r.e = 0 → r2.e = 9 ∨ Rel t u r r2

variable {t u : List Token} {α β : Type} {p p2 : Parser}

theorem RR.done {x : α} (h : Rel t u p p2) : RR t u (some (p, x)) (some (p2, x)) := fun r r2 hr hr2 _ => by
  obtain rfl := Option.some.inj hr
  obtain rfl := Option.some.inj hr2
  exact .inr ⟨h, rfl⟩
theorem RQ.done (h : Rel t u p p2) : RQ t u (some p) (some p2) := fun r r2 hr hr2 _ => by
  obtain rfl := Option.some.inj hr
  obtain rfl := Option.some.inj hr2
  exact .inr h
theorem RR.ite {c : Prop} [Decidable c] {a b a2 b2 : Option (Parser × α)} (h1 : RR t u a a2) (h2 : RR t u b b2) : RR t u (if c then a else b) (if c then a2 else b2) := by
  by_cases hc : c
  · rw [if_pos hc, if_pos hc]; exact h1
  · rw [if_neg hc, if_neg hc]; exact h2
theorem RR.live {a b a2 b2 : Option (Parser × α)} (h : Rel t u p p2) (h1 : RR t u a a2) : RR t u (if p.e = 0 then a else b) (if p2.e = 0 then a2 else b2) := by
  rw [if_pos h.e, if_pos h.e2]; exact h1
theorem RR.chk {c : Prop} [Decidable c] {a a2 : Option (Parser × α)} (h1 : RR t u a a2) : RR t u (Go.Abs.chk c a) (Go.Abs.chk c a2) := by
  unfold Go.Abs.chk; exact RR.ite h1 fun r _ hr => by cases hr
theorem RR.bind {m m2 : Option (Parser × β)} {c c2 : Parser × β → Option (Parser × α)} (h1 : RR t u m m2) (h2 : ∀ p p2 x, Rel t u p p2 → RR t u (c (p, x)) (c2 (p2, x)))
    (k : ∀ e, e ≠ 0 → ∀ p x, p.e = e → Kp e (c (p, x))) (k2 : ∀ e, e ≠ 0 → ∀ p x, p.e = e → Kp e (c2 (p, x))) : RR t u (m.bind c) (m2.bind c2) := by
  intro r r2 hr hr2 he
  cases hm : m with
  | none => rw [hm] at hr; cases hr
  | some a =>
    cases hm2 : m2 with
    | none => rw [hm2] at hr2; cases hr2
    | some a2 =>
      rw [hm] at hr; rw [hm2] at hr2
      obtain ⟨q, x⟩ := a
      obtain ⟨q2, x2⟩ := a2
      by_cases hq : q.e = 0
      · rcases h1 (q, x) (q2, x2) hm hm2 hq with h | ⟨h, hx⟩
        · exact .inl (k2 9 (by decide) q2 x2 h r2 hr2)
        · have hx' : x2 = x := hx
          subst hx'
          exact h2 q q2 x2 h r r2 hr hr2 he
      · exact absurd ((k q.e hq q x rfl r hr).symm.trans he) hq
theorem RR.bindq {m m2 : Option Parser} {c c2 : Parser → Option (Parser × α)} (h1 : RQ t u m m2) (h2 : ∀ p p2, Rel t u p p2 → RR t u (c p) (c2 p2))
    (k : ∀ e, e ≠ 0 → ∀ p, p.e = e → Kp e (c p)) (k2 : ∀ e, e ≠ 0 → ∀ p, p.e = e → Kp e (c2 p)) : RR t u (m.bind c) (m2.bind c2) := by
  intro r r2 hr hr2 he
  cases hm : m with
  | none => rw [hm] at hr; cases hr
  | some q =>
    cases hm2 : m2 with
    | none => rw [hm2] at hr2; cases hr2
    | some q2 =>
      rw [hm] at hr; rw [hm2] at hr2
      by_cases hq : q.e = 0
      · rcases h1 q q2 hm hm2 hq with h | h
        · exact .inl (k2 9 (by decide) q2 h r2 hr2)
        · exact h2 q q2 h r r2 hr hr2 he
      · exact absurd ((k q.e hq q rfl r hr).symm.trans he) hq
theorem RR.bind0 {m : Option β} {c c2 : β → Option (Parser × α)} (h : ∀ x, m = some x → RR t u (c x) (c2 x)) : RR t u (m.bind c) (m.bind c2) := by
  intro r r2 hr hr2 he
  cases hm : m with
  | none => rw [hm] at hr; cases hr
  | some x => rw [hm] at hr hr2; exact h x hm r r2 hr hr2 he
theorem RR.bindS {m m2 : Option β} {c c2 : β → Option (Parser × α)} (hm : m2 = m) (h : ∀ x, RR t u (c x) (c2 x)) : RR t u (m.bind c) (m2.bind c2) := by
  rw [hm]; exact RR.bind0 fun x _ => h x

/-- The tokens that are next in both. -/
theorem nows (hL : Lk t u) (h : Rel t u p p2) : ∃ x y, sp_now p = some x ∧ sp_now p2 = some y ∧ t[p.i.toNat]? = some x ∧ u[p.i.toNat + 1]? = some y ∧
    ((x.Kind ≠ 0 ∧ p.i + 1 < t.length ∧ y.Kind = x.Kind ∧ y.Text = x.Text ∧ y.N = x.N) ∨ (x.Kind = 0 ∧ y.Kind = 4 ∧ y.Text = s_x29)) := by
  have hi : p.i.toNat < t.length := by have := h.i0; have := h.i1; omega
  have hx : t[p.i.toNat]? = some t[p.i.toNat] := List.getElem?_eq_getElem hi
  have n1 : ∀ z, t[p.i.toNat]? = some z → sp_now p = some z := by
    intro z hz
    unfold sp_now idx
    rw [h.t1, if_pos h.i0, hz]; rfl
  have n2 : ∀ z, u[p.i.toNat + 1]? = some z → sp_now p2 = some z := by
    intro z hz
    have := h.i0
    unfold sp_now idx
    rw [h.t2, h.i2, if_pos (by omega), show (p.i + 1).toNat = p.i.toNat + 1 by omega, hz]; rfl
  by_cases hk : t[p.i.toNat].Kind = 0
  · obtain ⟨y, h1, h2, h3⟩ := hL.last _ _ hx hk
    exact ⟨_, y, n1 _ hx, n2 _ h1, hx, h1, .inr ⟨hk, h2, h3⟩⟩
  · obtain ⟨h0, y, h1, h2, h3, h4⟩ := hL.same _ _ hx hk
    exact ⟨_, y, n1 _ hx, n2 _ h1, hx, h1, .inl ⟨hk, by have := h.i0; omega, h2, h3, h4⟩⟩

theorem sees_at {n : Int} {s : Str} {x : Token} (he : p.e = 0) (hx : sp_now p = some x) : sp_sees p n s = some (decide (x.Kind = n ∧ x.Text = s)) := by
  unfold sp_sees
  rw [if_pos he, hx, Option.bind_some]
  by_cases hk : x.Kind = n <;> simp [hk]

theorem r_sees (hL : Lk t u) (h : Rel t u p p2) {n : Int} {s : Str} (hn : n = 1 ∨ (n = 4 ∧ s ≠ s_x29)) : sp_sees p2 n s = sp_sees p n s := by
  obtain ⟨x, y, a, b, _, _, c⟩ := nows hL h
  rw [sees_at h.e a, sees_at h.e2 b]
  rcases c with ⟨_, _, c1, c2, _⟩ | ⟨c1, c2, c3⟩
  · rw [c1, c2]
  · rcases hn with rfl | ⟨rfl, hs⟩
    · rw [c1, c2]; simp
    · have hs' : ¬ s_x29 = s := fun e => hs e.symm
      rw [c1, c2, c3]; simp [hs']
theorem r_sees1 (hL : Lk t u) (h : Rel t u p p2) {s : Str} : sp_sees p2 1 s = sp_sees p 1 s := r_sees hL h (.inl rfl)

theorem r_next (hL : Lk t u) (h : Rel t u p p2) (hi : p.i + 1 < t.length) : RQ t u (sp_next p) (sp_next p2) := by
  have h0 := h.i0
  have h1 := hL.len
  have h2 := hL.len2
  have h3 := hL.room
  have h4 := h.i2
  have w1 : IntKind.i64.wrap ((t.length : Int) - 1) = (t.length : Int) - 1 := wrap_eq (by omega) (by omega)
  have w2 : IntKind.i64.wrap ((u.length : Int) - 1) = (u.length : Int) - 1 := wrap_eq (by omega) (by omega)
  have e1 : sp_next p = some ⟨p.t, p.i + 1, p.deep, p.at_, p.e⟩ := by
    unfold sp_next
    rw [h.t1, w1, if_pos (by omega), wrap_eq (by omega) (by omega)]
  have e2 : sp_next p2 = some ⟨p2.t, p2.i + 1, p2.deep, p2.at_, p2.e⟩ := by
    unfold sp_next
    rw [h.t2, w2, if_pos (by omega), wrap_eq (by omega) (by omega)]
  rw [e1, e2]
  exact RQ.done ⟨h.e, h.e2, h.t1, h.t2, by show 0 ≤ p.i + 1; omega, hi, by show p2.i + 1 = p.i + 1 + 1; omega, h.deep⟩

theorem seen (hL : Lk t u) (h : Rel t u p p2) {n : Int} {s : Str} (hn : n ≠ 0) (hs : sp_sees p n s = some true) : p.i + 1 < t.length := by
  obtain ⟨x, y, a, b, _, _, c⟩ := nows hL h
  rw [sees_at h.e a] at hs
  have := of_decide_eq_true (Option.some.inj hs)
  rcases c with ⟨_, c0, _⟩ | ⟨c1, _⟩
  · exact c0
  · exact absurd (c1.symm.trans this.1).symm hn

theorem r_taken (hL : Lk t u) (h : Rel t u p p2) {n : Int} {s : Str} (hn : n = 1 ∨ (n = 4 ∧ s ≠ s_x29)) :
    RR t u ((sp_sees p n s).bind fun r1 => if r1 = true then ((sp_next p).bind fun r2 => some (r2, r1)) else (some (p, r1))) ((sp_sees p2 n s).bind fun r1 => if r1 = true then ((sp_next p2).bind fun r2 => some (r2, r1)) else (some (p2, r1))) := by
  rw [r_sees hL h hn]
  refine RR.bind0 fun x hx => ?_
  cases x with
  | true =>
    simp only [if_true]
    exact RR.bindq (r_next hL h (seen hL h (by omega) hx)) (fun q q2 h => RR.done h) (fun e he p h => Kp.done h) (fun e he p h => Kp.done h)
  | false =>
    simp only [Bool.false_eq_true, if_false]
    exact RR.done h

theorem r_sp_word (hL : Lk t u) (h : Rel t u p p2) {s : Str} : RR t u (sp_word p s) (sp_word p2 s) := r_taken hL h (.inl rfl)
theorem r_sp_mark (hL : Lk t u) (h : Rel t u p p2) {s : Str} (hs : s ≠ s_x29) : RR t u (sp_mark p s) (sp_mark p2 s) := r_taken hL h (.inr ⟨rfl, hs⟩)

theorem fail_live (he : p.e = 0) {n : Int} {r : Parser} (h : sp_fail p n = some r) : r.e = n := by
  unfold sp_fail at h
  rw [if_pos he] at h
  cases hn : sp_now p with
  | none => rw [hn] at h; cases h
  | some x => rw [hn] at h; obtain rfl := Option.some.inj h; rfl

theorem r_must (hL : Lk t u) (h : Rel t u p p2) {n : Int} {s : Str} (hn : n = 1 ∨ n = 4) :
    RQ t u (((sp_sees p n s).bind fun r1 => if r1 = true then ((sp_next p).bind fun r2 => some (r2, r1)) else (some (p, r1))).bind fun (r1, r2) => if r2 = true then (some r1) else ((sp_fail r1 10).bind fun r3 => some r3))
      (((sp_sees p2 n s).bind fun r1 => if r1 = true then ((sp_next p2).bind fun r2 => some (r2, r1)) else (some (p2, r1))).bind fun (r1, r2) => if r2 = true then (some r1) else ((sp_fail r1 10).bind fun r3 => some r3)) := by
  intro r r2 hr hr2 he
  obtain ⟨x, y, a, b, _, _, c⟩ := nows hL h
  rw [sees_at h.e a] at hr
  rw [sees_at h.e2 b] at hr2
  by_cases hx : x.Kind = n ∧ x.Text = s
  · rcases c with ⟨c0, ci, c1, c2, _⟩ | ⟨c1, _⟩
    · have hy : y.Kind = n ∧ y.Text = s := ⟨c1.trans hx.1, c2.trans hx.2⟩
      rw [decide_eq_true hx] at hr
      rw [decide_eq_true hy] at hr2
      simp only [Option.bind_some, if_true] at hr hr2
      cases h1 : sp_next p with
      | none => rw [h1] at hr; cases hr
      | some q =>
        cases h2 : sp_next p2 with
        | none => rw [h2] at hr2; cases hr2
        | some q2 =>
          rw [h1] at hr; rw [h2] at hr2
          simp only [Option.bind_some, if_true] at hr hr2
          obtain rfl := Option.some.inj hr
          obtain rfl := Option.some.inj hr2
          exact r_next hL h ci _ _ h1 h2 he
    · have := hx.1; omega
  · rw [decide_eq_false hx] at hr
    simp only [Option.bind_some, Bool.false_eq_true, if_false] at hr
    cases h1 : sp_fail p 10 with
    | none => rw [h1] at hr; cases hr
    | some q =>
      rw [h1] at hr
      obtain rfl := Option.some.inj hr
      have := fail_live h.e h1
      omega

theorem r_sp_must (hL : Lk t u) (h : Rel t u p p2) {s : Str} : RQ t u (sp_must p s) (sp_must p2 s) := r_must hL h (.inl rfl)
theorem r_sp_need (hL : Lk t u) (h : Rel t u p p2) {s : Str} : RQ t u (sp_need p s) (sp_need p2 s) := r_must hL h (.inr rfl)

theorem r_sp_enter (_hL : Lk t u) (h : Rel t u p p2) : RR t u (sp_enter p) (sp_enter p2) := by
  intro r r2 hr hr2 he
  have hd := h.deep
  unfold sp_enter at hr hr2
  have f : ∀ {q : Parser} {r : Parser × Bool}, q.e = 0 → ((sp_fail q 9).bind fun r1 => some (r1, decide (r1.e = 0))) = some r → r.1.e = 9 := by
    intro q r hq hqr
    cases h1 : sp_fail q 9 with
    | none => rw [h1] at hqr; cases hqr
    | some q1 => rw [h1] at hqr; obtain rfl := Option.some.inj hqr; exact fail_live hq h1
  split at hr
  · have := f (show (Parser.mk p.t p.i (IntKind.i64.wrap (p.deep + 1)) p.at_ p.e).e = 0 from h.e) hr
    omega
  · split at hr2
    · exact .inl (f (show (Parser.mk p2.t p2.i (IntKind.i64.wrap (p2.deep + 1)) p2.at_ p2.e).e = 0 from h.e2) hr2)
    · obtain rfl := Option.some.inj hr
      obtain rfl := Option.some.inj hr2
      refine .inr ⟨⟨h.e, h.e2, h.t1, h.t2, h.i0, h.i1, h.i2, ?_⟩, ?_⟩
      · show IntKind.i64.wrap (p2.deep + 1) = IntKind.i64.wrap (IntKind.i64.wrap (p.deep + 1) + 1)
        rw [hd]
      · show decide (p2.e = 0) = decide (p.e = 0)
        rw [h.e, h.e2]

theorem r_sp_leave (_hL : Lk t u) (h : Rel t u p p2) : RQ t u (sp_leave p) (sp_leave p2) := by
  unfold sp_leave
  refine RQ.done ⟨h.e, h.e2, h.t1, h.t2, h.i0, h.i1, h.i2, ?_⟩
  show IntKind.i64.wrap (p2.deep - 1) = IntKind.i64.wrap (IntKind.i64.wrap (p.deep - 1) + 1)
  rw [h.deep]
  simp only [IntKind.wrap_i64]
  omega

theorem r_sp_name (hL : Lk t u) (h : Rel t u p p2) : RR t u (sp_name p) (sp_name p2) := by
  intro r r2 hr hr2 he
  obtain ⟨x, y, a, b, _, _, c⟩ := nows hL h
  have bad : ∀ {r : Parser × Str}, ((sp_fail p 10).bind fun r2 => some (r2, [])) = some r → r.1.e = 0 → False := by
    intro r hq hr
    cases h1 : sp_fail p 10 with
    | none => rw [h1] at hq; cases hq
    | some q1 => rw [h1] at hq; obtain rfl := Option.some.inj hq; have := fail_live h.e h1; have hr' : q1.e = 0 := hr; omega
  unfold sp_name sp_named at hr hr2
  rw [if_pos h.e, a] at hr
  rw [if_pos h.e2, b] at hr2
  simp only [Option.bind_some] at hr hr2
  rcases c with ⟨_, ci, c1, c2, _⟩ | ⟨c1, c2, _⟩
  · by_cases hk : x.Kind = 1
    · rw [if_pos hk] at hr
      rw [if_pos (c1.trans hk), c2] at hr2
      cases hw : token_Word x.Text with
      | none => rw [hw] at hr; cases hr
      | some w =>
        rw [hw] at hr hr2
        simp only [Option.bind_some] at hr hr2
        cases w with
        | true => exact absurd he fun he => bad hr he
        | false =>
          simp only [Bool.not_false, if_true] at hr hr2
          cases h1 : sp_next p with
          | none => rw [h1] at hr; cases hr
          | some q =>
            cases h2 : sp_next p2 with
            | none => rw [h2] at hr2; cases hr2
            | some q2 =>
              rw [h1] at hr; rw [h2] at hr2
              obtain rfl := Option.some.inj hr
              obtain rfl := Option.some.inj hr2
              rcases r_next hL h ci _ _ h1 h2 he with g | g
              · exact .inl g
              · exact .inr ⟨g, rfl⟩
    · rw [if_neg hk] at hr
      exact absurd he fun he => bad hr he
  · rw [if_neg (by omega)] at hr
    exact absurd he fun he => bad hr he

theorem r_sp_number (hL : Lk t u) (h : Rel t u p p2) : RR t u (sp_number p) (sp_number p2) := by
  intro r r2 hr hr2 he
  obtain ⟨x, y, a, b, _, _, c⟩ := nows hL h
  have bad : ∀ {r : Parser × Int}, ((sp_fail p 10).bind fun r2 => some (r2, 0)) = some r → r.1.e = 0 → False := by
    intro r hq hr
    cases h1 : sp_fail p 10 with
    | none => rw [h1] at hq; cases hq
    | some q1 => rw [h1] at hq; obtain rfl := Option.some.inj hq; have := fail_live h.e h1; have hr' : q1.e = 0 := hr; omega
  unfold sp_number at hr hr2
  rw [if_pos h.e, a] at hr
  rw [if_pos h.e2, b] at hr2
  simp only [Option.bind_some] at hr hr2
  rcases c with ⟨_, ci, c1, c2, c3⟩ | ⟨c1, c2, _⟩
  · by_cases hk : x.Kind = 2
    · rw [if_pos hk] at hr
      rw [if_pos (c1.trans hk)] at hr2
      cases h1 : sp_next p with
      | none => rw [h1] at hr; cases hr
      | some q =>
        cases h2 : sp_next p2 with
        | none => rw [h2] at hr2; cases hr2
        | some q2 =>
          rw [h1] at hr; rw [h2] at hr2
          obtain rfl := Option.some.inj hr
          obtain rfl := Option.some.inj hr2
          rcases r_next hL h ci _ _ h1 h2 he with g | g
          · exact .inl g
          · exact .inr ⟨g, c3⟩
    · rw [if_neg hk] at hr
      exact absurd he fun he => bad hr he
  · rw [if_neg (by omega)] at hr
    exact absurd he fun he => bad hr he

theorem r_sp_column_j2 (hL : Lk t u) (h : Rel t u p p2) {s : Str} {l : List Expr} : RR t u (sp_column_j2 p s l) (sp_column_j2 p2 s l) := by
  unfold sp_column_j2; exact RR.bindq (r_sp_need hL h) (fun q q2 h => RR.done h) (fun e he p h => Kp.done h) (fun e he p h => Kp.done h)
theorem r_sp_compared_j1 (hL : Lk t u) (h : Rel t u p p2) {n : Int} {l : List Expr} : RR t u (sp_compared_j1 p n l) (sp_compared_j1 p2 n l) := by
  unfold sp_compared_j1; exact RR.bindq (r_sp_must hL h) (fun q q2 h => RR.done h) (fun e he p h => Kp.done h) (fun e he p h => Kp.done h)

/-- None of a list's marks is the bracket that closes. -/
def Okl (l : List Str) : Prop := ∀ x ∈ l, x ≠ s_x29
theorem okp : Okl [s_x2a, s_x2f, s_x25] := by intro x hx; simp only [List.mem_cons, List.not_mem_nil, or_false] at hx; rcases hx with rfl | rfl | rfl <;> decide
theorem oks : Okl [s_x2b, s_x2d, s_x7cx7c] := by intro x hx; simp only [List.mem_cons, List.not_mem_nil, or_false] at hx; rcases hx with rfl | rfl | rfl <;> decide
theorem oka : Okl [s_and] := by intro x hx; simp only [List.mem_cons, List.not_mem_nil, or_false] at hx; subst hx; decide
theorem oko : Okl [s_or] := by intro x hx; simp only [List.mem_cons, List.not_mem_nil, or_false] at hx; subst hx; decide
theorem ne_of_idx {l : List Str} {n : Int} {x : Str} (h : idx l n = some x) (ok : Okl l) : x ≠ s_x29 := ok x (List.mem_of_getElem? (idx_some h).2)

/-- What an operand begins with: a number, a text, or something else. -/
theorem prim_pre (hL : Lk t u) (h : Rel t u p p2) {a a2 b b2 : Option (Parser × Expr)} (hr : RR t u a a2) :
    RR t u (if p.e = 0 then ((sp_now p).bind fun r1 => if r1.Kind = 2 then ((sp_next p).bind fun r2 => some (r2, (Expr.mk 3 r1.N [] [] [] []))) else (if r1.Kind = 3 then ((sp_next p).bind fun r2 => some (r2, (Expr.mk 4 0 r1.Text [] [] []))) else a)) else b)
      (if p2.e = 0 then ((sp_now p2).bind fun r1 => if r1.Kind = 2 then ((sp_next p2).bind fun r2 => some (r2, (Expr.mk 3 r1.N [] [] [] []))) else (if r1.Kind = 3 then ((sp_next p2).bind fun r2 => some (r2, (Expr.mk 4 0 r1.Text [] [] []))) else a2)) else b2) := by
  refine RR.live h ?_
  obtain ⟨x, y, e1, e2, _, _, c⟩ := nows hL h
  rw [e1, e2, Option.bind_some, Option.bind_some]
  rcases c with ⟨_, ci, c1, c2, c3⟩ | ⟨c1, c2, _⟩
  · rw [c1, c2, c3]
    exact RR.ite (RR.bindq (r_next hL h ci) (fun q q2 h => RR.done h) (fun e he p h => Kp.done h) (fun e he p h => Kp.done h)) (RR.ite (RR.bindq (r_next hL h ci) (fun q q2 h => RR.done h) (fun e he p h => Kp.done h) (fun e he p h => Kp.done h)) hr)
  · rw [if_neg (by omega), if_neg (by omega), if_neg (by omega), if_neg (by omega)]
    exact hr

structure RT (t u : List Token) (T T2 : Tab_sp_bracketed) : Prop where
  sp_bracketed : ∀ (p p2 : Parser), Rel t u p p2 → RR t u (T.sp_bracketed p) (T2.sp_bracketed p2)
  sp_cases : ∀ (p p2 : Parser), Rel t u p p2 → RR t u (T.sp_cases p) (T2.sp_cases p2)
  sp_column : ∀ (p p2 : Parser), Rel t u p p2 → RR t u (T.sp_column p) (T2.sp_column p2)
  sp_compared : ∀ (p p2 : Parser), Rel t u p p2 → RR t u (T.sp_compared p) (T2.sp_compared p2)
  sp_expr : ∀ (p p2 : Parser), Rel t u p p2 → RR t u (T.sp_expr p) (T2.sp_expr p2)
  sp_expr_1 : ∀ (p p2 : Parser), Rel t u p p2 → RR t u (T.sp_expr_1 p) (T2.sp_expr_1 p2)
  sp_inner_not : ∀ (p p2 : Parser) (x0 : Int), Rel t u p p2 → RR t u (T.sp_inner_not p x0) (T2.sp_inner_not p2 x0)
  sp_inner_unary : ∀ (p p2 : Parser) (x0 : Int), Rel t u p p2 → RR t u (T.sp_inner_unary p x0) (T2.sp_inner_unary p2 x0)
  sp_item : ∀ (p p2 : Parser), Rel t u p p2 → RR t u (T.sp_item p) (T2.sp_item p2)
  sp_key : ∀ (p p2 : Parser), Rel t u p p2 → RR t u (T.sp_key p) (T2.sp_key p2)
  sp_left_expr_1 : ∀ (p p2 : Parser) (x0 : (List Str)), Okl x0 → Rel t u p p2 → RR t u (T.sp_left_expr_1 p x0) (T2.sp_left_expr_1 p2 x0)
  sp_left_expr_1_l1 : ∀ (p p2 : Parser) (x0 : Expr) (x1 : (List Str)), Okl x1 → Rel t u p p2 → RR t u (T.sp_left_expr_1_l1 p x0 x1) (T2.sp_left_expr_1_l1 p2 x0 x1)
  sp_left_expr_1_l2 : ∀ (p p2 : Parser) (x0 : Expr) (x1 : (List Str)) (x2 : (List Str)) (x3 : Int) (x4 : Int), Okl x1 → Okl x2 → Rel t u p p2 → RR t u (T.sp_left_expr_1_l2 p x0 x1 x2 x3 x4) (T2.sp_left_expr_1_l2 p2 x0 x1 x2 x3 x4)
  sp_left_not : ∀ (p p2 : Parser) (x0 : (List Str)), Okl x0 → Rel t u p p2 → RR t u (T.sp_left_not p x0) (T2.sp_left_not p2 x0)
  sp_left_not_l1 : ∀ (p p2 : Parser) (x0 : Expr) (x1 : (List Str)), Okl x1 → Rel t u p p2 → RR t u (T.sp_left_not_l1 p x0 x1) (T2.sp_left_not_l1 p2 x0 x1)
  sp_left_not_l2 : ∀ (p p2 : Parser) (x0 : Expr) (x1 : (List Str)) (x2 : (List Str)) (x3 : Int) (x4 : Int), Okl x1 → Okl x2 → Rel t u p p2 → RR t u (T.sp_left_not_l2 p x0 x1 x2 x3 x4) (T2.sp_left_not_l2 p2 x0 x1 x2 x3 x4)
  sp_left_prod : ∀ (p p2 : Parser) (x0 : (List Str)), Okl x0 → Rel t u p p2 → RR t u (T.sp_left_prod p x0) (T2.sp_left_prod p2 x0)
  sp_left_prod_l1 : ∀ (p p2 : Parser) (x0 : Expr) (x1 : (List Str)), Okl x1 → Rel t u p p2 → RR t u (T.sp_left_prod_l1 p x0 x1) (T2.sp_left_prod_l1 p2 x0 x1)
  sp_left_prod_l2 : ∀ (p p2 : Parser) (x0 : Expr) (x1 : (List Str)) (x2 : (List Str)) (x3 : Int) (x4 : Int), Okl x1 → Okl x2 → Rel t u p p2 → RR t u (T.sp_left_prod_l2 p x0 x1 x2 x3 x4) (T2.sp_left_prod_l2 p2 x0 x1 x2 x3 x4)
  sp_left_unary : ∀ (p p2 : Parser) (x0 : (List Str)), Okl x0 → Rel t u p p2 → RR t u (T.sp_left_unary p x0) (T2.sp_left_unary p2 x0)
  sp_left_unary_l1 : ∀ (p p2 : Parser) (x0 : Expr) (x1 : (List Str)), Okl x1 → Rel t u p p2 → RR t u (T.sp_left_unary_l1 p x0 x1) (T2.sp_left_unary_l1 p2 x0 x1)
  sp_left_unary_l2 : ∀ (p p2 : Parser) (x0 : Expr) (x1 : (List Str)) (x2 : (List Str)) (x3 : Int) (x4 : Int), Okl x1 → Okl x2 → Rel t u p p2 → RR t u (T.sp_left_unary_l2 p x0 x1 x2 x3 x4) (T2.sp_left_unary_l2 p2 x0 x1 x2 x3 x4)
  sp_not : ∀ (p p2 : Parser), Rel t u p p2 → RR t u (T.sp_not p) (T2.sp_not p2)
  sp_part : ∀ (p p2 : Parser), Rel t u p p2 → RR t u (T.sp_part p) (T2.sp_part p2)
  sp_prim : ∀ (p p2 : Parser), Rel t u p p2 → RR t u (T.sp_prim p) (T2.sp_prim p2)
  sp_prod : ∀ (p p2 : Parser), Rel t u p p2 → RR t u (T.sp_prod p) (T2.sp_prod p2)
  sp_query : ∀ (p p2 : Parser), Rel t u p p2 → RR t u (T.sp_query p) (T2.sp_query p2)
  sp_query_l1 : ∀ (p p2 : Parser) (x0 : Query), Rel t u p p2 → RR t u (T.sp_query_l1 p x0) (T2.sp_query_l1 p2 x0)
  sp_round : ∀ (p p2 : Parser), Rel t u p p2 → RR t u (T.sp_round p) (T2.sp_round p2)
  sp_single : ∀ (p p2 : Parser), Rel t u p p2 → RR t u (T.sp_single p) (T2.sp_single p2)
  sp_source : ∀ (p p2 : Parser), Rel t u p p2 → RR t u (T.sp_source p) (T2.sp_source p2)
  sp_source_l1 : ∀ (p p2 : Parser) (x0 : From), Rel t u p p2 → RR t u (T.sp_source_l1 p x0) (T2.sp_source_l1 p2 x0)
  sp_sum : ∀ (p p2 : Parser), Rel t u p p2 → RR t u (T.sp_sum p) (T2.sp_sum p2)
  sp_unary : ∀ (p p2 : Parser), Rel t u p p2 → RR t u (T.sp_unary p) (T2.sp_unary p2)
  syntax_list_m : ∀ (p p2 : Parser), Rel t u p p2 → RR t u (T.syntax_list_m p) (T2.syntax_list_m p2)
  syntax_list_m_l1 : ∀ (p p2 : Parser) (x0 : (List ItemT)), Rel t u p p2 → RR t u (T.syntax_list_m_l1 p x0) (T2.syntax_list_m_l1 p2 x0)
  syntax_list_r_2 : ∀ (p p2 : Parser), Rel t u p p2 → RR t u (T.syntax_list_r_2 p) (T2.syntax_list_r_2 p2)
  syntax_list_r_2_l1 : ∀ (p p2 : Parser) (x0 : (List Expr)), Rel t u p p2 → RR t u (T.syntax_list_r_2_l1 p x0) (T2.syntax_list_r_2_l1 p2 x0)
  syntax_list_y : ∀ (p p2 : Parser), Rel t u p p2 → RR t u (T.syntax_list_y p) (T2.syntax_list_y p2)
  syntax_list_y_l1 : ∀ (p p2 : Parser) (x0 : (List Key)), Rel t u p p2 → RR t u (T.syntax_list_y_l1 p x0) (T2.syntax_list_y_l1 p2 x0)

variable {T T2 : Tab_sp_bracketed}
theorem rb_sp_bracketed (hL : Lk t u) (hR : RT t u T T2) (hK : ∀ e, e ≠ 0 → KT e T) (hK2 : ∀ e, e ≠ 0 → KT e T2) (h : Rel t u p p2) : RR t u (sp_bracketed_b T p) (sp_bracketed_b T2 p2) := by
  unfold sp_bracketed_b
  repeat' (first
    | with_reducible exact RR.done (by assumption)
    | with_reducible exact hR.sp_query _ _ (by assumption)
    | with_reducible exact r_sp_need hL (by assumption)
    | with_reducible exact Kp.done (by assumption)
    | with_reducible exact (hK _ he).sp_query _ (by assumption)
    | with_reducible exact (hK2 _ he).sp_query _ (by assumption)
    | with_reducible exact k_sp_need he (by assumption)
    | with_reducible refine RR.live (by assumption) ?_
    | with_reducible refine RR.ite ?_ ?_
    | with_reducible refine RR.chk ?_
    | with_reducible refine RR.bind ?_ (fun p p2 x h => ?_) (fun e he p x h => ?_) (fun e he p x h => ?_)
    | with_reducible refine RR.bindq ?_ (fun p p2 h => ?_) (fun e he p h => ?_) (fun e he p h => ?_)
    | with_reducible refine RR.bind0 (fun x hx => ?_)
    | with_reducible refine Kp.ite ?_ ?_
    | with_reducible refine Kp.chk ?_
    | with_reducible refine Kp.bind ?_ (fun p x h => ?_)
    | with_reducible refine Kp.bindq ?_ (fun p h => ?_)
    | with_reducible refine Kp.bind0 (fun x => ?_)
    | dsimp only)
theorem rb_sp_cases (hL : Lk t u) (hR : RT t u T T2) (hK : ∀ e, e ≠ 0 → KT e T) (hK2 : ∀ e, e ≠ 0 → KT e T2) (h : Rel t u p p2) : RR t u (sp_cases_b T p) (sp_cases_b T2 p2) := by
  unfold sp_cases_b
  repeat' (first
    | with_reducible exact RR.done (by assumption)
    | with_reducible exact hR.sp_expr _ _ (by assumption)
    | with_reducible exact r_sp_must hL (by assumption)
    | with_reducible exact Kp.done (by assumption)
    | with_reducible exact (hK _ he).sp_expr _ (by assumption)
    | with_reducible exact (hK2 _ he).sp_expr _ (by assumption)
    | with_reducible exact k_sp_must he (by assumption)
    | with_reducible refine RR.live (by assumption) ?_
    | with_reducible refine RR.ite ?_ ?_
    | with_reducible refine RR.chk ?_
    | with_reducible refine RR.bind ?_ (fun p p2 x h => ?_) (fun e he p x h => ?_) (fun e he p x h => ?_)
    | with_reducible refine RR.bindq ?_ (fun p p2 h => ?_) (fun e he p h => ?_) (fun e he p h => ?_)
    | with_reducible refine RR.bind0 (fun x hx => ?_)
    | with_reducible refine Kp.ite ?_ ?_
    | with_reducible refine Kp.chk ?_
    | with_reducible refine Kp.bind ?_ (fun p x h => ?_)
    | with_reducible refine Kp.bindq ?_ (fun p h => ?_)
    | with_reducible refine Kp.bind0 (fun x => ?_)
    | dsimp only)
theorem rb_sp_column_j1 (hL : Lk t u) (hR : RT t u T T2) (hK : ∀ e, e ≠ 0 → KT e T) (hK2 : ∀ e, e ≠ 0 → KT e T2) {a1 : Str} {a2 : Bool} (h : Rel t u p p2) : RR t u (sp_column_j1_b T p a1 a2) (sp_column_j1_b T2 p2 a1 a2) := by
  unfold sp_column_j1_b
  repeat' (first
    | with_reducible exact RR.done (by assumption)
    | with_reducible exact hR.sp_expr _ _ (by assumption)
    | with_reducible exact r_sp_column_j2 hL (by assumption)
    | with_reducible exact r_sp_mark hL (by assumption) (by decide)
    | with_reducible exact r_sp_mark hL (by assumption) (ne_of_idx (by assumption) (by assumption))
    | with_reducible exact r_sp_name hL (by assumption)
    | with_reducible exact Kp.done (by assumption)
    | with_reducible exact (hK _ he).sp_expr _ (by assumption)
    | with_reducible exact (hK2 _ he).sp_expr _ (by assumption)
    | with_reducible exact k_sp_column_j2 he (by assumption)
    | with_reducible exact k_sp_mark he (by assumption)
    | with_reducible exact k_sp_name he (by assumption)
    | with_reducible refine RR.live (by assumption) ?_
    | with_reducible refine RR.ite ?_ ?_
    | with_reducible refine RR.chk ?_
    | with_reducible refine RR.bind ?_ (fun p p2 x h => ?_) (fun e he p x h => ?_) (fun e he p x h => ?_)
    | with_reducible refine RR.bindq ?_ (fun p p2 h => ?_) (fun e he p h => ?_) (fun e he p h => ?_)
    | with_reducible refine RR.bind0 (fun x hx => ?_)
    | with_reducible refine Kp.ite ?_ ?_
    | with_reducible refine Kp.chk ?_
    | with_reducible refine Kp.bind ?_ (fun p x h => ?_)
    | with_reducible refine Kp.bindq ?_ (fun p h => ?_)
    | with_reducible refine Kp.bind0 (fun x => ?_)
    | dsimp only)
theorem rb_sp_column (hL : Lk t u) (hR : RT t u T T2) (hK : ∀ e, e ≠ 0 → KT e T) (hK2 : ∀ e, e ≠ 0 → KT e T2) (h : Rel t u p p2) : RR t u (sp_column_b T p) (sp_column_b T2 p2) := by
  unfold sp_column_b
  repeat' (first
    | with_reducible exact RR.done (by assumption)
    | with_reducible exact rb_sp_column_j1 hL hR hK hK2 (by assumption)
    | with_reducible exact r_sp_mark hL (by assumption) (by decide)
    | with_reducible exact r_sp_mark hL (by assumption) (ne_of_idx (by assumption) (by assumption))
    | with_reducible exact r_sp_name hL (by assumption)
    | with_reducible exact Kp.done (by assumption)
    | with_reducible exact kb_sp_column_j1 he (hK _ he) (by assumption)
    | with_reducible exact kb_sp_column_j1 he (hK2 _ he) (by assumption)
    | with_reducible exact k_sp_mark he (by assumption)
    | with_reducible exact k_sp_name he (by assumption)
    | with_reducible refine RR.live (by assumption) ?_
    | with_reducible refine RR.ite ?_ ?_
    | with_reducible refine RR.chk ?_
    | with_reducible refine RR.bind ?_ (fun p p2 x h => ?_) (fun e he p x h => ?_) (fun e he p x h => ?_)
    | with_reducible refine RR.bindq ?_ (fun p p2 h => ?_) (fun e he p h => ?_) (fun e he p h => ?_)
    | with_reducible refine RR.bind0 (fun x hx => ?_)
    | with_reducible refine Kp.ite ?_ ?_
    | with_reducible refine Kp.chk ?_
    | with_reducible refine Kp.bind ?_ (fun p x h => ?_)
    | with_reducible refine Kp.bindq ?_ (fun p h => ?_)
    | with_reducible refine Kp.bind0 (fun x => ?_)
    | dsimp only)
theorem rb_sp_compared (hL : Lk t u) (hR : RT t u T T2) (hK : ∀ e, e ≠ 0 → KT e T) (hK2 : ∀ e, e ≠ 0 → KT e T2) (h : Rel t u p p2) : RR t u (sp_compared_b T p) (sp_compared_b T2 p2) := by
  unfold sp_compared_b
  repeat' (first
    | with_reducible exact RR.done (by assumption)
    | with_reducible exact hR.sp_bracketed _ _ (by assumption)
    | with_reducible exact hR.sp_sum _ _ (by assumption)
    | with_reducible exact r_sp_compared_j1 hL (by assumption)
    | with_reducible exact r_sp_mark hL (by assumption) (by decide)
    | with_reducible exact r_sp_mark hL (by assumption) (ne_of_idx (by assumption) (by assumption))
    | with_reducible exact r_sp_must hL (by assumption)
    | with_reducible exact r_sp_word hL (by assumption)
    | with_reducible exact Kp.done (by assumption)
    | with_reducible exact (hK _ he).sp_bracketed _ (by assumption)
    | with_reducible exact (hK2 _ he).sp_bracketed _ (by assumption)
    | with_reducible exact (hK _ he).sp_sum _ (by assumption)
    | with_reducible exact (hK2 _ he).sp_sum _ (by assumption)
    | with_reducible exact k_sp_compared_j1 he (by assumption)
    | with_reducible exact k_sp_mark he (by assumption)
    | with_reducible exact k_sp_must he (by assumption)
    | with_reducible exact k_sp_word he (by assumption)
    | with_reducible refine RR.live (by assumption) ?_
    | with_reducible refine RR.ite ?_ ?_
    | with_reducible refine RR.chk ?_
    | with_reducible refine RR.bind ?_ (fun p p2 x h => ?_) (fun e he p x h => ?_) (fun e he p x h => ?_)
    | with_reducible refine RR.bindq ?_ (fun p p2 h => ?_) (fun e he p h => ?_) (fun e he p h => ?_)
    | with_reducible refine RR.bind0 (fun x hx => ?_)
    | with_reducible refine Kp.ite ?_ ?_
    | with_reducible refine Kp.chk ?_
    | with_reducible refine Kp.bind ?_ (fun p x h => ?_)
    | with_reducible refine Kp.bindq ?_ (fun p h => ?_)
    | with_reducible refine Kp.bind0 (fun x => ?_)
    | dsimp only)
theorem rb_sp_expr (hL : Lk t u) (hR : RT t u T T2) (hK : ∀ e, e ≠ 0 → KT e T) (hK2 : ∀ e, e ≠ 0 → KT e T2) (h : Rel t u p p2) : RR t u (sp_expr_b T p) (sp_expr_b T2 p2) := by
  unfold sp_expr_b
  repeat' (first
    | with_reducible exact RR.done (by assumption)
    | with_reducible exact hR.sp_left_expr_1 _ _ _ (by assumption) (by assumption)
    | with_reducible exact hR.sp_left_expr_1 _ _ _ okp (by assumption)
    | with_reducible exact hR.sp_left_expr_1 _ _ _ oks (by assumption)
    | with_reducible exact hR.sp_left_expr_1 _ _ _ oka (by assumption)
    | with_reducible exact hR.sp_left_expr_1 _ _ _ oko (by assumption)
    | with_reducible exact r_sp_enter hL (by assumption)
    | with_reducible exact r_sp_leave hL (by assumption)
    | with_reducible exact Kp.done (by assumption)
    | with_reducible exact (hK _ he).sp_left_expr_1 _ _ (by assumption)
    | with_reducible exact (hK2 _ he).sp_left_expr_1 _ _ (by assumption)
    | with_reducible exact k_sp_enter he (by assumption)
    | with_reducible exact k_sp_leave he (by assumption)
    | with_reducible refine RR.live (by assumption) ?_
    | with_reducible refine RR.ite ?_ ?_
    | with_reducible refine RR.chk ?_
    | with_reducible refine RR.bind ?_ (fun p p2 x h => ?_) (fun e he p x h => ?_) (fun e he p x h => ?_)
    | with_reducible refine RR.bindq ?_ (fun p p2 h => ?_) (fun e he p h => ?_) (fun e he p h => ?_)
    | with_reducible refine RR.bind0 (fun x hx => ?_)
    | with_reducible refine Kp.ite ?_ ?_
    | with_reducible refine Kp.chk ?_
    | with_reducible refine Kp.bind ?_ (fun p x h => ?_)
    | with_reducible refine Kp.bindq ?_ (fun p h => ?_)
    | with_reducible refine Kp.bind0 (fun x => ?_)
    | dsimp only)
theorem rb_sp_expr_1 (hL : Lk t u) (hR : RT t u T T2) (hK : ∀ e, e ≠ 0 → KT e T) (hK2 : ∀ e, e ≠ 0 → KT e T2) (h : Rel t u p p2) : RR t u (sp_expr_1_b T p) (sp_expr_1_b T2 p2) := by
  unfold sp_expr_1_b
  repeat' (first
    | with_reducible exact RR.done (by assumption)
    | with_reducible exact hR.sp_left_not _ _ _ (by assumption) (by assumption)
    | with_reducible exact hR.sp_left_not _ _ _ okp (by assumption)
    | with_reducible exact hR.sp_left_not _ _ _ oks (by assumption)
    | with_reducible exact hR.sp_left_not _ _ _ oka (by assumption)
    | with_reducible exact hR.sp_left_not _ _ _ oko (by assumption)
    | with_reducible exact Kp.done (by assumption)
    | with_reducible exact (hK _ he).sp_left_not _ _ (by assumption)
    | with_reducible exact (hK2 _ he).sp_left_not _ _ (by assumption)
    | with_reducible refine RR.live (by assumption) ?_
    | with_reducible refine RR.ite ?_ ?_
    | with_reducible refine RR.chk ?_
    | with_reducible refine RR.bind ?_ (fun p p2 x h => ?_) (fun e he p x h => ?_) (fun e he p x h => ?_)
    | with_reducible refine RR.bindq ?_ (fun p p2 h => ?_) (fun e he p h => ?_) (fun e he p h => ?_)
    | with_reducible refine RR.bind0 (fun x hx => ?_)
    | with_reducible refine Kp.ite ?_ ?_
    | with_reducible refine Kp.chk ?_
    | with_reducible refine Kp.bind ?_ (fun p x h => ?_)
    | with_reducible refine Kp.bindq ?_ (fun p h => ?_)
    | with_reducible refine Kp.bind0 (fun x => ?_)
    | dsimp only)
theorem rb_sp_inner_not (hL : Lk t u) (hR : RT t u T T2) (hK : ∀ e, e ≠ 0 → KT e T) (hK2 : ∀ e, e ≠ 0 → KT e T2) {a1 : Int} (h : Rel t u p p2) : RR t u (sp_inner_not_b T p a1) (sp_inner_not_b T2 p2 a1) := by
  unfold sp_inner_not_b
  repeat' (first
    | with_reducible exact RR.done (by assumption)
    | with_reducible exact hR.sp_not _ _ (by assumption)
    | with_reducible exact r_sp_enter hL (by assumption)
    | with_reducible exact r_sp_leave hL (by assumption)
    | with_reducible exact Kp.done (by assumption)
    | with_reducible exact (hK _ he).sp_not _ (by assumption)
    | with_reducible exact (hK2 _ he).sp_not _ (by assumption)
    | with_reducible exact k_sp_enter he (by assumption)
    | with_reducible exact k_sp_leave he (by assumption)
    | with_reducible refine RR.live (by assumption) ?_
    | with_reducible refine RR.ite ?_ ?_
    | with_reducible refine RR.chk ?_
    | with_reducible refine RR.bind ?_ (fun p p2 x h => ?_) (fun e he p x h => ?_) (fun e he p x h => ?_)
    | with_reducible refine RR.bindq ?_ (fun p p2 h => ?_) (fun e he p h => ?_) (fun e he p h => ?_)
    | with_reducible refine RR.bind0 (fun x hx => ?_)
    | with_reducible refine Kp.ite ?_ ?_
    | with_reducible refine Kp.chk ?_
    | with_reducible refine Kp.bind ?_ (fun p x h => ?_)
    | with_reducible refine Kp.bindq ?_ (fun p h => ?_)
    | with_reducible refine Kp.bind0 (fun x => ?_)
    | dsimp only)
theorem rb_sp_inner_unary (hL : Lk t u) (hR : RT t u T T2) (hK : ∀ e, e ≠ 0 → KT e T) (hK2 : ∀ e, e ≠ 0 → KT e T2) {a1 : Int} (h : Rel t u p p2) : RR t u (sp_inner_unary_b T p a1) (sp_inner_unary_b T2 p2 a1) := by
  unfold sp_inner_unary_b
  repeat' (first
    | with_reducible exact RR.done (by assumption)
    | with_reducible exact hR.sp_unary _ _ (by assumption)
    | with_reducible exact r_sp_enter hL (by assumption)
    | with_reducible exact r_sp_leave hL (by assumption)
    | with_reducible exact Kp.done (by assumption)
    | with_reducible exact (hK _ he).sp_unary _ (by assumption)
    | with_reducible exact (hK2 _ he).sp_unary _ (by assumption)
    | with_reducible exact k_sp_enter he (by assumption)
    | with_reducible exact k_sp_leave he (by assumption)
    | with_reducible refine RR.live (by assumption) ?_
    | with_reducible refine RR.ite ?_ ?_
    | with_reducible refine RR.chk ?_
    | with_reducible refine RR.bind ?_ (fun p p2 x h => ?_) (fun e he p x h => ?_) (fun e he p x h => ?_)
    | with_reducible refine RR.bindq ?_ (fun p p2 h => ?_) (fun e he p h => ?_) (fun e he p h => ?_)
    | with_reducible refine RR.bind0 (fun x hx => ?_)
    | with_reducible refine Kp.ite ?_ ?_
    | with_reducible refine Kp.chk ?_
    | with_reducible refine Kp.bind ?_ (fun p x h => ?_)
    | with_reducible refine Kp.bindq ?_ (fun p h => ?_)
    | with_reducible refine Kp.bind0 (fun x => ?_)
    | dsimp only)
theorem rb_sp_item (hL : Lk t u) (hR : RT t u T T2) (hK : ∀ e, e ≠ 0 → KT e T) (hK2 : ∀ e, e ≠ 0 → KT e T2) (h : Rel t u p p2) : RR t u (sp_item_b T p) (sp_item_b T2 p2) := by
  unfold sp_item_b
  repeat' (first
    | with_reducible exact RR.done (by assumption)
    | with_reducible exact hR.sp_expr _ _ (by assumption)
    | with_reducible exact r_sp_must hL (by assumption)
    | with_reducible exact r_sp_name hL (by assumption)
    | with_reducible exact Kp.done (by assumption)
    | with_reducible exact (hK _ he).sp_expr _ (by assumption)
    | with_reducible exact (hK2 _ he).sp_expr _ (by assumption)
    | with_reducible exact k_sp_must he (by assumption)
    | with_reducible exact k_sp_name he (by assumption)
    | with_reducible refine RR.live (by assumption) ?_
    | with_reducible refine RR.ite ?_ ?_
    | with_reducible refine RR.chk ?_
    | with_reducible refine RR.bind ?_ (fun p p2 x h => ?_) (fun e he p x h => ?_) (fun e he p x h => ?_)
    | with_reducible refine RR.bindq ?_ (fun p p2 h => ?_) (fun e he p h => ?_) (fun e he p h => ?_)
    | with_reducible refine RR.bind0 (fun x hx => ?_)
    | with_reducible refine Kp.ite ?_ ?_
    | with_reducible refine Kp.chk ?_
    | with_reducible refine Kp.bind ?_ (fun p x h => ?_)
    | with_reducible refine Kp.bindq ?_ (fun p h => ?_)
    | with_reducible refine Kp.bind0 (fun x => ?_)
    | dsimp only)
theorem rb_sp_key (hL : Lk t u) (hR : RT t u T T2) (hK : ∀ e, e ≠ 0 → KT e T) (hK2 : ∀ e, e ≠ 0 → KT e T2) (h : Rel t u p p2) : RR t u (sp_key_b T p) (sp_key_b T2 p2) := by
  unfold sp_key_b
  repeat' (first
    | with_reducible exact RR.done (by assumption)
    | with_reducible exact hR.sp_expr _ _ (by assumption)
    | with_reducible exact r_sp_word hL (by assumption)
    | with_reducible exact Kp.done (by assumption)
    | with_reducible exact (hK _ he).sp_expr _ (by assumption)
    | with_reducible exact (hK2 _ he).sp_expr _ (by assumption)
    | with_reducible exact k_sp_word he (by assumption)
    | with_reducible refine RR.live (by assumption) ?_
    | with_reducible refine RR.ite ?_ ?_
    | with_reducible refine RR.chk ?_
    | with_reducible refine RR.bind ?_ (fun p p2 x h => ?_) (fun e he p x h => ?_) (fun e he p x h => ?_)
    | with_reducible refine RR.bindq ?_ (fun p p2 h => ?_) (fun e he p h => ?_) (fun e he p h => ?_)
    | with_reducible refine RR.bind0 (fun x hx => ?_)
    | with_reducible refine Kp.ite ?_ ?_
    | with_reducible refine Kp.chk ?_
    | with_reducible refine Kp.bind ?_ (fun p x h => ?_)
    | with_reducible refine Kp.bindq ?_ (fun p h => ?_)
    | with_reducible refine Kp.bind0 (fun x => ?_)
    | dsimp only)
theorem rb_sp_left_expr_1 (hL : Lk t u) (hR : RT t u T T2) (hK : ∀ e, e ≠ 0 → KT e T) (hK2 : ∀ e, e ≠ 0 → KT e T2) {a1 : List Str} (oka1 : Okl a1) (h : Rel t u p p2) : RR t u (sp_left_expr_1_b T p a1) (sp_left_expr_1_b T2 p2 a1) := by
  unfold sp_left_expr_1_b
  repeat' (first
    | with_reducible exact RR.done (by assumption)
    | with_reducible exact hR.sp_expr_1 _ _ (by assumption)
    | with_reducible exact hR.sp_left_expr_1_l1 _ _ _ _ (by assumption) (by assumption)
    | with_reducible exact hR.sp_left_expr_1_l1 _ _ _ _ okp (by assumption)
    | with_reducible exact hR.sp_left_expr_1_l1 _ _ _ _ oks (by assumption)
    | with_reducible exact hR.sp_left_expr_1_l1 _ _ _ _ oka (by assumption)
    | with_reducible exact hR.sp_left_expr_1_l1 _ _ _ _ oko (by assumption)
    | with_reducible exact Kp.done (by assumption)
    | with_reducible exact (hK _ he).sp_expr_1 _ (by assumption)
    | with_reducible exact (hK2 _ he).sp_expr_1 _ (by assumption)
    | with_reducible exact (hK _ he).sp_left_expr_1_l1 _ _ _ (by assumption)
    | with_reducible exact (hK2 _ he).sp_left_expr_1_l1 _ _ _ (by assumption)
    | with_reducible refine RR.live (by assumption) ?_
    | with_reducible refine RR.ite ?_ ?_
    | with_reducible refine RR.chk ?_
    | with_reducible refine RR.bind ?_ (fun p p2 x h => ?_) (fun e he p x h => ?_) (fun e he p x h => ?_)
    | with_reducible refine RR.bindq ?_ (fun p p2 h => ?_) (fun e he p h => ?_) (fun e he p h => ?_)
    | with_reducible refine RR.bind0 (fun x hx => ?_)
    | with_reducible refine Kp.ite ?_ ?_
    | with_reducible refine Kp.chk ?_
    | with_reducible refine Kp.bind ?_ (fun p x h => ?_)
    | with_reducible refine Kp.bindq ?_ (fun p h => ?_)
    | with_reducible refine Kp.bind0 (fun x => ?_)
    | dsimp only)
theorem rb_sp_left_expr_1_l1 (hL : Lk t u) (hR : RT t u T T2) (hK : ∀ e, e ≠ 0 → KT e T) (hK2 : ∀ e, e ≠ 0 → KT e T2) {a1 : Expr} {a2 : List Str} (oka2 : Okl a2) (h : Rel t u p p2) : RR t u (sp_left_expr_1_l1_b T p a1 a2) (sp_left_expr_1_l1_b T2 p2 a1 a2) := by
  unfold sp_left_expr_1_l1_b
  repeat' (first
    | with_reducible exact RR.done (by assumption)
    | with_reducible exact hR.sp_left_expr_1_l2 _ _ _ _ _ _ _ (by assumption) (by assumption) (by assumption)
    | with_reducible exact Kp.done (by assumption)
    | with_reducible exact (hK _ he).sp_left_expr_1_l2 _ _ _ _ _ _ (by assumption)
    | with_reducible exact (hK2 _ he).sp_left_expr_1_l2 _ _ _ _ _ _ (by assumption)
    | with_reducible refine RR.live (by assumption) ?_
    | with_reducible refine RR.ite ?_ ?_
    | with_reducible refine RR.chk ?_
    | with_reducible refine RR.bind ?_ (fun p p2 x h => ?_) (fun e he p x h => ?_) (fun e he p x h => ?_)
    | with_reducible refine RR.bindq ?_ (fun p p2 h => ?_) (fun e he p h => ?_) (fun e he p h => ?_)
    | with_reducible refine RR.bind0 (fun x hx => ?_)
    | with_reducible refine Kp.ite ?_ ?_
    | with_reducible refine Kp.chk ?_
    | with_reducible refine Kp.bind ?_ (fun p x h => ?_)
    | with_reducible refine Kp.bindq ?_ (fun p h => ?_)
    | with_reducible refine Kp.bind0 (fun x => ?_)
    | dsimp only)
theorem rb_sp_left_expr_1_l2 (hL : Lk t u) (hR : RT t u T T2) (hK : ∀ e, e ≠ 0 → KT e T) (hK2 : ∀ e, e ≠ 0 → KT e T2) {a1 : Expr} {a2 : List Str} {a3 : List Str} {a4 : Int} {a5 : Int} (oka2 : Okl a2) (oka3 : Okl a3) (h : Rel t u p p2) : RR t u (sp_left_expr_1_l2_b T p a1 a2 a3 a4 a5) (sp_left_expr_1_l2_b T2 p2 a1 a2 a3 a4 a5) := by
  unfold sp_left_expr_1_l2_b
  repeat' (first
    | with_reducible exact RR.done (by assumption)
    | with_reducible exact hR.sp_expr_1 _ _ (by assumption)
    | with_reducible exact hR.sp_left_expr_1_l1 _ _ _ _ (by assumption) (by assumption)
    | with_reducible exact hR.sp_left_expr_1_l1 _ _ _ _ okp (by assumption)
    | with_reducible exact hR.sp_left_expr_1_l1 _ _ _ _ oks (by assumption)
    | with_reducible exact hR.sp_left_expr_1_l1 _ _ _ _ oka (by assumption)
    | with_reducible exact hR.sp_left_expr_1_l1 _ _ _ _ oko (by assumption)
    | with_reducible exact hR.sp_left_expr_1_l2 _ _ _ _ _ _ _ (by assumption) (by assumption) (by assumption)
    | with_reducible exact r_sp_word hL (by assumption)
    | with_reducible exact Kp.done (by assumption)
    | with_reducible exact (hK _ he).sp_expr_1 _ (by assumption)
    | with_reducible exact (hK2 _ he).sp_expr_1 _ (by assumption)
    | with_reducible exact (hK _ he).sp_left_expr_1_l1 _ _ _ (by assumption)
    | with_reducible exact (hK2 _ he).sp_left_expr_1_l1 _ _ _ (by assumption)
    | with_reducible exact (hK _ he).sp_left_expr_1_l2 _ _ _ _ _ _ (by assumption)
    | with_reducible exact (hK2 _ he).sp_left_expr_1_l2 _ _ _ _ _ _ (by assumption)
    | with_reducible exact k_sp_word he (by assumption)
    | with_reducible refine RR.live (by assumption) ?_
    | with_reducible refine RR.ite ?_ ?_
    | with_reducible refine RR.chk ?_
    | with_reducible refine RR.bind ?_ (fun p p2 x h => ?_) (fun e he p x h => ?_) (fun e he p x h => ?_)
    | with_reducible refine RR.bindq ?_ (fun p p2 h => ?_) (fun e he p h => ?_) (fun e he p h => ?_)
    | with_reducible refine RR.bind0 (fun x hx => ?_)
    | with_reducible refine Kp.ite ?_ ?_
    | with_reducible refine Kp.chk ?_
    | with_reducible refine Kp.bind ?_ (fun p x h => ?_)
    | with_reducible refine Kp.bindq ?_ (fun p h => ?_)
    | with_reducible refine Kp.bind0 (fun x => ?_)
    | dsimp only)
theorem rb_sp_left_not (hL : Lk t u) (hR : RT t u T T2) (hK : ∀ e, e ≠ 0 → KT e T) (hK2 : ∀ e, e ≠ 0 → KT e T2) {a1 : List Str} (oka1 : Okl a1) (h : Rel t u p p2) : RR t u (sp_left_not_b T p a1) (sp_left_not_b T2 p2 a1) := by
  unfold sp_left_not_b
  repeat' (first
    | with_reducible exact RR.done (by assumption)
    | with_reducible exact hR.sp_left_not_l1 _ _ _ _ (by assumption) (by assumption)
    | with_reducible exact hR.sp_left_not_l1 _ _ _ _ okp (by assumption)
    | with_reducible exact hR.sp_left_not_l1 _ _ _ _ oks (by assumption)
    | with_reducible exact hR.sp_left_not_l1 _ _ _ _ oka (by assumption)
    | with_reducible exact hR.sp_left_not_l1 _ _ _ _ oko (by assumption)
    | with_reducible exact hR.sp_not _ _ (by assumption)
    | with_reducible exact Kp.done (by assumption)
    | with_reducible exact (hK _ he).sp_left_not_l1 _ _ _ (by assumption)
    | with_reducible exact (hK2 _ he).sp_left_not_l1 _ _ _ (by assumption)
    | with_reducible exact (hK _ he).sp_not _ (by assumption)
    | with_reducible exact (hK2 _ he).sp_not _ (by assumption)
    | with_reducible refine RR.live (by assumption) ?_
    | with_reducible refine RR.ite ?_ ?_
    | with_reducible refine RR.chk ?_
    | with_reducible refine RR.bind ?_ (fun p p2 x h => ?_) (fun e he p x h => ?_) (fun e he p x h => ?_)
    | with_reducible refine RR.bindq ?_ (fun p p2 h => ?_) (fun e he p h => ?_) (fun e he p h => ?_)
    | with_reducible refine RR.bind0 (fun x hx => ?_)
    | with_reducible refine Kp.ite ?_ ?_
    | with_reducible refine Kp.chk ?_
    | with_reducible refine Kp.bind ?_ (fun p x h => ?_)
    | with_reducible refine Kp.bindq ?_ (fun p h => ?_)
    | with_reducible refine Kp.bind0 (fun x => ?_)
    | dsimp only)
theorem rb_sp_left_not_l1 (hL : Lk t u) (hR : RT t u T T2) (hK : ∀ e, e ≠ 0 → KT e T) (hK2 : ∀ e, e ≠ 0 → KT e T2) {a1 : Expr} {a2 : List Str} (oka2 : Okl a2) (h : Rel t u p p2) : RR t u (sp_left_not_l1_b T p a1 a2) (sp_left_not_l1_b T2 p2 a1 a2) := by
  unfold sp_left_not_l1_b
  repeat' (first
    | with_reducible exact RR.done (by assumption)
    | with_reducible exact hR.sp_left_not_l2 _ _ _ _ _ _ _ (by assumption) (by assumption) (by assumption)
    | with_reducible exact Kp.done (by assumption)
    | with_reducible exact (hK _ he).sp_left_not_l2 _ _ _ _ _ _ (by assumption)
    | with_reducible exact (hK2 _ he).sp_left_not_l2 _ _ _ _ _ _ (by assumption)
    | with_reducible refine RR.live (by assumption) ?_
    | with_reducible refine RR.ite ?_ ?_
    | with_reducible refine RR.chk ?_
    | with_reducible refine RR.bind ?_ (fun p p2 x h => ?_) (fun e he p x h => ?_) (fun e he p x h => ?_)
    | with_reducible refine RR.bindq ?_ (fun p p2 h => ?_) (fun e he p h => ?_) (fun e he p h => ?_)
    | with_reducible refine RR.bind0 (fun x hx => ?_)
    | with_reducible refine Kp.ite ?_ ?_
    | with_reducible refine Kp.chk ?_
    | with_reducible refine Kp.bind ?_ (fun p x h => ?_)
    | with_reducible refine Kp.bindq ?_ (fun p h => ?_)
    | with_reducible refine Kp.bind0 (fun x => ?_)
    | dsimp only)
theorem rb_sp_left_not_l2 (hL : Lk t u) (hR : RT t u T T2) (hK : ∀ e, e ≠ 0 → KT e T) (hK2 : ∀ e, e ≠ 0 → KT e T2) {a1 : Expr} {a2 : List Str} {a3 : List Str} {a4 : Int} {a5 : Int} (oka2 : Okl a2) (oka3 : Okl a3) (h : Rel t u p p2) : RR t u (sp_left_not_l2_b T p a1 a2 a3 a4 a5) (sp_left_not_l2_b T2 p2 a1 a2 a3 a4 a5) := by
  unfold sp_left_not_l2_b
  repeat' (first
    | with_reducible exact RR.done (by assumption)
    | with_reducible exact hR.sp_left_not_l1 _ _ _ _ (by assumption) (by assumption)
    | with_reducible exact hR.sp_left_not_l1 _ _ _ _ okp (by assumption)
    | with_reducible exact hR.sp_left_not_l1 _ _ _ _ oks (by assumption)
    | with_reducible exact hR.sp_left_not_l1 _ _ _ _ oka (by assumption)
    | with_reducible exact hR.sp_left_not_l1 _ _ _ _ oko (by assumption)
    | with_reducible exact hR.sp_left_not_l2 _ _ _ _ _ _ _ (by assumption) (by assumption) (by assumption)
    | with_reducible exact hR.sp_not _ _ (by assumption)
    | with_reducible exact r_sp_word hL (by assumption)
    | with_reducible exact Kp.done (by assumption)
    | with_reducible exact (hK _ he).sp_left_not_l1 _ _ _ (by assumption)
    | with_reducible exact (hK2 _ he).sp_left_not_l1 _ _ _ (by assumption)
    | with_reducible exact (hK _ he).sp_left_not_l2 _ _ _ _ _ _ (by assumption)
    | with_reducible exact (hK2 _ he).sp_left_not_l2 _ _ _ _ _ _ (by assumption)
    | with_reducible exact (hK _ he).sp_not _ (by assumption)
    | with_reducible exact (hK2 _ he).sp_not _ (by assumption)
    | with_reducible exact k_sp_word he (by assumption)
    | with_reducible refine RR.live (by assumption) ?_
    | with_reducible refine RR.ite ?_ ?_
    | with_reducible refine RR.chk ?_
    | with_reducible refine RR.bind ?_ (fun p p2 x h => ?_) (fun e he p x h => ?_) (fun e he p x h => ?_)
    | with_reducible refine RR.bindq ?_ (fun p p2 h => ?_) (fun e he p h => ?_) (fun e he p h => ?_)
    | with_reducible refine RR.bind0 (fun x hx => ?_)
    | with_reducible refine Kp.ite ?_ ?_
    | with_reducible refine Kp.chk ?_
    | with_reducible refine Kp.bind ?_ (fun p x h => ?_)
    | with_reducible refine Kp.bindq ?_ (fun p h => ?_)
    | with_reducible refine Kp.bind0 (fun x => ?_)
    | dsimp only)
theorem rb_sp_left_prod (hL : Lk t u) (hR : RT t u T T2) (hK : ∀ e, e ≠ 0 → KT e T) (hK2 : ∀ e, e ≠ 0 → KT e T2) {a1 : List Str} (oka1 : Okl a1) (h : Rel t u p p2) : RR t u (sp_left_prod_b T p a1) (sp_left_prod_b T2 p2 a1) := by
  unfold sp_left_prod_b
  repeat' (first
    | with_reducible exact RR.done (by assumption)
    | with_reducible exact hR.sp_left_prod_l1 _ _ _ _ (by assumption) (by assumption)
    | with_reducible exact hR.sp_left_prod_l1 _ _ _ _ okp (by assumption)
    | with_reducible exact hR.sp_left_prod_l1 _ _ _ _ oks (by assumption)
    | with_reducible exact hR.sp_left_prod_l1 _ _ _ _ oka (by assumption)
    | with_reducible exact hR.sp_left_prod_l1 _ _ _ _ oko (by assumption)
    | with_reducible exact hR.sp_prod _ _ (by assumption)
    | with_reducible exact Kp.done (by assumption)
    | with_reducible exact (hK _ he).sp_left_prod_l1 _ _ _ (by assumption)
    | with_reducible exact (hK2 _ he).sp_left_prod_l1 _ _ _ (by assumption)
    | with_reducible exact (hK _ he).sp_prod _ (by assumption)
    | with_reducible exact (hK2 _ he).sp_prod _ (by assumption)
    | with_reducible refine RR.live (by assumption) ?_
    | with_reducible refine RR.ite ?_ ?_
    | with_reducible refine RR.chk ?_
    | with_reducible refine RR.bind ?_ (fun p p2 x h => ?_) (fun e he p x h => ?_) (fun e he p x h => ?_)
    | with_reducible refine RR.bindq ?_ (fun p p2 h => ?_) (fun e he p h => ?_) (fun e he p h => ?_)
    | with_reducible refine RR.bind0 (fun x hx => ?_)
    | with_reducible refine Kp.ite ?_ ?_
    | with_reducible refine Kp.chk ?_
    | with_reducible refine Kp.bind ?_ (fun p x h => ?_)
    | with_reducible refine Kp.bindq ?_ (fun p h => ?_)
    | with_reducible refine Kp.bind0 (fun x => ?_)
    | dsimp only)
theorem rb_sp_left_prod_l1 (hL : Lk t u) (hR : RT t u T T2) (hK : ∀ e, e ≠ 0 → KT e T) (hK2 : ∀ e, e ≠ 0 → KT e T2) {a1 : Expr} {a2 : List Str} (oka2 : Okl a2) (h : Rel t u p p2) : RR t u (sp_left_prod_l1_b T p a1 a2) (sp_left_prod_l1_b T2 p2 a1 a2) := by
  unfold sp_left_prod_l1_b
  repeat' (first
    | with_reducible exact RR.done (by assumption)
    | with_reducible exact hR.sp_left_prod_l2 _ _ _ _ _ _ _ (by assumption) (by assumption) (by assumption)
    | with_reducible exact Kp.done (by assumption)
    | with_reducible exact (hK _ he).sp_left_prod_l2 _ _ _ _ _ _ (by assumption)
    | with_reducible exact (hK2 _ he).sp_left_prod_l2 _ _ _ _ _ _ (by assumption)
    | with_reducible refine RR.live (by assumption) ?_
    | with_reducible refine RR.ite ?_ ?_
    | with_reducible refine RR.chk ?_
    | with_reducible refine RR.bind ?_ (fun p p2 x h => ?_) (fun e he p x h => ?_) (fun e he p x h => ?_)
    | with_reducible refine RR.bindq ?_ (fun p p2 h => ?_) (fun e he p h => ?_) (fun e he p h => ?_)
    | with_reducible refine RR.bind0 (fun x hx => ?_)
    | with_reducible refine Kp.ite ?_ ?_
    | with_reducible refine Kp.chk ?_
    | with_reducible refine Kp.bind ?_ (fun p x h => ?_)
    | with_reducible refine Kp.bindq ?_ (fun p h => ?_)
    | with_reducible refine Kp.bind0 (fun x => ?_)
    | dsimp only)
theorem rb_sp_left_prod_l2 (hL : Lk t u) (hR : RT t u T T2) (hK : ∀ e, e ≠ 0 → KT e T) (hK2 : ∀ e, e ≠ 0 → KT e T2) {a1 : Expr} {a2 : List Str} {a3 : List Str} {a4 : Int} {a5 : Int} (oka2 : Okl a2) (oka3 : Okl a3) (h : Rel t u p p2) : RR t u (sp_left_prod_l2_b T p a1 a2 a3 a4 a5) (sp_left_prod_l2_b T2 p2 a1 a2 a3 a4 a5) := by
  unfold sp_left_prod_l2_b
  repeat' (first
    | with_reducible exact RR.done (by assumption)
    | with_reducible exact hR.sp_left_prod_l1 _ _ _ _ (by assumption) (by assumption)
    | with_reducible exact hR.sp_left_prod_l1 _ _ _ _ okp (by assumption)
    | with_reducible exact hR.sp_left_prod_l1 _ _ _ _ oks (by assumption)
    | with_reducible exact hR.sp_left_prod_l1 _ _ _ _ oka (by assumption)
    | with_reducible exact hR.sp_left_prod_l1 _ _ _ _ oko (by assumption)
    | with_reducible exact hR.sp_left_prod_l2 _ _ _ _ _ _ _ (by assumption) (by assumption) (by assumption)
    | with_reducible exact hR.sp_prod _ _ (by assumption)
    | with_reducible exact r_sp_mark hL (by assumption) (by decide)
    | with_reducible exact r_sp_mark hL (by assumption) (ne_of_idx (by assumption) (by assumption))
    | with_reducible exact Kp.done (by assumption)
    | with_reducible exact (hK _ he).sp_left_prod_l1 _ _ _ (by assumption)
    | with_reducible exact (hK2 _ he).sp_left_prod_l1 _ _ _ (by assumption)
    | with_reducible exact (hK _ he).sp_left_prod_l2 _ _ _ _ _ _ (by assumption)
    | with_reducible exact (hK2 _ he).sp_left_prod_l2 _ _ _ _ _ _ (by assumption)
    | with_reducible exact (hK _ he).sp_prod _ (by assumption)
    | with_reducible exact (hK2 _ he).sp_prod _ (by assumption)
    | with_reducible exact k_sp_mark he (by assumption)
    | with_reducible refine RR.live (by assumption) ?_
    | with_reducible refine RR.ite ?_ ?_
    | with_reducible refine RR.chk ?_
    | with_reducible refine RR.bind ?_ (fun p p2 x h => ?_) (fun e he p x h => ?_) (fun e he p x h => ?_)
    | with_reducible refine RR.bindq ?_ (fun p p2 h => ?_) (fun e he p h => ?_) (fun e he p h => ?_)
    | with_reducible refine RR.bind0 (fun x hx => ?_)
    | with_reducible refine Kp.ite ?_ ?_
    | with_reducible refine Kp.chk ?_
    | with_reducible refine Kp.bind ?_ (fun p x h => ?_)
    | with_reducible refine Kp.bindq ?_ (fun p h => ?_)
    | with_reducible refine Kp.bind0 (fun x => ?_)
    | dsimp only)
theorem rb_sp_left_unary (hL : Lk t u) (hR : RT t u T T2) (hK : ∀ e, e ≠ 0 → KT e T) (hK2 : ∀ e, e ≠ 0 → KT e T2) {a1 : List Str} (oka1 : Okl a1) (h : Rel t u p p2) : RR t u (sp_left_unary_b T p a1) (sp_left_unary_b T2 p2 a1) := by
  unfold sp_left_unary_b
  repeat' (first
    | with_reducible exact RR.done (by assumption)
    | with_reducible exact hR.sp_left_unary_l1 _ _ _ _ (by assumption) (by assumption)
    | with_reducible exact hR.sp_left_unary_l1 _ _ _ _ okp (by assumption)
    | with_reducible exact hR.sp_left_unary_l1 _ _ _ _ oks (by assumption)
    | with_reducible exact hR.sp_left_unary_l1 _ _ _ _ oka (by assumption)
    | with_reducible exact hR.sp_left_unary_l1 _ _ _ _ oko (by assumption)
    | with_reducible exact hR.sp_unary _ _ (by assumption)
    | with_reducible exact Kp.done (by assumption)
    | with_reducible exact (hK _ he).sp_left_unary_l1 _ _ _ (by assumption)
    | with_reducible exact (hK2 _ he).sp_left_unary_l1 _ _ _ (by assumption)
    | with_reducible exact (hK _ he).sp_unary _ (by assumption)
    | with_reducible exact (hK2 _ he).sp_unary _ (by assumption)
    | with_reducible refine RR.live (by assumption) ?_
    | with_reducible refine RR.ite ?_ ?_
    | with_reducible refine RR.chk ?_
    | with_reducible refine RR.bind ?_ (fun p p2 x h => ?_) (fun e he p x h => ?_) (fun e he p x h => ?_)
    | with_reducible refine RR.bindq ?_ (fun p p2 h => ?_) (fun e he p h => ?_) (fun e he p h => ?_)
    | with_reducible refine RR.bind0 (fun x hx => ?_)
    | with_reducible refine Kp.ite ?_ ?_
    | with_reducible refine Kp.chk ?_
    | with_reducible refine Kp.bind ?_ (fun p x h => ?_)
    | with_reducible refine Kp.bindq ?_ (fun p h => ?_)
    | with_reducible refine Kp.bind0 (fun x => ?_)
    | dsimp only)
theorem rb_sp_left_unary_l1 (hL : Lk t u) (hR : RT t u T T2) (hK : ∀ e, e ≠ 0 → KT e T) (hK2 : ∀ e, e ≠ 0 → KT e T2) {a1 : Expr} {a2 : List Str} (oka2 : Okl a2) (h : Rel t u p p2) : RR t u (sp_left_unary_l1_b T p a1 a2) (sp_left_unary_l1_b T2 p2 a1 a2) := by
  unfold sp_left_unary_l1_b
  repeat' (first
    | with_reducible exact RR.done (by assumption)
    | with_reducible exact hR.sp_left_unary_l2 _ _ _ _ _ _ _ (by assumption) (by assumption) (by assumption)
    | with_reducible exact Kp.done (by assumption)
    | with_reducible exact (hK _ he).sp_left_unary_l2 _ _ _ _ _ _ (by assumption)
    | with_reducible exact (hK2 _ he).sp_left_unary_l2 _ _ _ _ _ _ (by assumption)
    | with_reducible refine RR.live (by assumption) ?_
    | with_reducible refine RR.ite ?_ ?_
    | with_reducible refine RR.chk ?_
    | with_reducible refine RR.bind ?_ (fun p p2 x h => ?_) (fun e he p x h => ?_) (fun e he p x h => ?_)
    | with_reducible refine RR.bindq ?_ (fun p p2 h => ?_) (fun e he p h => ?_) (fun e he p h => ?_)
    | with_reducible refine RR.bind0 (fun x hx => ?_)
    | with_reducible refine Kp.ite ?_ ?_
    | with_reducible refine Kp.chk ?_
    | with_reducible refine Kp.bind ?_ (fun p x h => ?_)
    | with_reducible refine Kp.bindq ?_ (fun p h => ?_)
    | with_reducible refine Kp.bind0 (fun x => ?_)
    | dsimp only)
theorem rb_sp_left_unary_l2 (hL : Lk t u) (hR : RT t u T T2) (hK : ∀ e, e ≠ 0 → KT e T) (hK2 : ∀ e, e ≠ 0 → KT e T2) {a1 : Expr} {a2 : List Str} {a3 : List Str} {a4 : Int} {a5 : Int} (oka2 : Okl a2) (oka3 : Okl a3) (h : Rel t u p p2) : RR t u (sp_left_unary_l2_b T p a1 a2 a3 a4 a5) (sp_left_unary_l2_b T2 p2 a1 a2 a3 a4 a5) := by
  unfold sp_left_unary_l2_b
  repeat' (first
    | with_reducible exact RR.done (by assumption)
    | with_reducible exact hR.sp_left_unary_l1 _ _ _ _ (by assumption) (by assumption)
    | with_reducible exact hR.sp_left_unary_l1 _ _ _ _ okp (by assumption)
    | with_reducible exact hR.sp_left_unary_l1 _ _ _ _ oks (by assumption)
    | with_reducible exact hR.sp_left_unary_l1 _ _ _ _ oka (by assumption)
    | with_reducible exact hR.sp_left_unary_l1 _ _ _ _ oko (by assumption)
    | with_reducible exact hR.sp_left_unary_l2 _ _ _ _ _ _ _ (by assumption) (by assumption) (by assumption)
    | with_reducible exact hR.sp_unary _ _ (by assumption)
    | with_reducible exact r_sp_mark hL (by assumption) (by decide)
    | with_reducible exact r_sp_mark hL (by assumption) (ne_of_idx (by assumption) (by assumption))
    | with_reducible exact Kp.done (by assumption)
    | with_reducible exact (hK _ he).sp_left_unary_l1 _ _ _ (by assumption)
    | with_reducible exact (hK2 _ he).sp_left_unary_l1 _ _ _ (by assumption)
    | with_reducible exact (hK _ he).sp_left_unary_l2 _ _ _ _ _ _ (by assumption)
    | with_reducible exact (hK2 _ he).sp_left_unary_l2 _ _ _ _ _ _ (by assumption)
    | with_reducible exact (hK _ he).sp_unary _ (by assumption)
    | with_reducible exact (hK2 _ he).sp_unary _ (by assumption)
    | with_reducible exact k_sp_mark he (by assumption)
    | with_reducible refine RR.live (by assumption) ?_
    | with_reducible refine RR.ite ?_ ?_
    | with_reducible refine RR.chk ?_
    | with_reducible refine RR.bind ?_ (fun p p2 x h => ?_) (fun e he p x h => ?_) (fun e he p x h => ?_)
    | with_reducible refine RR.bindq ?_ (fun p p2 h => ?_) (fun e he p h => ?_) (fun e he p h => ?_)
    | with_reducible refine RR.bind0 (fun x hx => ?_)
    | with_reducible refine Kp.ite ?_ ?_
    | with_reducible refine Kp.chk ?_
    | with_reducible refine Kp.bind ?_ (fun p x h => ?_)
    | with_reducible refine Kp.bindq ?_ (fun p h => ?_)
    | with_reducible refine Kp.bind0 (fun x => ?_)
    | dsimp only)
theorem rb_sp_not (hL : Lk t u) (hR : RT t u T T2) (hK : ∀ e, e ≠ 0 → KT e T) (hK2 : ∀ e, e ≠ 0 → KT e T2) (h : Rel t u p p2) : RR t u (sp_not_b T p) (sp_not_b T2 p2) := by
  unfold sp_not_b
  repeat' (first
    | with_reducible exact RR.done (by assumption)
    | with_reducible exact hR.sp_compared _ _ (by assumption)
    | with_reducible exact hR.sp_inner_not _ _ _ (by assumption)
    | with_reducible exact r_sp_word hL (by assumption)
    | with_reducible exact Kp.done (by assumption)
    | with_reducible exact (hK _ he).sp_compared _ (by assumption)
    | with_reducible exact (hK2 _ he).sp_compared _ (by assumption)
    | with_reducible exact (hK _ he).sp_inner_not _ _ (by assumption)
    | with_reducible exact (hK2 _ he).sp_inner_not _ _ (by assumption)
    | with_reducible exact k_sp_word he (by assumption)
    | with_reducible refine RR.live (by assumption) ?_
    | with_reducible refine RR.ite ?_ ?_
    | with_reducible refine RR.chk ?_
    | with_reducible refine RR.bind ?_ (fun p p2 x h => ?_) (fun e he p x h => ?_) (fun e he p x h => ?_)
    | with_reducible refine RR.bindq ?_ (fun p p2 h => ?_) (fun e he p h => ?_) (fun e he p h => ?_)
    | with_reducible refine RR.bind0 (fun x hx => ?_)
    | with_reducible refine Kp.ite ?_ ?_
    | with_reducible refine Kp.chk ?_
    | with_reducible refine Kp.bind ?_ (fun p x h => ?_)
    | with_reducible refine Kp.bindq ?_ (fun p h => ?_)
    | with_reducible refine Kp.bind0 (fun x => ?_)
    | dsimp only)
theorem rb_sp_part_j2 (hL : Lk t u) (hR : RT t u T T2) (hK : ∀ e, e ≠ 0 → KT e T) (hK2 : ∀ e, e ≠ 0 → KT e T2) {a1 : Bool} {a2 : List ItemT} {a3 : List From} {a4 : List Expr} (h : Rel t u p p2) : RR t u (sp_part_j2_b T p a1 a2 a3 a4) (sp_part_j2_b T2 p2 a1 a2 a3 a4) := by
  unfold sp_part_j2_b
  repeat' (first
    | with_reducible exact RR.done (by assumption)
    | with_reducible exact hR.sp_expr _ _ (by assumption)
    | with_reducible exact hR.syntax_list_r_2 _ _ (by assumption)
    | with_reducible exact hR.syntax_list_y _ _ (by assumption)
    | with_reducible exact r_sp_must hL (by assumption)
    | with_reducible exact r_sp_number hL (by assumption)
    | with_reducible exact r_sp_word hL (by assumption)
    | with_reducible exact Kp.done (by assumption)
    | with_reducible exact (hK _ he).sp_expr _ (by assumption)
    | with_reducible exact (hK2 _ he).sp_expr _ (by assumption)
    | with_reducible exact (hK _ he).syntax_list_r_2 _ (by assumption)
    | with_reducible exact (hK2 _ he).syntax_list_r_2 _ (by assumption)
    | with_reducible exact (hK _ he).syntax_list_y _ (by assumption)
    | with_reducible exact (hK2 _ he).syntax_list_y _ (by assumption)
    | with_reducible exact k_sp_must he (by assumption)
    | with_reducible exact k_sp_number he (by assumption)
    | with_reducible exact k_sp_word he (by assumption)
    | with_reducible refine RR.live (by assumption) ?_
    | with_reducible refine RR.ite ?_ ?_
    | with_reducible refine RR.chk ?_
    | with_reducible refine RR.bind ?_ (fun p p2 x h => ?_) (fun e he p x h => ?_) (fun e he p x h => ?_)
    | with_reducible refine RR.bindq ?_ (fun p p2 h => ?_) (fun e he p h => ?_) (fun e he p h => ?_)
    | with_reducible refine RR.bind0 (fun x hx => ?_)
    | with_reducible refine Kp.ite ?_ ?_
    | with_reducible refine Kp.chk ?_
    | with_reducible refine Kp.bind ?_ (fun p x h => ?_)
    | with_reducible refine Kp.bindq ?_ (fun p h => ?_)
    | with_reducible refine Kp.bind0 (fun x => ?_)
    | dsimp only)
theorem rb_sp_part_j1 (hL : Lk t u) (hR : RT t u T T2) (hK : ∀ e, e ≠ 0 → KT e T) (hK2 : ∀ e, e ≠ 0 → KT e T2) {a1 : Bool} {a2 : List ItemT} {a3 : List From} (h : Rel t u p p2) : RR t u (sp_part_j1_b T p a1 a2 a3) (sp_part_j1_b T2 p2 a1 a2 a3) := by
  unfold sp_part_j1_b
  repeat' (first
    | with_reducible exact RR.done (by assumption)
    | with_reducible exact hR.sp_expr _ _ (by assumption)
    | with_reducible exact rb_sp_part_j2 hL hR hK hK2 (by assumption)
    | with_reducible exact r_sp_word hL (by assumption)
    | with_reducible exact Kp.done (by assumption)
    | with_reducible exact (hK _ he).sp_expr _ (by assumption)
    | with_reducible exact (hK2 _ he).sp_expr _ (by assumption)
    | with_reducible exact kb_sp_part_j2 he (hK _ he) (by assumption)
    | with_reducible exact kb_sp_part_j2 he (hK2 _ he) (by assumption)
    | with_reducible exact k_sp_word he (by assumption)
    | with_reducible refine RR.live (by assumption) ?_
    | with_reducible refine RR.ite ?_ ?_
    | with_reducible refine RR.chk ?_
    | with_reducible refine RR.bind ?_ (fun p p2 x h => ?_) (fun e he p x h => ?_) (fun e he p x h => ?_)
    | with_reducible refine RR.bindq ?_ (fun p p2 h => ?_) (fun e he p h => ?_) (fun e he p h => ?_)
    | with_reducible refine RR.bind0 (fun x hx => ?_)
    | with_reducible refine Kp.ite ?_ ?_
    | with_reducible refine Kp.chk ?_
    | with_reducible refine Kp.bind ?_ (fun p x h => ?_)
    | with_reducible refine Kp.bindq ?_ (fun p h => ?_)
    | with_reducible refine Kp.bind0 (fun x => ?_)
    | dsimp only)
theorem rb_sp_part (hL : Lk t u) (hR : RT t u T T2) (hK : ∀ e, e ≠ 0 → KT e T) (hK2 : ∀ e, e ≠ 0 → KT e T2) (h : Rel t u p p2) : RR t u (sp_part_b T p) (sp_part_b T2 p2) := by
  unfold sp_part_b
  repeat' (first
    | with_reducible exact RR.done (by assumption)
    | with_reducible exact hR.sp_query _ _ (by assumption)
    | with_reducible exact hR.sp_source _ _ (by assumption)
    | with_reducible exact hR.syntax_list_m _ _ (by assumption)
    | with_reducible exact r_sp_mark hL (by assumption) (by decide)
    | with_reducible exact r_sp_mark hL (by assumption) (ne_of_idx (by assumption) (by assumption))
    | with_reducible exact r_sp_must hL (by assumption)
    | with_reducible exact r_sp_need hL (by assumption)
    | with_reducible exact rb_sp_part_j1 hL hR hK hK2 (by assumption)
    | with_reducible exact r_sp_word hL (by assumption)
    | with_reducible exact Kp.done (by assumption)
    | with_reducible exact (hK _ he).sp_query _ (by assumption)
    | with_reducible exact (hK2 _ he).sp_query _ (by assumption)
    | with_reducible exact (hK _ he).sp_source _ (by assumption)
    | with_reducible exact (hK2 _ he).sp_source _ (by assumption)
    | with_reducible exact (hK _ he).syntax_list_m _ (by assumption)
    | with_reducible exact (hK2 _ he).syntax_list_m _ (by assumption)
    | with_reducible exact k_sp_mark he (by assumption)
    | with_reducible exact k_sp_must he (by assumption)
    | with_reducible exact k_sp_need he (by assumption)
    | with_reducible exact kb_sp_part_j1 he (hK _ he) (by assumption)
    | with_reducible exact kb_sp_part_j1 he (hK2 _ he) (by assumption)
    | with_reducible exact k_sp_word he (by assumption)
    | with_reducible refine RR.live (by assumption) ?_
    | with_reducible refine RR.ite ?_ ?_
    | with_reducible refine RR.chk ?_
    | with_reducible refine RR.bind ?_ (fun p p2 x h => ?_) (fun e he p x h => ?_) (fun e he p x h => ?_)
    | with_reducible refine RR.bindq ?_ (fun p p2 h => ?_) (fun e he p h => ?_) (fun e he p h => ?_)
    | with_reducible refine RR.bind0 (fun x hx => ?_)
    | with_reducible refine Kp.ite ?_ ?_
    | with_reducible refine Kp.chk ?_
    | with_reducible refine Kp.bind ?_ (fun p x h => ?_)
    | with_reducible refine Kp.bindq ?_ (fun p h => ?_)
    | with_reducible refine Kp.bind0 (fun x => ?_)
    | dsimp only)
theorem rb_sp_prim (hL : Lk t u) (hR : RT t u T T2) (hK : ∀ e, e ≠ 0 → KT e T) (hK2 : ∀ e, e ≠ 0 → KT e T2) (h : Rel t u p p2) : RR t u (sp_prim_b T p) (sp_prim_b T2 p2) := by
  refine prim_pre hL h ?_
  repeat' (first
    | with_reducible exact RR.done (by assumption)
    | with_reducible exact hR.sp_bracketed _ _ (by assumption)
    | with_reducible exact hR.sp_cases _ _ (by assumption)
    | with_reducible exact hR.sp_column _ _ (by assumption)
    | with_reducible exact hR.sp_round _ _ (by assumption)
    | with_reducible exact r_sp_mark hL (by assumption) (by decide)
    | with_reducible exact r_sp_mark hL (by assumption) (ne_of_idx (by assumption) (by assumption))
    | with_reducible exact r_sp_name hL (by assumption)
    | with_reducible exact r_sp_word hL (by assumption)
    | with_reducible exact Kp.done (by assumption)
    | with_reducible exact (hK _ he).sp_bracketed _ (by assumption)
    | with_reducible exact (hK2 _ he).sp_bracketed _ (by assumption)
    | with_reducible exact (hK _ he).sp_cases _ (by assumption)
    | with_reducible exact (hK2 _ he).sp_cases _ (by assumption)
    | with_reducible exact (hK _ he).sp_column _ (by assumption)
    | with_reducible exact (hK2 _ he).sp_column _ (by assumption)
    | with_reducible exact (hK _ he).sp_round _ (by assumption)
    | with_reducible exact (hK2 _ he).sp_round _ (by assumption)
    | with_reducible exact k_sp_mark he (by assumption)
    | with_reducible exact k_sp_name he (by assumption)
    | with_reducible exact k_sp_word he (by assumption)
    | with_reducible refine RR.live (by assumption) ?_
    | with_reducible refine RR.ite ?_ ?_
    | with_reducible refine RR.chk ?_
    | with_reducible refine RR.bind ?_ (fun p p2 x h => ?_) (fun e he p x h => ?_) (fun e he p x h => ?_)
    | with_reducible refine RR.bindq ?_ (fun p p2 h => ?_) (fun e he p h => ?_) (fun e he p h => ?_)
    | with_reducible refine RR.bind0 (fun x hx => ?_)
    | with_reducible refine Kp.ite ?_ ?_
    | with_reducible refine Kp.chk ?_
    | with_reducible refine Kp.bind ?_ (fun p x h => ?_)
    | with_reducible refine Kp.bindq ?_ (fun p h => ?_)
    | with_reducible refine Kp.bind0 (fun x => ?_)
    | dsimp only)
theorem rb_sp_prod (hL : Lk t u) (hR : RT t u T T2) (hK : ∀ e, e ≠ 0 → KT e T) (hK2 : ∀ e, e ≠ 0 → KT e T2) (h : Rel t u p p2) : RR t u (sp_prod_b T p) (sp_prod_b T2 p2) := by
  unfold sp_prod_b
  repeat' (first
    | with_reducible exact RR.done (by assumption)
    | with_reducible exact hR.sp_left_unary _ _ _ (by assumption) (by assumption)
    | with_reducible exact hR.sp_left_unary _ _ _ okp (by assumption)
    | with_reducible exact hR.sp_left_unary _ _ _ oks (by assumption)
    | with_reducible exact hR.sp_left_unary _ _ _ oka (by assumption)
    | with_reducible exact hR.sp_left_unary _ _ _ oko (by assumption)
    | with_reducible exact Kp.done (by assumption)
    | with_reducible exact (hK _ he).sp_left_unary _ _ (by assumption)
    | with_reducible exact (hK2 _ he).sp_left_unary _ _ (by assumption)
    | with_reducible refine RR.live (by assumption) ?_
    | with_reducible refine RR.ite ?_ ?_
    | with_reducible refine RR.chk ?_
    | with_reducible refine RR.bind ?_ (fun p p2 x h => ?_) (fun e he p x h => ?_) (fun e he p x h => ?_)
    | with_reducible refine RR.bindq ?_ (fun p p2 h => ?_) (fun e he p h => ?_) (fun e he p h => ?_)
    | with_reducible refine RR.bind0 (fun x hx => ?_)
    | with_reducible refine Kp.ite ?_ ?_
    | with_reducible refine Kp.chk ?_
    | with_reducible refine Kp.bind ?_ (fun p x h => ?_)
    | with_reducible refine Kp.bindq ?_ (fun p h => ?_)
    | with_reducible refine Kp.bind0 (fun x => ?_)
    | dsimp only)
theorem rb_sp_query (hL : Lk t u) (hR : RT t u T T2) (hK : ∀ e, e ≠ 0 → KT e T) (hK2 : ∀ e, e ≠ 0 → KT e T2) (h : Rel t u p p2) : RR t u (sp_query_b T p) (sp_query_b T2 p2) := by
  unfold sp_query_b
  repeat' (first
    | with_reducible exact RR.done (by assumption)
    | with_reducible exact hR.sp_part _ _ (by assumption)
    | with_reducible exact hR.sp_query_l1 _ _ _ (by assumption)
    | with_reducible exact r_sp_enter hL (by assumption)
    | with_reducible exact Kp.done (by assumption)
    | with_reducible exact (hK _ he).sp_part _ (by assumption)
    | with_reducible exact (hK2 _ he).sp_part _ (by assumption)
    | with_reducible exact (hK _ he).sp_query_l1 _ _ (by assumption)
    | with_reducible exact (hK2 _ he).sp_query_l1 _ _ (by assumption)
    | with_reducible exact k_sp_enter he (by assumption)
    | with_reducible refine RR.live (by assumption) ?_
    | with_reducible refine RR.ite ?_ ?_
    | with_reducible refine RR.chk ?_
    | with_reducible refine RR.bind ?_ (fun p p2 x h => ?_) (fun e he p x h => ?_) (fun e he p x h => ?_)
    | with_reducible refine RR.bindq ?_ (fun p p2 h => ?_) (fun e he p h => ?_) (fun e he p h => ?_)
    | with_reducible refine RR.bind0 (fun x hx => ?_)
    | with_reducible refine Kp.ite ?_ ?_
    | with_reducible refine Kp.chk ?_
    | with_reducible refine Kp.bind ?_ (fun p x h => ?_)
    | with_reducible refine Kp.bindq ?_ (fun p h => ?_)
    | with_reducible refine Kp.bind0 (fun x => ?_)
    | dsimp only)
theorem rb_sp_query_j2 (hL : Lk t u) (hR : RT t u T T2) (hK : ∀ e, e ≠ 0 → KT e T) (hK2 : ∀ e, e ≠ 0 → KT e T2) {a1 : Query} {a2 : Int} (h : Rel t u p p2) : RR t u (sp_query_j2_b T p a1 a2) (sp_query_j2_b T2 p2 a1 a2) := by
  unfold sp_query_j2_b
  repeat' (first
    | with_reducible exact RR.done (by assumption)
    | with_reducible exact hR.sp_part _ _ (by assumption)
    | with_reducible exact hR.sp_query_l1 _ _ _ (by assumption)
    | with_reducible exact r_sp_leave hL (by assumption)
    | with_reducible exact Kp.done (by assumption)
    | with_reducible exact (hK _ he).sp_part _ (by assumption)
    | with_reducible exact (hK2 _ he).sp_part _ (by assumption)
    | with_reducible exact (hK _ he).sp_query_l1 _ _ (by assumption)
    | with_reducible exact (hK2 _ he).sp_query_l1 _ _ (by assumption)
    | with_reducible exact k_sp_leave he (by assumption)
    | with_reducible refine RR.live (by assumption) ?_
    | with_reducible refine RR.ite ?_ ?_
    | with_reducible refine RR.chk ?_
    | with_reducible refine RR.bind ?_ (fun p p2 x h => ?_) (fun e he p x h => ?_) (fun e he p x h => ?_)
    | with_reducible refine RR.bindq ?_ (fun p p2 h => ?_) (fun e he p h => ?_) (fun e he p h => ?_)
    | with_reducible refine RR.bind0 (fun x hx => ?_)
    | with_reducible refine Kp.ite ?_ ?_
    | with_reducible refine Kp.chk ?_
    | with_reducible refine Kp.bind ?_ (fun p x h => ?_)
    | with_reducible refine Kp.bindq ?_ (fun p h => ?_)
    | with_reducible refine Kp.bind0 (fun x => ?_)
    | dsimp only)
theorem rb_sp_query_l1 (hL : Lk t u) (hR : RT t u T T2) (hK : ∀ e, e ≠ 0 → KT e T) (hK2 : ∀ e, e ≠ 0 → KT e T2) {a1 : Query} (h : Rel t u p p2) : RR t u (sp_query_l1_b T p a1) (sp_query_l1_b T2 p2 a1) := by
  unfold sp_query_l1_b
  repeat' (first
    | with_reducible exact RR.done (by assumption)
    | with_reducible exact r_sp_leave hL (by assumption)
    | with_reducible exact rb_sp_query_j2 hL hR hK hK2 (by assumption)
    | with_reducible exact r_sp_word hL (by assumption)
    | with_reducible exact Kp.done (by assumption)
    | with_reducible exact k_sp_leave he (by assumption)
    | with_reducible exact kb_sp_query_j2 he (hK _ he) (by assumption)
    | with_reducible exact kb_sp_query_j2 he (hK2 _ he) (by assumption)
    | with_reducible exact k_sp_word he (by assumption)
    | with_reducible refine RR.live (by assumption) ?_
    | with_reducible refine RR.ite ?_ ?_
    | with_reducible refine RR.chk ?_
    | with_reducible refine RR.bind ?_ (fun p p2 x h => ?_) (fun e he p x h => ?_) (fun e he p x h => ?_)
    | with_reducible refine RR.bindq ?_ (fun p p2 h => ?_) (fun e he p h => ?_) (fun e he p h => ?_)
    | with_reducible refine RR.bind0 (fun x hx => ?_)
    | with_reducible refine Kp.ite ?_ ?_
    | with_reducible refine Kp.chk ?_
    | with_reducible refine Kp.bind ?_ (fun p x h => ?_)
    | with_reducible refine Kp.bindq ?_ (fun p h => ?_)
    | with_reducible refine Kp.bind0 (fun x => ?_)
    | dsimp only)
theorem rb_sp_round (hL : Lk t u) (hR : RT t u T T2) (hK : ∀ e, e ≠ 0 → KT e T) (hK2 : ∀ e, e ≠ 0 → KT e T2) (h : Rel t u p p2) : RR t u (sp_round_b T p) (sp_round_b T2 p2) := by
  unfold sp_round_b
  repeat' (first
    | with_reducible exact RR.done (by assumption)
    | with_reducible exact hR.sp_expr _ _ (by assumption)
    | with_reducible exact hR.sp_query _ _ (by assumption)
    | with_reducible exact r_sp_need hL (by assumption)
    | with_reducible refine RR.bindS (r_sees1 hL (by assumption)) (fun x => ?_)
    | with_reducible exact Kp.done (by assumption)
    | with_reducible exact (hK _ he).sp_expr _ (by assumption)
    | with_reducible exact (hK2 _ he).sp_expr _ (by assumption)
    | with_reducible exact (hK _ he).sp_query _ (by assumption)
    | with_reducible exact (hK2 _ he).sp_query _ (by assumption)
    | with_reducible exact k_sp_need he (by assumption)
    | with_reducible refine RR.live (by assumption) ?_
    | with_reducible refine RR.ite ?_ ?_
    | with_reducible refine RR.chk ?_
    | with_reducible refine RR.bind ?_ (fun p p2 x h => ?_) (fun e he p x h => ?_) (fun e he p x h => ?_)
    | with_reducible refine RR.bindq ?_ (fun p p2 h => ?_) (fun e he p h => ?_) (fun e he p h => ?_)
    | with_reducible refine RR.bind0 (fun x hx => ?_)
    | with_reducible refine Kp.ite ?_ ?_
    | with_reducible refine Kp.chk ?_
    | with_reducible refine Kp.bind ?_ (fun p x h => ?_)
    | with_reducible refine Kp.bindq ?_ (fun p h => ?_)
    | with_reducible refine Kp.bind0 (fun x => ?_)
    | dsimp only)
theorem rb_sp_single (hL : Lk t u) (hR : RT t u T T2) (hK : ∀ e, e ≠ 0 → KT e T) (hK2 : ∀ e, e ≠ 0 → KT e T2) (h : Rel t u p p2) : RR t u (sp_single_b T p) (sp_single_b T2 p2) := by
  unfold sp_single_b
  repeat' (first
    | with_reducible exact RR.done (by assumption)
    | with_reducible exact hR.sp_query _ _ (by assumption)
    | with_reducible exact r_sp_mark hL (by assumption) (by decide)
    | with_reducible exact r_sp_mark hL (by assumption) (ne_of_idx (by assumption) (by assumption))
    | with_reducible exact r_sp_must hL (by assumption)
    | with_reducible exact r_sp_name hL (by assumption)
    | with_reducible exact r_sp_need hL (by assumption)
    | with_reducible exact r_sp_word hL (by assumption)
    | with_reducible exact Kp.done (by assumption)
    | with_reducible exact (hK _ he).sp_query _ (by assumption)
    | with_reducible exact (hK2 _ he).sp_query _ (by assumption)
    | with_reducible exact k_sp_mark he (by assumption)
    | with_reducible exact k_sp_must he (by assumption)
    | with_reducible exact k_sp_name he (by assumption)
    | with_reducible exact k_sp_need he (by assumption)
    | with_reducible exact k_sp_word he (by assumption)
    | with_reducible refine RR.live (by assumption) ?_
    | with_reducible refine RR.ite ?_ ?_
    | with_reducible refine RR.chk ?_
    | with_reducible refine RR.bind ?_ (fun p p2 x h => ?_) (fun e he p x h => ?_) (fun e he p x h => ?_)
    | with_reducible refine RR.bindq ?_ (fun p p2 h => ?_) (fun e he p h => ?_) (fun e he p h => ?_)
    | with_reducible refine RR.bind0 (fun x hx => ?_)
    | with_reducible refine Kp.ite ?_ ?_
    | with_reducible refine Kp.chk ?_
    | with_reducible refine Kp.bind ?_ (fun p x h => ?_)
    | with_reducible refine Kp.bindq ?_ (fun p h => ?_)
    | with_reducible refine Kp.bind0 (fun x => ?_)
    | dsimp only)
theorem rb_sp_source (hL : Lk t u) (hR : RT t u T T2) (hK : ∀ e, e ≠ 0 → KT e T) (hK2 : ∀ e, e ≠ 0 → KT e T2) (h : Rel t u p p2) : RR t u (sp_source_b T p) (sp_source_b T2 p2) := by
  unfold sp_source_b
  repeat' (first
    | with_reducible exact RR.done (by assumption)
    | with_reducible exact hR.sp_single _ _ (by assumption)
    | with_reducible exact hR.sp_source_l1 _ _ _ (by assumption)
    | with_reducible exact Kp.done (by assumption)
    | with_reducible exact (hK _ he).sp_single _ (by assumption)
    | with_reducible exact (hK2 _ he).sp_single _ (by assumption)
    | with_reducible exact (hK _ he).sp_source_l1 _ _ (by assumption)
    | with_reducible exact (hK2 _ he).sp_source_l1 _ _ (by assumption)
    | with_reducible refine RR.live (by assumption) ?_
    | with_reducible refine RR.ite ?_ ?_
    | with_reducible refine RR.chk ?_
    | with_reducible refine RR.bind ?_ (fun p p2 x h => ?_) (fun e he p x h => ?_) (fun e he p x h => ?_)
    | with_reducible refine RR.bindq ?_ (fun p p2 h => ?_) (fun e he p h => ?_) (fun e he p h => ?_)
    | with_reducible refine RR.bind0 (fun x hx => ?_)
    | with_reducible refine Kp.ite ?_ ?_
    | with_reducible refine Kp.chk ?_
    | with_reducible refine Kp.bind ?_ (fun p x h => ?_)
    | with_reducible refine Kp.bindq ?_ (fun p h => ?_)
    | with_reducible refine Kp.bind0 (fun x => ?_)
    | dsimp only)
theorem rb_sp_source_j2 (hL : Lk t u) (hR : RT t u T T2) (hK : ∀ e, e ≠ 0 → KT e T) (hK2 : ∀ e, e ≠ 0 → KT e T2) {a1 : From} {a2 : Int} (h : Rel t u p p2) : RR t u (sp_source_j2_b T p a1 a2) (sp_source_j2_b T2 p2 a1 a2) := by
  unfold sp_source_j2_b
  repeat' (first
    | with_reducible exact RR.done (by assumption)
    | with_reducible exact hR.sp_expr _ _ (by assumption)
    | with_reducible exact hR.sp_single _ _ (by assumption)
    | with_reducible exact hR.sp_source_l1 _ _ _ (by assumption)
    | with_reducible exact r_sp_must hL (by assumption)
    | with_reducible exact Kp.done (by assumption)
    | with_reducible exact (hK _ he).sp_expr _ (by assumption)
    | with_reducible exact (hK2 _ he).sp_expr _ (by assumption)
    | with_reducible exact (hK _ he).sp_single _ (by assumption)
    | with_reducible exact (hK2 _ he).sp_single _ (by assumption)
    | with_reducible exact (hK _ he).sp_source_l1 _ _ (by assumption)
    | with_reducible exact (hK2 _ he).sp_source_l1 _ _ (by assumption)
    | with_reducible exact k_sp_must he (by assumption)
    | with_reducible refine RR.live (by assumption) ?_
    | with_reducible refine RR.ite ?_ ?_
    | with_reducible refine RR.chk ?_
    | with_reducible refine RR.bind ?_ (fun p p2 x h => ?_) (fun e he p x h => ?_) (fun e he p x h => ?_)
    | with_reducible refine RR.bindq ?_ (fun p p2 h => ?_) (fun e he p h => ?_) (fun e he p h => ?_)
    | with_reducible refine RR.bind0 (fun x hx => ?_)
    | with_reducible refine Kp.ite ?_ ?_
    | with_reducible refine Kp.chk ?_
    | with_reducible refine Kp.bind ?_ (fun p x h => ?_)
    | with_reducible refine Kp.bindq ?_ (fun p h => ?_)
    | with_reducible refine Kp.bind0 (fun x => ?_)
    | dsimp only)
theorem rb_sp_source_l1 (hL : Lk t u) (hR : RT t u T T2) (hK : ∀ e, e ≠ 0 → KT e T) (hK2 : ∀ e, e ≠ 0 → KT e T2) {a1 : From} (h : Rel t u p p2) : RR t u (sp_source_l1_b T p a1) (sp_source_l1_b T2 p2 a1) := by
  unfold sp_source_l1_b
  repeat' (first
    | with_reducible exact RR.done (by assumption)
    | with_reducible exact r_sp_must hL (by assumption)
    | with_reducible exact rb_sp_source_j2 hL hR hK hK2 (by assumption)
    | with_reducible exact r_sp_word hL (by assumption)
    | with_reducible exact Kp.done (by assumption)
    | with_reducible exact k_sp_must he (by assumption)
    | with_reducible exact kb_sp_source_j2 he (hK _ he) (by assumption)
    | with_reducible exact kb_sp_source_j2 he (hK2 _ he) (by assumption)
    | with_reducible exact k_sp_word he (by assumption)
    | with_reducible refine RR.live (by assumption) ?_
    | with_reducible refine RR.ite ?_ ?_
    | with_reducible refine RR.chk ?_
    | with_reducible refine RR.bind ?_ (fun p p2 x h => ?_) (fun e he p x h => ?_) (fun e he p x h => ?_)
    | with_reducible refine RR.bindq ?_ (fun p p2 h => ?_) (fun e he p h => ?_) (fun e he p h => ?_)
    | with_reducible refine RR.bind0 (fun x hx => ?_)
    | with_reducible refine Kp.ite ?_ ?_
    | with_reducible refine Kp.chk ?_
    | with_reducible refine Kp.bind ?_ (fun p x h => ?_)
    | with_reducible refine Kp.bindq ?_ (fun p h => ?_)
    | with_reducible refine Kp.bind0 (fun x => ?_)
    | dsimp only)
theorem rb_sp_sum (hL : Lk t u) (hR : RT t u T T2) (hK : ∀ e, e ≠ 0 → KT e T) (hK2 : ∀ e, e ≠ 0 → KT e T2) (h : Rel t u p p2) : RR t u (sp_sum_b T p) (sp_sum_b T2 p2) := by
  unfold sp_sum_b
  repeat' (first
    | with_reducible exact RR.done (by assumption)
    | with_reducible exact hR.sp_left_prod _ _ _ (by assumption) (by assumption)
    | with_reducible exact hR.sp_left_prod _ _ _ okp (by assumption)
    | with_reducible exact hR.sp_left_prod _ _ _ oks (by assumption)
    | with_reducible exact hR.sp_left_prod _ _ _ oka (by assumption)
    | with_reducible exact hR.sp_left_prod _ _ _ oko (by assumption)
    | with_reducible exact Kp.done (by assumption)
    | with_reducible exact (hK _ he).sp_left_prod _ _ (by assumption)
    | with_reducible exact (hK2 _ he).sp_left_prod _ _ (by assumption)
    | with_reducible refine RR.live (by assumption) ?_
    | with_reducible refine RR.ite ?_ ?_
    | with_reducible refine RR.chk ?_
    | with_reducible refine RR.bind ?_ (fun p p2 x h => ?_) (fun e he p x h => ?_) (fun e he p x h => ?_)
    | with_reducible refine RR.bindq ?_ (fun p p2 h => ?_) (fun e he p h => ?_) (fun e he p h => ?_)
    | with_reducible refine RR.bind0 (fun x hx => ?_)
    | with_reducible refine Kp.ite ?_ ?_
    | with_reducible refine Kp.chk ?_
    | with_reducible refine Kp.bind ?_ (fun p x h => ?_)
    | with_reducible refine Kp.bindq ?_ (fun p h => ?_)
    | with_reducible refine Kp.bind0 (fun x => ?_)
    | dsimp only)
theorem rb_sp_unary (hL : Lk t u) (hR : RT t u T T2) (hK : ∀ e, e ≠ 0 → KT e T) (hK2 : ∀ e, e ≠ 0 → KT e T2) (h : Rel t u p p2) : RR t u (sp_unary_b T p) (sp_unary_b T2 p2) := by
  unfold sp_unary_b
  repeat' (first
    | with_reducible exact RR.done (by assumption)
    | with_reducible exact hR.sp_inner_unary _ _ _ (by assumption)
    | with_reducible exact hR.sp_prim _ _ (by assumption)
    | with_reducible exact r_sp_mark hL (by assumption) (by decide)
    | with_reducible exact r_sp_mark hL (by assumption) (ne_of_idx (by assumption) (by assumption))
    | with_reducible exact Kp.done (by assumption)
    | with_reducible exact (hK _ he).sp_inner_unary _ _ (by assumption)
    | with_reducible exact (hK2 _ he).sp_inner_unary _ _ (by assumption)
    | with_reducible exact (hK _ he).sp_prim _ (by assumption)
    | with_reducible exact (hK2 _ he).sp_prim _ (by assumption)
    | with_reducible exact k_sp_mark he (by assumption)
    | with_reducible refine RR.live (by assumption) ?_
    | with_reducible refine RR.ite ?_ ?_
    | with_reducible refine RR.chk ?_
    | with_reducible refine RR.bind ?_ (fun p p2 x h => ?_) (fun e he p x h => ?_) (fun e he p x h => ?_)
    | with_reducible refine RR.bindq ?_ (fun p p2 h => ?_) (fun e he p h => ?_) (fun e he p h => ?_)
    | with_reducible refine RR.bind0 (fun x hx => ?_)
    | with_reducible refine Kp.ite ?_ ?_
    | with_reducible refine Kp.chk ?_
    | with_reducible refine Kp.bind ?_ (fun p x h => ?_)
    | with_reducible refine Kp.bindq ?_ (fun p h => ?_)
    | with_reducible refine Kp.bind0 (fun x => ?_)
    | dsimp only)
theorem rb_syntax_list_m (hL : Lk t u) (hR : RT t u T T2) (hK : ∀ e, e ≠ 0 → KT e T) (hK2 : ∀ e, e ≠ 0 → KT e T2) (h : Rel t u p p2) : RR t u (syntax_list_m_b T p) (syntax_list_m_b T2 p2) := by
  unfold syntax_list_m_b
  repeat' (first
    | with_reducible exact RR.done (by assumption)
    | with_reducible exact hR.sp_item _ _ (by assumption)
    | with_reducible exact hR.syntax_list_m_l1 _ _ _ (by assumption)
    | with_reducible exact Kp.done (by assumption)
    | with_reducible exact (hK _ he).sp_item _ (by assumption)
    | with_reducible exact (hK2 _ he).sp_item _ (by assumption)
    | with_reducible exact (hK _ he).syntax_list_m_l1 _ _ (by assumption)
    | with_reducible exact (hK2 _ he).syntax_list_m_l1 _ _ (by assumption)
    | with_reducible refine RR.live (by assumption) ?_
    | with_reducible refine RR.ite ?_ ?_
    | with_reducible refine RR.chk ?_
    | with_reducible refine RR.bind ?_ (fun p p2 x h => ?_) (fun e he p x h => ?_) (fun e he p x h => ?_)
    | with_reducible refine RR.bindq ?_ (fun p p2 h => ?_) (fun e he p h => ?_) (fun e he p h => ?_)
    | with_reducible refine RR.bind0 (fun x hx => ?_)
    | with_reducible refine Kp.ite ?_ ?_
    | with_reducible refine Kp.chk ?_
    | with_reducible refine Kp.bind ?_ (fun p x h => ?_)
    | with_reducible refine Kp.bindq ?_ (fun p h => ?_)
    | with_reducible refine Kp.bind0 (fun x => ?_)
    | dsimp only)
theorem rb_syntax_list_m_l1 (hL : Lk t u) (hR : RT t u T T2) (hK : ∀ e, e ≠ 0 → KT e T) (hK2 : ∀ e, e ≠ 0 → KT e T2) {a1 : List ItemT} (h : Rel t u p p2) : RR t u (syntax_list_m_l1_b T p a1) (syntax_list_m_l1_b T2 p2 a1) := by
  unfold syntax_list_m_l1_b
  repeat' (first
    | with_reducible exact RR.done (by assumption)
    | with_reducible exact hR.sp_item _ _ (by assumption)
    | with_reducible exact hR.syntax_list_m_l1 _ _ _ (by assumption)
    | with_reducible exact r_sp_mark hL (by assumption) (by decide)
    | with_reducible exact r_sp_mark hL (by assumption) (ne_of_idx (by assumption) (by assumption))
    | with_reducible exact Kp.done (by assumption)
    | with_reducible exact (hK _ he).sp_item _ (by assumption)
    | with_reducible exact (hK2 _ he).sp_item _ (by assumption)
    | with_reducible exact (hK _ he).syntax_list_m_l1 _ _ (by assumption)
    | with_reducible exact (hK2 _ he).syntax_list_m_l1 _ _ (by assumption)
    | with_reducible exact k_sp_mark he (by assumption)
    | with_reducible refine RR.live (by assumption) ?_
    | with_reducible refine RR.ite ?_ ?_
    | with_reducible refine RR.chk ?_
    | with_reducible refine RR.bind ?_ (fun p p2 x h => ?_) (fun e he p x h => ?_) (fun e he p x h => ?_)
    | with_reducible refine RR.bindq ?_ (fun p p2 h => ?_) (fun e he p h => ?_) (fun e he p h => ?_)
    | with_reducible refine RR.bind0 (fun x hx => ?_)
    | with_reducible refine Kp.ite ?_ ?_
    | with_reducible refine Kp.chk ?_
    | with_reducible refine Kp.bind ?_ (fun p x h => ?_)
    | with_reducible refine Kp.bindq ?_ (fun p h => ?_)
    | with_reducible refine Kp.bind0 (fun x => ?_)
    | dsimp only)
theorem rb_syntax_list_r_2 (hL : Lk t u) (hR : RT t u T T2) (hK : ∀ e, e ≠ 0 → KT e T) (hK2 : ∀ e, e ≠ 0 → KT e T2) (h : Rel t u p p2) : RR t u (syntax_list_r_2_b T p) (syntax_list_r_2_b T2 p2) := by
  unfold syntax_list_r_2_b
  repeat' (first
    | with_reducible exact RR.done (by assumption)
    | with_reducible exact hR.sp_expr _ _ (by assumption)
    | with_reducible exact hR.syntax_list_r_2_l1 _ _ _ (by assumption)
    | with_reducible exact Kp.done (by assumption)
    | with_reducible exact (hK _ he).sp_expr _ (by assumption)
    | with_reducible exact (hK2 _ he).sp_expr _ (by assumption)
    | with_reducible exact (hK _ he).syntax_list_r_2_l1 _ _ (by assumption)
    | with_reducible exact (hK2 _ he).syntax_list_r_2_l1 _ _ (by assumption)
    | with_reducible refine RR.live (by assumption) ?_
    | with_reducible refine RR.ite ?_ ?_
    | with_reducible refine RR.chk ?_
    | with_reducible refine RR.bind ?_ (fun p p2 x h => ?_) (fun e he p x h => ?_) (fun e he p x h => ?_)
    | with_reducible refine RR.bindq ?_ (fun p p2 h => ?_) (fun e he p h => ?_) (fun e he p h => ?_)
    | with_reducible refine RR.bind0 (fun x hx => ?_)
    | with_reducible refine Kp.ite ?_ ?_
    | with_reducible refine Kp.chk ?_
    | with_reducible refine Kp.bind ?_ (fun p x h => ?_)
    | with_reducible refine Kp.bindq ?_ (fun p h => ?_)
    | with_reducible refine Kp.bind0 (fun x => ?_)
    | dsimp only)
theorem rb_syntax_list_r_2_l1 (hL : Lk t u) (hR : RT t u T T2) (hK : ∀ e, e ≠ 0 → KT e T) (hK2 : ∀ e, e ≠ 0 → KT e T2) {a1 : List Expr} (h : Rel t u p p2) : RR t u (syntax_list_r_2_l1_b T p a1) (syntax_list_r_2_l1_b T2 p2 a1) := by
  unfold syntax_list_r_2_l1_b
  repeat' (first
    | with_reducible exact RR.done (by assumption)
    | with_reducible exact hR.sp_expr _ _ (by assumption)
    | with_reducible exact hR.syntax_list_r_2_l1 _ _ _ (by assumption)
    | with_reducible exact r_sp_mark hL (by assumption) (by decide)
    | with_reducible exact r_sp_mark hL (by assumption) (ne_of_idx (by assumption) (by assumption))
    | with_reducible exact Kp.done (by assumption)
    | with_reducible exact (hK _ he).sp_expr _ (by assumption)
    | with_reducible exact (hK2 _ he).sp_expr _ (by assumption)
    | with_reducible exact (hK _ he).syntax_list_r_2_l1 _ _ (by assumption)
    | with_reducible exact (hK2 _ he).syntax_list_r_2_l1 _ _ (by assumption)
    | with_reducible exact k_sp_mark he (by assumption)
    | with_reducible refine RR.live (by assumption) ?_
    | with_reducible refine RR.ite ?_ ?_
    | with_reducible refine RR.chk ?_
    | with_reducible refine RR.bind ?_ (fun p p2 x h => ?_) (fun e he p x h => ?_) (fun e he p x h => ?_)
    | with_reducible refine RR.bindq ?_ (fun p p2 h => ?_) (fun e he p h => ?_) (fun e he p h => ?_)
    | with_reducible refine RR.bind0 (fun x hx => ?_)
    | with_reducible refine Kp.ite ?_ ?_
    | with_reducible refine Kp.chk ?_
    | with_reducible refine Kp.bind ?_ (fun p x h => ?_)
    | with_reducible refine Kp.bindq ?_ (fun p h => ?_)
    | with_reducible refine Kp.bind0 (fun x => ?_)
    | dsimp only)
theorem rb_syntax_list_y (hL : Lk t u) (hR : RT t u T T2) (hK : ∀ e, e ≠ 0 → KT e T) (hK2 : ∀ e, e ≠ 0 → KT e T2) (h : Rel t u p p2) : RR t u (syntax_list_y_b T p) (syntax_list_y_b T2 p2) := by
  unfold syntax_list_y_b
  repeat' (first
    | with_reducible exact RR.done (by assumption)
    | with_reducible exact hR.sp_key _ _ (by assumption)
    | with_reducible exact hR.syntax_list_y_l1 _ _ _ (by assumption)
    | with_reducible exact Kp.done (by assumption)
    | with_reducible exact (hK _ he).sp_key _ (by assumption)
    | with_reducible exact (hK2 _ he).sp_key _ (by assumption)
    | with_reducible exact (hK _ he).syntax_list_y_l1 _ _ (by assumption)
    | with_reducible exact (hK2 _ he).syntax_list_y_l1 _ _ (by assumption)
    | with_reducible refine RR.live (by assumption) ?_
    | with_reducible refine RR.ite ?_ ?_
    | with_reducible refine RR.chk ?_
    | with_reducible refine RR.bind ?_ (fun p p2 x h => ?_) (fun e he p x h => ?_) (fun e he p x h => ?_)
    | with_reducible refine RR.bindq ?_ (fun p p2 h => ?_) (fun e he p h => ?_) (fun e he p h => ?_)
    | with_reducible refine RR.bind0 (fun x hx => ?_)
    | with_reducible refine Kp.ite ?_ ?_
    | with_reducible refine Kp.chk ?_
    | with_reducible refine Kp.bind ?_ (fun p x h => ?_)
    | with_reducible refine Kp.bindq ?_ (fun p h => ?_)
    | with_reducible refine Kp.bind0 (fun x => ?_)
    | dsimp only)
theorem rb_syntax_list_y_l1 (hL : Lk t u) (hR : RT t u T T2) (hK : ∀ e, e ≠ 0 → KT e T) (hK2 : ∀ e, e ≠ 0 → KT e T2) {a1 : List Key} (h : Rel t u p p2) : RR t u (syntax_list_y_l1_b T p a1) (syntax_list_y_l1_b T2 p2 a1) := by
  unfold syntax_list_y_l1_b
  repeat' (first
    | with_reducible exact RR.done (by assumption)
    | with_reducible exact hR.sp_key _ _ (by assumption)
    | with_reducible exact hR.syntax_list_y_l1 _ _ _ (by assumption)
    | with_reducible exact r_sp_mark hL (by assumption) (by decide)
    | with_reducible exact r_sp_mark hL (by assumption) (ne_of_idx (by assumption) (by assumption))
    | with_reducible exact Kp.done (by assumption)
    | with_reducible exact (hK _ he).sp_key _ (by assumption)
    | with_reducible exact (hK2 _ he).sp_key _ (by assumption)
    | with_reducible exact (hK _ he).syntax_list_y_l1 _ _ (by assumption)
    | with_reducible exact (hK2 _ he).syntax_list_y_l1 _ _ (by assumption)
    | with_reducible exact k_sp_mark he (by assumption)
    | with_reducible refine RR.live (by assumption) ?_
    | with_reducible refine RR.ite ?_ ?_
    | with_reducible refine RR.chk ?_
    | with_reducible refine RR.bind ?_ (fun p p2 x h => ?_) (fun e he p x h => ?_) (fun e he p x h => ?_)
    | with_reducible refine RR.bindq ?_ (fun p p2 h => ?_) (fun e he p h => ?_) (fun e he p h => ?_)
    | with_reducible refine RR.bind0 (fun x hx => ?_)
    | with_reducible refine Kp.ite ?_ ?_
    | with_reducible refine Kp.chk ?_
    | with_reducible refine Kp.bind ?_ (fun p x h => ?_)
    | with_reducible refine Kp.bindq ?_ (fun p h => ?_)
    | with_reducible refine Kp.bind0 (fun x => ?_)
    | dsimp only)

theorem rt (hL : Lk t u) : ∀ k k2, RT t u (tab_sp_bracketed k) (tab_sp_bracketed k2)
  | 0, _ => ⟨(fun _ _ _ _ _ h => nomatch (show none = some _ from h)), (fun _ _ _ _ _ h => nomatch (show none = some _ from h)), (fun _ _ _ _ _ h => nomatch (show none = some _ from h)), (fun _ _ _ _ _ h => nomatch (show none = some _ from h)), (fun _ _ _ _ _ h => nomatch (show none = some _ from h)), (fun _ _ _ _ _ h => nomatch (show none = some _ from h)), (fun _ _ _ _ _ _ h => nomatch (show none = some _ from h)), (fun _ _ _ _ _ _ h => nomatch (show none = some _ from h)), (fun _ _ _ _ _ h => nomatch (show none = some _ from h)), (fun _ _ _ _ _ h => nomatch (show none = some _ from h)), (fun _ _ _ _ _ _ _ h => nomatch (show none = some _ from h)), (fun _ _ _ _ _ _ _ _ h => nomatch (show none = some _ from h)), (fun _ _ _ _ _ _ _ _ _ _ _ _ h => nomatch (show none = some _ from h)), (fun _ _ _ _ _ _ _ h => nomatch (show none = some _ from h)), (fun _ _ _ _ _ _ _ _ h => nomatch (show none = some _ from h)), (fun _ _ _ _ _ _ _ _ _ _ _ _ h => nomatch (show none = some _ from h)), (fun _ _ _ _ _ _ _ h => nomatch (show none = some _ from h)), (fun _ _ _ _ _ _ _ _ h => nomatch (show none = some _ from h)), (fun _ _ _ _ _ _ _ _ _ _ _ _ h => nomatch (show none = some _ from h)), (fun _ _ _ _ _ _ _ h => nomatch (show none = some _ from h)), (fun _ _ _ _ _ _ _ _ h => nomatch (show none = some _ from h)), (fun _ _ _ _ _ _ _ _ _ _ _ _ h => nomatch (show none = some _ from h)), (fun _ _ _ _ _ h => nomatch (show none = some _ from h)), (fun _ _ _ _ _ h => nomatch (show none = some _ from h)), (fun _ _ _ _ _ h => nomatch (show none = some _ from h)), (fun _ _ _ _ _ h => nomatch (show none = some _ from h)), (fun _ _ _ _ _ h => nomatch (show none = some _ from h)), (fun _ _ _ _ _ _ h => nomatch (show none = some _ from h)), (fun _ _ _ _ _ h => nomatch (show none = some _ from h)), (fun _ _ _ _ _ h => nomatch (show none = some _ from h)), (fun _ _ _ _ _ h => nomatch (show none = some _ from h)), (fun _ _ _ _ _ _ h => nomatch (show none = some _ from h)), (fun _ _ _ _ _ h => nomatch (show none = some _ from h)), (fun _ _ _ _ _ h => nomatch (show none = some _ from h)), (fun _ _ _ _ _ h => nomatch (show none = some _ from h)), (fun _ _ _ _ _ _ h => nomatch (show none = some _ from h)), (fun _ _ _ _ _ h => nomatch (show none = some _ from h)), (fun _ _ _ _ _ _ h => nomatch (show none = some _ from h)), (fun _ _ _ _ _ h => nomatch (show none = some _ from h)), (fun _ _ _ _ _ _ h => nomatch (show none = some _ from h))⟩
  | _ + 1, 0 => ⟨(fun _ _ _ _ _ _ h => nomatch (show none = some _ from h)), (fun _ _ _ _ _ _ h => nomatch (show none = some _ from h)), (fun _ _ _ _ _ _ h => nomatch (show none = some _ from h)), (fun _ _ _ _ _ _ h => nomatch (show none = some _ from h)), (fun _ _ _ _ _ _ h => nomatch (show none = some _ from h)), (fun _ _ _ _ _ _ h => nomatch (show none = some _ from h)), (fun _ _ _ _ _ _ _ h => nomatch (show none = some _ from h)), (fun _ _ _ _ _ _ _ h => nomatch (show none = some _ from h)), (fun _ _ _ _ _ _ h => nomatch (show none = some _ from h)), (fun _ _ _ _ _ _ h => nomatch (show none = some _ from h)), (fun _ _ _ _ _ _ _ _ h => nomatch (show none = some _ from h)), (fun _ _ _ _ _ _ _ _ _ h => nomatch (show none = some _ from h)), (fun _ _ _ _ _ _ _ _ _ _ _ _ _ h => nomatch (show none = some _ from h)), (fun _ _ _ _ _ _ _ _ h => nomatch (show none = some _ from h)), (fun _ _ _ _ _ _ _ _ _ h => nomatch (show none = some _ from h)), (fun _ _ _ _ _ _ _ _ _ _ _ _ _ h => nomatch (show none = some _ from h)), (fun _ _ _ _ _ _ _ _ h => nomatch (show none = some _ from h)), (fun _ _ _ _ _ _ _ _ _ h => nomatch (show none = some _ from h)), (fun _ _ _ _ _ _ _ _ _ _ _ _ _ h => nomatch (show none = some _ from h)), (fun _ _ _ _ _ _ _ _ h => nomatch (show none = some _ from h)), (fun _ _ _ _ _ _ _ _ _ h => nomatch (show none = some _ from h)), (fun _ _ _ _ _ _ _ _ _ _ _ _ _ h => nomatch (show none = some _ from h)), (fun _ _ _ _ _ _ h => nomatch (show none = some _ from h)), (fun _ _ _ _ _ _ h => nomatch (show none = some _ from h)), (fun _ _ _ _ _ _ h => nomatch (show none = some _ from h)), (fun _ _ _ _ _ _ h => nomatch (show none = some _ from h)), (fun _ _ _ _ _ _ h => nomatch (show none = some _ from h)), (fun _ _ _ _ _ _ _ h => nomatch (show none = some _ from h)), (fun _ _ _ _ _ _ h => nomatch (show none = some _ from h)), (fun _ _ _ _ _ _ h => nomatch (show none = some _ from h)), (fun _ _ _ _ _ _ h => nomatch (show none = some _ from h)), (fun _ _ _ _ _ _ _ h => nomatch (show none = some _ from h)), (fun _ _ _ _ _ _ h => nomatch (show none = some _ from h)), (fun _ _ _ _ _ _ h => nomatch (show none = some _ from h)), (fun _ _ _ _ _ _ h => nomatch (show none = some _ from h)), (fun _ _ _ _ _ _ _ h => nomatch (show none = some _ from h)), (fun _ _ _ _ _ _ h => nomatch (show none = some _ from h)), (fun _ _ _ _ _ _ _ h => nomatch (show none = some _ from h)), (fun _ _ _ _ _ _ h => nomatch (show none = some _ from h)), (fun _ _ _ _ _ _ _ h => nomatch (show none = some _ from h))⟩
  | k + 1, k2 + 1 => ⟨(fun _ _ h => rb_sp_bracketed hL (rt hL k k2) (fun _ he => kt he k) (fun _ he => kt he k2) h), (fun _ _ h => rb_sp_cases hL (rt hL k k2) (fun _ he => kt he k) (fun _ he => kt he k2) h), (fun _ _ h => rb_sp_column hL (rt hL k k2) (fun _ he => kt he k) (fun _ he => kt he k2) h), (fun _ _ h => rb_sp_compared hL (rt hL k k2) (fun _ he => kt he k) (fun _ he => kt he k2) h), (fun _ _ h => rb_sp_expr hL (rt hL k k2) (fun _ he => kt he k) (fun _ he => kt he k2) h), (fun _ _ h => rb_sp_expr_1 hL (rt hL k k2) (fun _ he => kt he k) (fun _ he => kt he k2) h), (fun _ _ _ h => rb_sp_inner_not hL (rt hL k k2) (fun _ he => kt he k) (fun _ he => kt he k2) h), (fun _ _ _ h => rb_sp_inner_unary hL (rt hL k k2) (fun _ he => kt he k) (fun _ he => kt he k2) h), (fun _ _ h => rb_sp_item hL (rt hL k k2) (fun _ he => kt he k) (fun _ he => kt he k2) h), (fun _ _ h => rb_sp_key hL (rt hL k k2) (fun _ he => kt he k) (fun _ he => kt he k2) h), (fun _ _ _ o0 h => rb_sp_left_expr_1 hL (rt hL k k2) (fun _ he => kt he k) (fun _ he => kt he k2) o0 h), (fun _ _ _ _ o0 h => rb_sp_left_expr_1_l1 hL (rt hL k k2) (fun _ he => kt he k) (fun _ he => kt he k2) o0 h), (fun _ _ _ _ _ _ _ o0 o1 h => rb_sp_left_expr_1_l2 hL (rt hL k k2) (fun _ he => kt he k) (fun _ he => kt he k2) o0 o1 h), (fun _ _ _ o0 h => rb_sp_left_not hL (rt hL k k2) (fun _ he => kt he k) (fun _ he => kt he k2) o0 h), (fun _ _ _ _ o0 h => rb_sp_left_not_l1 hL (rt hL k k2) (fun _ he => kt he k) (fun _ he => kt he k2) o0 h), (fun _ _ _ _ _ _ _ o0 o1 h => rb_sp_left_not_l2 hL (rt hL k k2) (fun _ he => kt he k) (fun _ he => kt he k2) o0 o1 h), (fun _ _ _ o0 h => rb_sp_left_prod hL (rt hL k k2) (fun _ he => kt he k) (fun _ he => kt he k2) o0 h), (fun _ _ _ _ o0 h => rb_sp_left_prod_l1 hL (rt hL k k2) (fun _ he => kt he k) (fun _ he => kt he k2) o0 h), (fun _ _ _ _ _ _ _ o0 o1 h => rb_sp_left_prod_l2 hL (rt hL k k2) (fun _ he => kt he k) (fun _ he => kt he k2) o0 o1 h), (fun _ _ _ o0 h => rb_sp_left_unary hL (rt hL k k2) (fun _ he => kt he k) (fun _ he => kt he k2) o0 h), (fun _ _ _ _ o0 h => rb_sp_left_unary_l1 hL (rt hL k k2) (fun _ he => kt he k) (fun _ he => kt he k2) o0 h), (fun _ _ _ _ _ _ _ o0 o1 h => rb_sp_left_unary_l2 hL (rt hL k k2) (fun _ he => kt he k) (fun _ he => kt he k2) o0 o1 h), (fun _ _ h => rb_sp_not hL (rt hL k k2) (fun _ he => kt he k) (fun _ he => kt he k2) h), (fun _ _ h => rb_sp_part hL (rt hL k k2) (fun _ he => kt he k) (fun _ he => kt he k2) h), (fun _ _ h => rb_sp_prim hL (rt hL k k2) (fun _ he => kt he k) (fun _ he => kt he k2) h), (fun _ _ h => rb_sp_prod hL (rt hL k k2) (fun _ he => kt he k) (fun _ he => kt he k2) h), (fun _ _ h => rb_sp_query hL (rt hL k k2) (fun _ he => kt he k) (fun _ he => kt he k2) h), (fun _ _ _ h => rb_sp_query_l1 hL (rt hL k k2) (fun _ he => kt he k) (fun _ he => kt he k2) h), (fun _ _ h => rb_sp_round hL (rt hL k k2) (fun _ he => kt he k) (fun _ he => kt he k2) h), (fun _ _ h => rb_sp_single hL (rt hL k k2) (fun _ he => kt he k) (fun _ he => kt he k2) h), (fun _ _ h => rb_sp_source hL (rt hL k k2) (fun _ he => kt he k) (fun _ he => kt he k2) h), (fun _ _ _ h => rb_sp_source_l1 hL (rt hL k k2) (fun _ he => kt he k) (fun _ he => kt he k2) h), (fun _ _ h => rb_sp_sum hL (rt hL k k2) (fun _ he => kt he k) (fun _ he => kt he k2) h), (fun _ _ h => rb_sp_unary hL (rt hL k k2) (fun _ he => kt he k) (fun _ he => kt he k2) h), (fun _ _ h => rb_syntax_list_m hL (rt hL k k2) (fun _ he => kt he k) (fun _ he => kt he k2) h), (fun _ _ _ h => rb_syntax_list_m_l1 hL (rt hL k k2) (fun _ he => kt he k) (fun _ he => kt he k2) h), (fun _ _ h => rb_syntax_list_r_2 hL (rt hL k k2) (fun _ he => kt he k) (fun _ he => kt he k2) h), (fun _ _ _ h => rb_syntax_list_r_2_l1 hL (rt hL k k2) (fun _ he => kt he k) (fun _ he => kt he k2) h), (fun _ _ h => rb_syntax_list_y hL (rt hL k k2) (fun _ he => kt he k) (fun _ he => kt he k2) h), (fun _ _ _ h => rb_syntax_list_y_l1 hL (rt hL k k2) (fun _ he => kt he k) (fun _ he => kt he k2) h)⟩

end Go.Syn
