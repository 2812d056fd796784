/- Plain laws of the two parsers: states, tokens, the small steps (a word, a mark, a name, a number). -/
import Derived.Test.YtoioflodpmideaaR
namespace Go.Syn
open Go.Abs

/-- With enough rounds the answer is r. -/
def Ev {α : Type} (m : Nat → Option α) (r : α) : Prop := ∃ K, ∀ k, K ≤ k → m k = some r

theorem Ev.now {α : Type} {m : Nat → Option α} {r : α} (h : ∀ k, m k = some r) : Ev m r := ⟨0, fun k _ => h k⟩

theorem Ev.bind {α β : Type} {m : Nat → Option α} {c : Nat → α → Option β} {a : α} {r : β} (h : Ev m a) (h2 : Ev (fun k => c k a) r) : Ev (fun k => (m k).bind (c k)) r := by
  obtain ⟨K, hK⟩ := h
  obtain ⟨K', hK'⟩ := h2
  exact ⟨max K K', fun k hk => by show (m k).bind (c k) = some r; rw [hK k (by omega), Option.bind_some]; exact hK' k (by omega)⟩

theorem Ev.step {α : Type} {m : Nat → Option α} {r : α} (h : Ev (fun k => m (k + 1)) r) : Ev m r := by
  obtain ⟨K, hK⟩ := h
  refine ⟨K + 1, fun k hk => ?_⟩
  obtain ⟨j, rfl⟩ : ∃ j, k = j + 1 := ⟨k - 1, by omega⟩
  exact hK j (by omega)

theorem Ev.chk {α : Type} {p : Prop} [Decidable p] {m : Nat → Option α} {r : α} (hp : p) (h : Ev m r) : Ev (fun k => Go.Abs.chk p (m k)) r := by
  obtain ⟨K, hK⟩ := h
  exact ⟨K, fun k hk => by show Go.Abs.chk p (m k) = some r; unfold Go.Abs.chk; rw [if_pos hp]; exact hK k hk⟩

theorem wrap_eq {n : Int} (h1 : -9223372036854775808 ≤ n) (h2 : n ≤ 9223372036854775807) : IntKind.i64.wrap n = n := by rw [IntKind.wrap_i64]; omega

theorem idx_at {α : Type} {l : List α} {n : Int} (h0 : 0 ≤ n) (h1 : n < l.length) : ∃ x, idx l n = some x ∧ l[n.toNat]? = some x := by
  have : n.toNat < l.length := by omega
  exact ⟨l[n.toNat], by unfold idx; rw [if_pos h0]; simp [this], by simp [this]⟩

/-- A letter, as a name begins with. -/
def isL (c : UInt8) : Bool := (97 ≤ c && c ≤ 122) || (65 ≤ c && c ≤ 90) || c == 95

def Wordy (s : Str) : Prop := ∃ c r, s = c :: r ∧ isL c = true
def Marky (s : Str) : Prop := ∃ c r, s = c :: r ∧ isL c = false

theorem not_both {s : Str} (h : Wordy s) : ¬ Marky s := by
  rintro ⟨c, r, rfl, h2⟩
  obtain ⟨d, q, e, h1⟩ := h
  simp at e
  rw [e.1, h1] at h2
  cases h2

/-- What the tokens of a text are like. -/
structure Toks (t : List Token) : Prop where
  ne : 0 < t.length
  last : ∀ x, t[t.length - 1]? = some x → x.Kind = 0
  word : ∀ x ∈ t, x.Kind = 1 → Wordy x.Text
  mark : ∀ x ∈ t, x.Kind = 4 → Marky x.Text
  len : t.length ≤ 100000

/-- The two parsers' states, side by side: alike, or both have seen the same error. -/
def Sim (t : List Token) (p : Parser) (q : PT) : Prop :=
  p.t = t ∧ 0 ≤ p.i ∧ p.i < t.length ∧ ((p.e = 0 ∧ 0 ≤ p.deep ∧ p.deep ≤ 40 ∧ q = ⟨p.t, p.i, p.deep, p.at_, p.e⟩) ∨ (p.e ≠ 0 ∧ q.E = p.e ∧ q.At = p.at_))

/-- How many tokens are left: none, once something is wrong. -/
def rem (t : List Token) (p : Parser) : Nat := if p.e = 0 then (t.length - p.i).toNat else 0

variable {t : List Token} {p : Parser} {q : PT}

theorem Sim.e (h : Sim t p q) : q.E = p.e := by
  obtain ⟨_, _, _, h | h⟩ := h
  · rw [h.2.2.2]
  · exact h.2.1

theorem Sim.at_ (h : Sim t p q) : q.At = p.at_ := by
  obtain ⟨_, _, _, h | h⟩ := h
  · rw [h.2.2.2]
  · exact h.2.2

theorem Sim.live (h : Sim t p q) (he : p.e = 0) : p = ⟨t, p.i, p.deep, p.at_, 0⟩ ∧ q = ⟨t, p.i, p.deep, p.at_, 0⟩ ∧ 0 ≤ p.i ∧ p.i < t.length ∧ 0 ≤ p.deep ∧ p.deep ≤ 40 := by
  obtain ⟨h1, h2, h3, h | h⟩ := h
  · obtain ⟨_, h4, h5, h6⟩ := h
    refine ⟨?_, ?_, h2, h3, h4, h5⟩
    · cases p; simp_all
    · rw [h6, h1, he]
  · exact absurd he h.1

theorem rem_live (h : Sim t p q) (he : p.e = 0) : 0 < rem t p := by
  obtain ⟨_, h2, h3, _⟩ := h
  unfold rem; rw [if_pos he]; omega

theorem rem_dead (he : p.e ≠ 0) : rem t p = 0 := by unfold rem; rw [if_neg he]

/-- The token that is next. -/
theorem now_some (h : Sim t p q) : ∃ x, sp_now p = some x ∧ idx p.t p.i = some x ∧ t[p.i.toNat]? = some x := by
  obtain ⟨h1, h2, h3, _⟩ := h
  obtain ⟨x, hx, hx'⟩ := idx_at (l := t) h2 h3
  refine ⟨x, ?_, by rw [h1]; exact hx, hx'⟩
  unfold sp_now
  rw [h1, hx]
  rfl

/-- Something is wrong. -/
theorem bad_sim (h : Sim t p q) {n : Int} (hn : n ≠ 0) : ∃ p' q', sp_fail p n = some p' ∧ r06_P_bad q n = some q' ∧ Sim t p' q' ∧ p'.e ≠ 0 ∧ p'.i = p.i ∧ (p.e ≠ 0 → p' = p ∧ q' = q) := by
  obtain ⟨x, hx1, hx2, hx3⟩ := now_some h
  by_cases he : p.e = 0
  · obtain ⟨h1, h2, h3, h4, h5, h6⟩ := h.live he
    refine ⟨⟨p.t, p.i, p.deep, x.At, n⟩, ⟨t, p.i, p.deep, x.At, n⟩, ?_, ?_, ?_, hn, rfl, fun h => absurd he h⟩
    · unfold sp_fail; rw [if_pos he, hx1]; rfl
    · have hx : idx t p.i = some x := by rw [h1] at hx2; exact hx2
      unfold r06_P_bad; rw [h2]; simp only [if_true]; rw [hx]; rfl
    · exact ⟨by rw [h1], h3, h4, .inr ⟨hn, rfl, rfl⟩⟩
  · refine ⟨p, q, ?_, ?_, h, he, rfl, fun _ => ⟨rfl, rfl⟩⟩
    · unfold sp_fail; rw [if_neg he]
    · unfold r06_P_bad; rw [if_neg (by rw [h.e]; exact he)]

/-- What comes of a step that takes one token, if it is there. -/
def Took (t : List Token) (p : Parser) (q : PT) (p' : Parser) (q' : PT) (b : Bool) : Prop :=
  (b = false ∧ p' = p ∧ q' = q) ∨ (b = true ∧ p.e = 0 ∧ p'.e = 0 ∧ p'.i = p.i + 1 ∧ p'.deep = p.deep ∧ Sim t p' q')

theorem Took.sim {p' : Parser} {q' : PT} {b : Bool} (h : Took t p q p' q' b) (hs : Sim t p q) : Sim t p' q' := by
  rcases h with ⟨_, rfl, rfl⟩ | h
  · exact hs
  · exact h.2.2.2.2.2

theorem go_on (ht : Toks t) (h : Sim t p q) (he : p.e = 0) {x : Token} (hx : t[p.i.toNat]? = some x) (hk : x.Kind ≠ 0) :
    sp_next p = some ⟨p.t, p.i + 1, p.deep, p.at_, p.e⟩ ∧ IntKind.i64.wrap (p.i + 1) = p.i + 1 ∧ Sim t ⟨p.t, p.i + 1, p.deep, p.at_, p.e⟩ ⟨q.T, p.i + 1, q.Deep, q.At, q.E⟩ := by
  obtain ⟨h1, h2, h3, h4, h5, h6⟩ := h.live he
  have hlen := ht.len
  have hlt : p.i + 1 < t.length := by
    rcases Int.lt_or_le (p.i + 1) t.length with h | h
    · exact h
    · exfalso
      have : p.i.toNat = t.length - 1 := by omega
      rw [this] at hx
      exact hk (ht.last x hx)
  have hw : IntKind.i64.wrap (p.i + 1) = p.i + 1 := wrap_eq (by omega) (by omega)
  have hw2 : IntKind.i64.wrap ((p.t.length : Int) - 1) = (t.length : Int) - 1 := by
    have : p.t = t := by rw [h1]
    rw [this]; exact wrap_eq (by omega) (by omega)
  refine ⟨?_, hw, ?_⟩
  · unfold sp_next
    rw [hw2, if_pos (by omega), hw]
  · refine ⟨by rw [h1], by show 0 ≤ p.i + 1; omega, hlt, .inl ⟨he, h5, h6, ?_⟩⟩
    have ht' : p.t = t := by rw [h1]
    have : q = ⟨p.t, p.i, p.deep, p.at_, p.e⟩ := by rw [h2, ht', he]
    rw [this]

/-- A word. -/
theorem word_take (ht : Toks t) (h : Sim t p q) {s : Str} (hs : Wordy s) : ∃ p' q' b, sp_word p s = some (p', b) ∧ r06_P_take q s = some (q', b) ∧ sp_sees p 1 s = some b ∧ r06_P_is q s = some b ∧ Took t p q p' q' b := by
  obtain ⟨x, hx1, hx2, hx3⟩ := now_some h
  by_cases he : p.e = 0
  · obtain ⟨h1, h2, h3, h4, h5, h6⟩ := h.live he
    have hm : x ∈ t := List.mem_of_getElem? hx3
    have hsees : sp_sees p 1 s = some (decide (x.Kind = 1 ∧ x.Text = s)) := by
      unfold sp_sees
      rw [if_pos he, hx1]
      simp only [Option.bind_some]
      by_cases hk : x.Kind = 1 <;> simp [hk]
    have his : r06_P_is q s = some (decide (x.Kind = 1 ∧ x.Text = s)) := by
      have hx : idx t p.i = some x := by rw [h1] at hx2; exact hx2
      unfold r06_P_is
      rw [h2]
      simp only [if_true]
      rw [hx]
      simp only [Option.bind_some]
      by_cases hk : x.Kind = 1
      · simp [hk]
      · rw [if_neg hk]
        by_cases hk4 : x.Kind = 4
        · have : x.Text ≠ s := fun e => not_both (by rw [e]; exact hs) (ht.mark x hm hk4)
          simp [hk4, this]
        · rw [if_neg hk4]; simp [hk]
    by_cases hb : x.Kind = 1 ∧ x.Text = s
    · obtain ⟨g1, g2, g3⟩ := go_on ht h he hx3 (by rw [hb.1]; decide)
      refine ⟨⟨p.t, p.i + 1, p.deep, p.at_, p.e⟩, ⟨q.T, p.i + 1, q.Deep, q.At, q.E⟩, true, ?_, ?_, by rw [hsees]; simp [hb], by rw [his]; simp [hb], .inr ⟨rfl, he, he, rfl, rfl, g3⟩⟩
      · unfold sp_word; rw [hsees]; simp [hb, g1]
      · unfold r06_P_take; rw [his]; simp [hb]
        rw [show q.I = p.i by rw [h2], g2]
    · refine ⟨p, q, false, ?_, ?_, by rw [hsees]; simp [hb], by rw [his]; simp [hb], .inl ⟨rfl, rfl, rfl⟩⟩
      · unfold sp_word; rw [hsees]; simp [hb]
      · unfold r06_P_take; rw [his]; simp [hb]
  · have h1 : sp_sees p 1 s = some false := by unfold sp_sees; rw [if_neg he]
    have h2 : r06_P_is q s = some false := by unfold r06_P_is; rw [if_neg (by rw [h.e]; exact he)]
    exact ⟨p, q, false, by unfold sp_word; rw [h1]; simp, by unfold r06_P_take; rw [h2]; simp, h1, h2, .inl ⟨rfl, rfl, rfl⟩⟩

/-- A mark. -/
theorem mark_take (ht : Toks t) (h : Sim t p q) {s : Str} (hs : Marky s) : ∃ p' q' b, sp_mark p s = some (p', b) ∧ r06_P_take q s = some (q', b) ∧ sp_sees p 4 s = some b ∧ r06_P_is q s = some b ∧ Took t p q p' q' b := by
  obtain ⟨x, hx1, hx2, hx3⟩ := now_some h
  by_cases he : p.e = 0
  · obtain ⟨h1, h2, h3, h4, h5, h6⟩ := h.live he
    have hm : x ∈ t := List.mem_of_getElem? hx3
    have hsees : sp_sees p 4 s = some (decide (x.Kind = 4 ∧ x.Text = s)) := by
      unfold sp_sees
      rw [if_pos he, hx1]
      simp only [Option.bind_some]
      by_cases hk : x.Kind = 4 <;> simp [hk]
    have his : r06_P_is q s = some (decide (x.Kind = 4 ∧ x.Text = s)) := by
      have hx : idx t p.i = some x := by rw [h1] at hx2; exact hx2
      unfold r06_P_is
      rw [h2]
      simp only [if_true]
      rw [hx]
      simp only [Option.bind_some]
      by_cases hk : x.Kind = 1
      · rw [if_pos hk]
        have : x.Text ≠ s := fun e => not_both (ht.word x hm hk) (by rw [e]; exact hs)
        simp [hk, this]
      · rw [if_neg hk]
        by_cases hk4 : x.Kind = 4
        · simp [hk4]
        · rw [if_neg hk4]; simp [hk4]
    by_cases hb : x.Kind = 4 ∧ x.Text = s
    · obtain ⟨g1, g2, g3⟩ := go_on ht h he hx3 (by rw [hb.1]; decide)
      refine ⟨⟨p.t, p.i + 1, p.deep, p.at_, p.e⟩, ⟨q.T, p.i + 1, q.Deep, q.At, q.E⟩, true, ?_, ?_, by rw [hsees]; simp [hb], by rw [his]; simp [hb], .inr ⟨rfl, he, he, rfl, rfl, g3⟩⟩
      · unfold sp_mark; rw [hsees]; simp [hb, g1]
      · unfold r06_P_take; rw [his]; simp [hb]
        rw [show q.I = p.i by rw [h2], g2]
    · refine ⟨p, q, false, ?_, ?_, by rw [hsees]; simp [hb], by rw [his]; simp [hb], .inl ⟨rfl, rfl, rfl⟩⟩
      · unfold sp_mark; rw [hsees]; simp [hb]
      · unfold r06_P_take; rw [his]; simp [hb]
  · have h1 : sp_sees p 4 s = some false := by unfold sp_sees; rw [if_neg he]
    have h2 : r06_P_is q s = some false := by unfold r06_P_is; rw [if_neg (by rw [h.e]; exact he)]
    exact ⟨p, q, false, by unfold sp_mark; rw [h1]; simp, by unfold r06_P_take; rw [h2]; simp, h1, h2, .inl ⟨rfl, rfl, rfl⟩⟩

/-- What comes of a step: alike behind it; where nothing is wrong nothing was, the values are alike, and m tokens were taken. -/
structure Stp (t : List Token) (m : Int) (p : Parser) {α : Type} (p' : Parser) (x : α) (q' : PT) (y : α) : Prop where
  sim : Sim t p' q'
  live : p'.e = 0 → p.e = 0 ∧ y = x ∧ p'.deep = p.deep ∧ p.i + m ≤ p'.i

theorem must_sim (ht : Toks t) (h : Sim t p q) {s : Str} (hs : Wordy s) : ∃ p' q', sp_must p s = some p' ∧ r06_P_must q s = some q' ∧ Stp t 1 p p' () q' () := by
  obtain ⟨p1, q1, b, h1, h2, _, _, h3⟩ := word_take ht h hs
  rcases h3 with ⟨rfl, rfl, rfl⟩ | ⟨rfl, e1, e2, e3, e4, e5⟩
  · obtain ⟨p2, q2, h4, h5, h6, h7, _⟩ := bad_sim h (n := 10) (by decide)
    refine ⟨p2, q2, ?_, ?_, h6, fun he => absurd he h7⟩
    · unfold sp_must; rw [h1]; simp [h4]
    · unfold r06_P_must; rw [h2]; simp [h5]
  · refine ⟨p1, q1, ?_, ?_, e5, fun _ => ⟨e1, rfl, e4, by omega⟩⟩
    · unfold sp_must; rw [h1]; simp
    · unfold r06_P_must; rw [h2]; simp

theorem need_sim (ht : Toks t) (h : Sim t p q) {s : Str} (hs : Marky s) : ∃ p' q', sp_need p s = some p' ∧ r06_P_must q s = some q' ∧ Stp t 1 p p' () q' () := by
  obtain ⟨p1, q1, b, h1, h2, _, _, h3⟩ := mark_take ht h hs
  rcases h3 with ⟨rfl, rfl, rfl⟩ | ⟨rfl, e1, e2, e3, e4, e5⟩
  · obtain ⟨p2, q2, h4, h5, h6, h7, _⟩ := bad_sim h (n := 10) (by decide)
    refine ⟨p2, q2, ?_, ?_, h6, fun he => absurd he h7⟩
    · unfold sp_need; rw [h1]; simp [h4]
    · unfold r06_P_must; rw [h2]; simp [h5]
  · refine ⟨p1, q1, ?_, ?_, e5, fun _ => ⟨e1, rfl, e4, by omega⟩⟩
    · unfold sp_need; rw [h1]; simp
    · unfold r06_P_must; rw [h2]; simp

theorem num_sim (ht : Toks t) (h : Sim t p q) : ∃ p' q' x y, sp_number p = some (p', x) ∧ r06_P_int q = some (q', y) ∧ Stp t 1 p p' x q' y := by
  obtain ⟨p2, q2, h4, h5, h6, h7, _⟩ := bad_sim h (n := 10) (by decide)
  obtain ⟨x, hx1, hx2, hx3⟩ := now_some h
  by_cases he : p.e = 0
  · obtain ⟨h1, h2, h3, h8, h9, h10⟩ := h.live he
    have hx : idx t p.i = some x := by rw [h1] at hx2; exact hx2
    by_cases hk : x.Kind = 2
    · obtain ⟨g1, g2, g3⟩ := go_on ht h he hx3 (by rw [hk]; decide)
      refine ⟨_, ⟨q.T, p.i + 1, q.Deep, q.At, q.E⟩, x.N, x.N, ?_, ?_, g3, fun _ => ⟨he, rfl, rfl, by show p.i + 1 ≤ p.i + 1; omega⟩⟩
      · unfold sp_number; rw [if_pos he, hx1]; simp [hk, g1]
      · have hlen := ht.len
        have g4 : IntKind.i64.wrap (p.i + 1 - 1) = p.i := by rw [wrap_eq (by omega) (by omega)]; omega
        unfold r06_P_int; rw [h2]; simp only [if_true]; rw [hx, g2, g4, hx]; simp [hk]
    · refine ⟨p2, q2, 0, 0, ?_, ?_, h6, fun he => absurd he h7⟩
      · unfold sp_number; rw [if_pos he, hx1]; simp [hk, h4]
      · rw [h2] at h5; unfold r06_P_int; rw [h2]; simp only [if_true]; rw [hx]; simp [hk, h5]
  · refine ⟨p2, q2, 0, 0, ?_, ?_, h6, fun he => absurd he h7⟩
    · unfold sp_number; rw [if_neg he]; simp [h4]
    · unfold r06_P_int; rw [if_neg (by rw [h.e]; exact he)]; simp [h5]

end Go.Syn
