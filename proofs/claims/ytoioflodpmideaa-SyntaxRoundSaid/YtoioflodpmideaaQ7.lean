/- The scanner over a text, and over the same text between brackets: all tokens. -/
import Derived.Test.YtoioflodpmideaaQ5
import Derived.Test.YtoioflodpmideaaQ3
namespace Go.Syn
open Go.Abs

variable {u : Str} {i j : Nat} {l : List Token}

theorem step_end (hu : u.length ≤ 30000) (hi : i ≤ u.length) (h : skp u i = u.length) (hl : l.length ≤ 6000) :
    Ev (fun k => token_Scan_l1 k u (i : Int) l u) (if (l.length : Int) = 6000 then ([], (u.length : Int), 8) else (l ++ [Token.mk 0 [] 0 (u.length : Int)], 0, 0)) := by
  have hp := pass_one u l hu i hi
  rw [h] at hp
  refine Ev.step ?_
  show Ev (fun k => token_Scan_l1_b (tab_token_Scan_l1 k) u (i : Int) l u) _
  unfold token_Scan_l1_b
  simp only [k_scan']
  refine Ev.bind hp ?_
  simp only [if_true, put_eq _ _ _ hl, Option.bind_some, putR]
  by_cases h6 : (l.length : Int) = 6000
  · simp only [if_pos h6]; exact Ev.now fun _ => rfl
  · simp only [if_neg h6]; exact Ev.now fun _ => rfl

theorem step_any (hu : u.length ≤ 30000) (hi : i ≤ u.length) (h : skp u i = j) (hj : j < u.length) {r : List Token × Int × Int} {x : Int × List Token × Int} (hx : Ev (fun k => tr_next_2 k u (j : Int) l) x)
    (hr : Ev (fun k => if x.2.2 = 0 then token_Scan_l1 k u x.1 x.2.1 u else some ([], x.1, x.2.2)) r) : Ev (fun k => token_Scan_l1 k u (i : Int) l u) r := by
  have hp := pass_one u l hu i hi
  rw [h] at hp
  refine Ev.step ?_
  show Ev (fun k => token_Scan_l1_b (tab_token_Scan_l1 k) u (i : Int) l u) _
  unfold token_Scan_l1_b
  simp only [k_scan']
  refine Ev.bind hp ?_
  simp only [if_neg (show ¬ (j : Int) = (u.length : Int) by omega)]
  exact Ev.bind hx hr

theorem step_next (hu : u.length ≤ 30000) (hi : i ≤ u.length) (h : skp u i = j) (hj : j < u.length) {e : Nat} {t : Token} {r : List Token × Int × Int} (hx : Ev (fun k => tr_next_2 k u (j : Int) l) (putR l (e : Int) t)) (h6 : ¬ (l.length : Int) = 6000)
    (hr : Ev (fun k => token_Scan_l1 k u (e : Int) (l ++ [t]) u) r) : Ev (fun k => token_Scan_l1 k u (i : Int) l u) r := by
  unfold putR at hx
  rw [if_neg h6] at hx
  refine step_any hu hi h hj hx ?_
  simp only [if_true]
  exact hr

theorem step_full (hu : u.length ≤ 30000) (hi : i ≤ u.length) (h : skp u i = j) (hj : j < u.length) {e : Nat} {t : Token} (hx : Ev (fun k => tr_next_2 k u (j : Int) l) (putR l (e : Int) t)) (h6 : (l.length : Int) = 6000) :
    Ev (fun k => token_Scan_l1 k u (i : Int) l u) ([], t.At, 8) := by
  unfold putR at hx
  rw [if_pos h6] at hx
  refine step_any hu hi h hj hx ?_
  exact Ev.now fun _ => rfl

variable {s : Str}

theorem scan_rel (hs : s.length ≤ 29990) : ∀ M i l m, i ≤ s.length → s.length - i ≤ M → l.length ≤ 6000 → m.length ≤ 6000 → Good l → ∀ r, Ev (fun k => token_Scan_l1 k s (i : Int) l s) r → r.2.2 = 0 →
    ∃ r2, Ev (fun k => token_Scan_l1 k (brk s) ((i + 1 : Nat) : Int) m (brk s)) r2 ∧ (r2.2.2 = 8 ∨ (r2.2.2 = 0 ∧ ∃ q : List Token, r.1 = l ++ q ++ [Token.mk 0 [] 0 (s.length : Int)] ∧
      r2.1 = m ++ q.map up1 ++ [Token.mk 4 s_x29 0 ((s.length + 2 : Nat) : Int), Token.mk 0 [] 0 ((s.length + 3 : Nat) : Int)] ∧ ∀ x ∈ q, x.Kind ≠ 0)) := by
  intro M
  have hbl := brk_len s
  have close : ∀ (i : Nat) (m : List Token), i ≤ s.length → skp s i = s.length → m.length ≤ 6000 → ∃ r2, Ev (fun k => token_Scan_l1 k (brk s) ((i + 1 : Nat) : Int) m (brk s)) r2 ∧ (r2.2.2 = 8 ∨ (r2.2.2 = 0 ∧ r2.1 = m ++ [Token.mk 4 s_x29 0 ((s.length + 2 : Nat) : Int), Token.mk 0 [] 0 ((s.length + 3 : Nat) : Int)])) := by
    intro i m hi hsk hm
    have h1 : skp (brk s) (i + 1) = s.length + 2 := by rw [skp_brk hi, if_pos hsk]
    have hd : (brk s).drop (s.length + 2) = [41] := by
      have := brk_drop s (i := s.length) (Nat.le_refl _)
      rw [List.drop_length] at this
      rw [show s.length + 2 = s.length + 1 + 1 by omega, ← List.drop_drop, this]; rfl
    have hlt : s.length + 2 < (brk s).length := by omega
    have hc : (brk s)[s.length + 2] = 41 := by
      rw [drop_at hlt] at hd
      exact (List.cons.inj hd).1
    have hx := next_mark (s := brk s) (by omega) hlt (by rw [hc]; decide) (by rw [hc]; decide) (by rw [hc]; decide) hm
    rw [hd, show Mks.find? (pre [41]) = some s_x29 by simp [Mks, pre, s_x7cx7c, s_x3cx3e, s_x3cx3d, s_x3ex3d, s_x28, s_x29]] at hx
    have hx' : Ev (fun k => tr_next_2 k (brk s) ((s.length + 2 : Nat) : Int) m) (putR m ((s.length + 3 : Nat) : Int) (Token.mk 4 s_x29 0 ((s.length + 2 : Nat) : Int))) := hx
    by_cases h6 : (m.length : Int) = 6000
    · exact ⟨_, step_full (by omega) (by omega) h1 hlt hx' h6, .inl rfl⟩
    · have he : skp (brk s) (s.length + 3) = (brk s).length := by rw [← hbl]; exact skp_end _
      have hend := step_end (u := brk s) (i := s.length + 3) (l := m ++ [Token.mk 4 s_x29 0 ((s.length + 2 : Nat) : Int)]) (by omega) (by omega) he (by simp; omega)
      refine ⟨_, step_next (by omega) (by omega) h1 hlt hx' h6 hend, ?_⟩
      by_cases h7 : ((m ++ [Token.mk 4 s_x29 0 ((s.length + 2 : Nat) : Int)]).length : Int) = 6000
      · rw [if_pos h7]; exact .inl rfl
      · rw [if_neg h7]; exact .inr ⟨rfl, by simp [hbl]⟩
  induction M with
  | zero =>
    intro i l m hi hM hl hm hg r hr h0
    have hi' : i = s.length := by omega
    have hsk : skp s i = s.length := by rw [hi']; exact skp_end s
    have hend := Ev.uniq' hr (step_end (by omega) hi hsk hl)
    by_cases h6 : (l.length : Int) = 6000
    · rw [if_pos h6] at hend; rw [hend] at h0; exact absurd (show (8 : Int) = 0 from h0) (by decide)
    · rw [if_neg h6] at hend
      obtain ⟨r2, g1, g2⟩ := close i m hi hsk hm
      refine ⟨r2, g1, g2.imp id fun g => ⟨g.1, [], ?_, ?_, fun x hx => by simp at hx⟩⟩
      · rw [hend]; simp
      · rw [g.2]; simp
  | succ M ih =>
    intro i l m hi hM hl hm hg r hr h0
    have hle := skp_le s hi
    by_cases hsk : skp s i = s.length
    · have hend := Ev.uniq' hr (step_end (by omega) hi hsk hl)
      by_cases h6 : (l.length : Int) = 6000
      · rw [if_pos h6] at hend; rw [hend] at h0; exact absurd (show (8 : Int) = 0 from h0) (by decide)
      · rw [if_neg h6] at hend
        obtain ⟨r2, g1, g2⟩ := close i m hi hsk hm
        refine ⟨r2, g1, g2.imp id fun g => ⟨g.1, [], ?_, ?_, fun x hx => by simp at hx⟩⟩
        · rw [hend]; simp
        · rw [g.2]; simp
    · have hj : skp s i < s.length := by omega
      have hsk2 : skp (brk s) (i + 1) = skp s i + 1 := by rw [skp_brk hi, if_neg hsk]
      rcases one_all (by omega) hj with ⟨t, e, h1, _, h3⟩ | ⟨w, _, _, h3⟩
      · have h4 := next_brk hs hj h1 h3
        by_cases h6 : (l.length : Int) = 6000
        · have := Ev.uniq' hr (step_full (by omega) hi rfl hj (h3 l hl) h6)
          rw [this] at h0; exact absurd (show (8 : Int) = 0 from h0) (by decide)
        · by_cases h7 : (m.length : Int) = 6000
          · exact ⟨_, step_full (by omega) (by omega) hsk2 (by omega) (h4 m hm) h7, .inl rfl⟩
          · have hgt := h1.gt
            have hle2 := h1.le
            have hg2 : Good (l ++ [t]) := by
              intro x hx
              rcases List.mem_append.1 hx with h | h
              · exact hg x h
              · simp at h; rw [h]; exact ⟨h1.word, h1.mark⟩
            obtain ⟨r3, g1, g2⟩ : ∃ r3, Ev (fun k => token_Scan_l1 k s (e : Int) (l ++ [t]) s) r3 ∧ True := by
              obtain ⟨l', a', e', q1, _, _⟩ := scan_loop s (by omega) _ e (l ++ [t]) h1.le (Nat.le_refl _) (by simp; omega) hg2
              exact ⟨_, q1, trivial⟩
            have hrr := Ev.uniq' hr (step_next (by omega) hi rfl hj (h3 l hl) h6 g1)
            subst hrr
            obtain ⟨r2, q1, q2⟩ := ih e (l ++ [t]) (m ++ [up1 t]) h1.le (by omega) (by simp; omega) (by simp; omega) hg2 r g1 h0
            refine ⟨r2, step_next (by omega) (by omega) hsk2 (by omega) (h4 m hm) h7 q1, q2.imp id fun ⟨z0, q, z1, z2, z3⟩ => ⟨z0, t :: q, ?_, ?_, fun x hx => ?_⟩⟩
            · rw [z1]; simp
            · rw [z2]; simp
            · rcases List.mem_cons.1 hx with rfl | hx
              · exact h1.kind
              · exact z3 x hx
      · have := Ev.uniq' hr (step_any (by omega) hi rfl hj (h3 l hl) (Ev.now fun _ => rfl))
        rw [this] at h0; exact absurd (show (10 : Int) = 0 from h0) (by decide)

end Go.Syn

namespace Go.Syn
open Go.Abs

variable {s : Str}

theorem brk_tokens {q : List Token} {a b c d : Token} (ha : a.Kind = 0) (hb : b.Kind = 4 ∧ b.Text = s_x28) (hc : c.Kind = 4 ∧ c.Text = s_x29) (hd : d.Kind = 0) (hq : ∀ x ∈ q, x.Kind ≠ 0) (hl : q.length ≤ 99997) : Brk (q ++ [a]) ([b] ++ q.map up1 ++ [c, d]) where
  ne := by simp
  len := by simp; omega
  len2 := by simp; omega
  room := by simp
  same := fun i x hx hk => by
    rcases Nat.lt_or_ge i q.length with h | h
    · rw [List.getElem?_append_left h] at hx
      refine ⟨by simp; omega, up1 x, ?_, rfl, rfl, rfl⟩
      rw [List.append_assoc, List.singleton_append, List.getElem?_cons_succ, List.getElem?_append_left (by simpa using h), List.getElem?_map, hx]; rfl
    · rw [List.getElem?_append_right h] at hx
      have : i - q.length = 0 := by
        have := (List.getElem?_eq_some_iff.1 hx).1
        simp at this; omega
      rw [this] at hx
      simp at hx
      rw [← hx] at hk
      exact absurd ha hk
  last := fun i x hx hk => by
    rcases Nat.lt_or_ge i q.length with h | h
    · rw [List.getElem?_append_left h] at hx
      exact absurd hk (hq x (List.mem_of_getElem? hx))
    · have hi : i < (q ++ [a]).length := (List.getElem?_eq_some_iff.1 hx).1
      have hi' : i = q.length := by simp at hi; omega
      refine ⟨c, ?_, hc.1, hc.2⟩
      rw [hi', List.append_assoc, List.singleton_append, List.getElem?_cons_succ, List.getElem?_append_right (by simp)]
      simp
  fin := fun i x hx hk => by
    rcases Nat.lt_or_ge i q.length with h | h
    · rw [List.getElem?_append_left h] at hx
      exact absurd hk (hq x (List.mem_of_getElem? hx))
    · have hi : i < (q ++ [a]).length := (List.getElem?_eq_some_iff.1 hx).1
      simp at hi ⊢; omega
  begins := ⟨b, by simp, hb.1, hb.2⟩
  ends := ⟨d, by
    rw [List.append_assoc, List.singleton_append, List.getElem?_cons_succ, List.getElem?_append_right (by simp)]
    simp, hd⟩

/-- The scanner's answers, side by side. -/
theorem scan_brk (hs : s.length ≤ 9000) {t : List Token} (h : Ev (fun k => token_Scan k s) (t, 0, 0)) :
    ∃ r2, Ev (fun k => token_Scan k (brk s)) r2 ∧ (r2.2.2 = 8 ∨ (r2.2.1 = 0 ∧ r2.2.2 = 0 ∧ Brk t r2.1 ∧ Toks r2.1)) := by
  have hbl := brk_len s
  obtain ⟨l2, at2, e2, g1, _, g3⟩ := scan_ev (brk s) (by omega)
  have h1 : Ev (fun k => token_Scan_l1 k s ((0 : Nat) : Int) [] s) (t, 0, 0) := by
    unfold token_Scan at h
    simp only [if_neg (show ¬ (20000 : Int) < (s.length : Int) by omega)] at h
    exact h
  have hlt : 0 < (brk s).length := by omega
  have hc : (brk s)[0] = 40 := rfl
  have hx := next_mark (s := brk s) (i := 0) (by omega) hlt (by rw [hc]; decide) (by rw [hc]; decide) (by rw [hc]; decide) (l := []) (by simp)
  have hf : Mks.find? (pre ((brk s).drop 0)) = some s_x28 := by
    unfold brk
    cases s with
    | nil => simp [Mks, pre, s_x7cx7c, s_x3cx3e, s_x3cx3d, s_x3ex3d, s_x28]
    | cons a r => simp [Mks, pre, s_x7cx7c, s_x3cx3e, s_x3cx3d, s_x3ex3d, s_x28]
  rw [hf] at hx
  have hx' : Ev (fun k => tr_next_2 k (brk s) ((0 : Nat) : Int) []) (putR [] ((1 : Nat) : Int) (Token.mk 4 s_x28 0 ((0 : Nat) : Int))) := hx
  have hk : skp (brk s) 0 = 0 := skp_stop hlt (by rw [hc]; decide) (by rw [hc]; intro g; exact absurd g.1 (by decide))
  obtain ⟨r2, q1, q2⟩ := scan_rel (by omega) _ 0 [] [Token.mk 4 s_x28 0 ((0 : Nat) : Int)] (Nat.zero_le _) (Nat.le_refl _) (by simp) (by simp) (fun x hx => by simp at hx) _ h1 rfl
  have w := step_next (u := brk s) (i := 0) (l := []) (by omega) (Nat.zero_le _) hk hlt hx' (by simp) q1
  have w2 : Ev (fun k => token_Scan k (brk s)) r2 := by
    unfold token_Scan
    simp only [if_neg (show ¬ (20000 : Int) < ((brk s).length : Int) by omega)]
    exact w
  refine ⟨r2, w2, q2.imp id fun ⟨z0, q, z1, z2, z3⟩ => ?_⟩
  have hu := Ev.uniq' w2 g1
  rw [hu] at z0 z2
  obtain ⟨a0, tk⟩ := g3 z0
  obtain ⟨l1, at1, e1, y1, _, y3⟩ := scan_ev s (by omega)
  have hu1 := Ev.uniq' h y1
  have e10 : e1 = 0 := (congrArg (fun x => x.2.2) hu1).symm
  have tk1 := (y3 e10).2
  have t1 : t = l1 := congrArg (fun x => x.1) hu1
  have z1' : t = q ++ [Token.mk 0 [] 0 (s.length : Int)] := z1
  have z2' : l2 = [Token.mk 4 s_x28 0 ((0 : Nat) : Int)] ++ q.map up1 ++ [Token.mk 4 s_x29 0 ((s.length + 2 : Nat) : Int), Token.mk 0 [] 0 ((s.length + 3 : Nat) : Int)] := z2
  have hlen : q.length ≤ 99997 := by
    have := tk.len
    rw [z2'] at this
    simp at this
    omega
  rw [hu]
  refine ⟨a0, z0, ?_, tk⟩
  rw [z1', z2']
  exact brk_tokens rfl ⟨rfl, rfl⟩ ⟨rfl, rfl⟩ rfl z3 hlen

/-- An expression in brackets. -/
theorem round_expr (hs : s.length ≤ 9000) {x : Expr} {at_ : Int} (h : Ev (fun k => syntax_Expr k s) (x, at_, 0)) :
    ∃ y at2 f, Ev (fun k => syntax_Expr k (brk s)) (y, at2, f) ∧ (f = 8 ∨ f = 9 ∨ (f = 0 ∧ y = x)) := by
  obtain ⟨l, a0, e0, h1, _, h3⟩ := scan_ev s (by omega)
  by_cases he : e0 = 0
  · obtain ⟨ha, ht⟩ := h3 he
    subst he
    subst ha
    obtain ⟨p1, x1, q1, _, g1, _, g3⟩ := (all_sim ht (rem l (Parser.mk l 0 0 0 0) + 1)).expr _ _ (start_sim ht) rfl (by omega)
    obtain ⟨z, z1, z2⟩ := ends g3.sim
    have P : ∀ X, Ev (fun k => (sp_now p1).bind fun r6 => if r6.Kind = 0 then (if p1.e = 0 then (some (x1, 0, 0)) else (some (Expr.mk 0 0 [] [] [] [], p1.at_, p1.e))) else ((sp_fail p1 10).bind fun r7 => if r7.e = 0 then (some (x1, 0, 0)) else (some (Expr.mk 0 0 [] [] [] [], r7.at_, r7.e)))) X → Ev (fun k => syntax_Expr k s) X := by
      intro X hX
      obtain ⟨X1, X2, X3⟩ := X
      unfold syntax_Expr syntax_read_r
      refine Ev.bind (a := (X1, X2, X3)) (Ev.bind h1 ?_) (Ev.now fun _ => rfl)
      simp only [if_true]
      unfold syntax_Expr_1
      exact Ev.bind (Ev.bind g1 (Ev.now fun _ => rfl)) hX
    have good : z.Kind = 0 ∧ p1.e = 0 ∧ x = x1 := by
      rcases z2 with ⟨k0, e0, _⟩ | ⟨k0, e0, _, _⟩ | ⟨k0, p2, _, w1, e0, _⟩
      · have := Ev.uniq' h (P (x1, 0, 0) (by simp only [z1, Option.bind_some, if_pos k0, if_pos e0]; exact Ev.now fun _ => rfl))
        exact ⟨k0, e0, congrArg (fun v => v.1) this⟩
      · have := Ev.uniq' h (P (Expr.mk 0 0 [] [] [] [], p1.at_, p1.e) (by simp only [z1, Option.bind_some, if_pos k0, if_neg e0]; exact Ev.now fun _ => rfl))
        exact absurd (congrArg (fun v => v.2.2) this).symm e0
      · have := Ev.uniq' h (P (Expr.mk 0 0 [] [] [] [], p2.at_, p2.e) (by simp only [z1, Option.bind_some, if_neg k0, w1, if_neg e0]; exact Ev.now fun _ => rfl))
        exact absurd (congrArg (fun v => v.2.2) this).symm e0
    obtain ⟨k0, e1, rfl⟩ := good
    obtain ⟨r2, w1, w2⟩ := scan_brk hs h1
    obtain ⟨u, b0, f0⟩ := r2
    rcases w2 with w2 | ⟨c1, c2, hB, hu⟩
    · have w2 : f0 = 8 := w2
      refine ⟨Expr.mk 0 0 [] [] [] [], b0, f0, ?_, .inl w2⟩
      unfold syntax_Expr syntax_read_r
      refine Ev.bind (a := (Expr.mk 0 0 [] [] [] [], b0, f0)) (Ev.bind w1 ?_) (Ev.now fun _ => rfl)
      simp only [if_neg (show ¬ f0 = 0 by rw [w2]; decide)]
      exact Ev.now fun _ => rfl
    · have c1 : b0 = 0 := c1
      have c2 : f0 = 0 := c2
      have hB : Brk l u := hB
      have hu : Toks u := hu
      subst c1
      subst c2
      obtain ⟨q, y, y1, y2⟩ := parse_round hB ht hu g1 e1 z1 k0
      obtain ⟨q', y', _, _, m1, _, m3⟩ := (all_sim hu (rem u (Parser.mk u 0 0 0 0) + 1)).expr _ _ (start_sim hu) rfl (Nat.lt_succ_self _)
      have hq : q = q' := congrArg (fun v => v.1) (Ev.uniq' y1 m1)
      subst hq
      obtain ⟨v, v1, _⟩ := now_some m3.sim
      have P2 : ∀ X, Ev (fun k => (sp_now q).bind fun r6 => if r6.Kind = 0 then (if q.e = 0 then (some (y, 0, 0)) else (some (Expr.mk 0 0 [] [] [] [], q.at_, q.e))) else ((sp_fail q 10).bind fun r7 => if r7.e = 0 then (some (y, 0, 0)) else (some (Expr.mk 0 0 [] [] [] [], r7.at_, r7.e)))) X → Ev (fun k => syntax_Expr k (brk s)) X := by
        intro X hX
        obtain ⟨X1, X2, X3⟩ := X
        unfold syntax_Expr syntax_read_r
        refine Ev.bind (a := (X1, X2, X3)) (Ev.bind w1 ?_) (Ev.now fun _ => rfl)
        simp only [if_true]
        unfold syntax_Expr_1
        exact Ev.bind (Ev.bind y1 (Ev.now fun _ => rfl)) hX
      rcases y2 with y9 | ⟨y0, yx, w, d1, d2⟩
      · have hne : ¬ q.e = 0 := by rw [y9]; decide
        have hf : sp_fail q 10 = some q := by unfold sp_fail; rw [if_neg hne]
        refine ⟨Expr.mk 0 0 [] [] [] [], q.at_, q.e, P2 _ ?_, .inr (.inl y9)⟩
        by_cases kv : v.Kind = 0
        · simp only [v1, Option.bind_some, if_pos kv, if_neg hne]; exact Ev.now fun _ => rfl
        · simp only [v1, Option.bind_some, if_neg kv, hf, if_neg hne]; exact Ev.now fun _ => rfl
      · refine ⟨y, 0, 0, P2 _ ?_, .inr (.inr ⟨rfl, yx⟩)⟩
        simp only [d1, Option.bind_some, if_pos d2, if_pos y0]; exact Ev.now fun _ => rfl
  · have : Ev (fun k => syntax_Expr k s) (Expr.mk 0 0 [] [] [] [], a0, e0) := by
      unfold syntax_Expr syntax_read_r
      refine Ev.bind (a := (Expr.mk 0 0 [] [] [] [], a0, e0)) (Ev.bind h1 ?_) (Ev.now fun _ => rfl)
      simp only [if_neg he]
      exact Ev.now fun _ => rfl
    exact absurd (congrArg (fun v => v.2.2) (Ev.uniq' h this)).symm he

end Go.Syn
