/- Plain laws of the two scanners: both read the same tokens. -/
import Derived.Test.YtoioflodpmideaaP15
namespace Go.Syn
open Go.Abs

theorem sk_suffix : ∀ u : Str, skB u <:+ u ∧ skC u <:+ u := by
  intro u
  induction u with
  | nil => simp [skB, skC]
  | cons c r ih =>
    refine ⟨?_, ?_⟩
    · rw [skB]
      split
      · exact ih.1.trans (List.suffix_cons c r)
      · split
        · exact ih.2.trans (List.suffix_cons c r)
        · exact List.suffix_refl _
    · rw [skC]
      split
      · exact ih.1.trans (List.suffix_cons c r)
      · exact ih.2.trans (List.suffix_cons c r)

theorem sk_head : ∀ u : Str, (∀ c r, skB u = c :: r → isB c = false ∧ ¬ (c = 45 ∧ r.head? = some 45)) ∧ (∀ c r, skC u = c :: r → isB c = false ∧ ¬ (c = 45 ∧ r.head? = some 45)) := by
  intro u
  induction u with
  | nil => exact ⟨fun c r h => by simp [skB] at h, fun c r h => by simp [skC] at h⟩
  | cons d q ih =>
    refine ⟨fun c r h => ?_, fun c r h => ?_⟩
    · rw [skB] at h
      split at h
      · exact ih.1 c r h
      · rename_i hb
        split at h
        · exact ih.2 c r h
        · rename_i hc
          obtain ⟨rfl, rfl⟩ := List.cons.inj h
          exact ⟨by simpa using hb, hc⟩
    · rw [skC] at h
      split at h
      · exact ih.1 c r h
      · exact ih.2 c r h

theorem skp_drop (s : Str) (i : Nat) : s.drop (skp s i) = skB (s.drop i) := by
  have h := (sk_suffix (s.drop i)).1.trans (List.drop_suffix i s)
  exact (List.suffix_iff_eq_drop.1 h).symm

theorem skp_le (s : Str) {i : Nat} (h : i ≤ s.length) : i ≤ skp s i ∧ skp s i ≤ s.length := by
  have := (sk_len (s.drop i)).1
  rw [List.length_drop] at this
  unfold skp
  omega

theorem skp_at {s : Str} {i : Nat} (h : skp s i < s.length) : isB s[skp s i] = false ∧ ¬ (s[skp s i] = 45 ∧ (s.drop (skp s i + 1)).head? = some 45) := by
  have := skp_drop s i
  rw [drop_at h] at this
  exact (sk_head _).1 _ _ this.symm

theorem k_scan (k : Nat) : (tab_r05_Scan_j2 k).k = k := by cases k <;> rfl
theorem k_scan' (k : Nat) : (tab_token_Scan_l1 k).k = k := by cases k <;> rfl

theorem ref_go {s : Str} {l : List Token} {j : Nat} {X : List Token × Int × Int} (hs : s.length ≤ 30000) (h : j < s.length) (hb : isB s[j] = false) (hc : ¬ (s[j] = 45 ∧ (s.drop (j + 1)).head? = some 45))
    (hX : Ev (fun k => r05_Scan_j2_b (tab_r05_Scan_j2 k) s l (j : Int) false) X) : Ev (fun k => r05_Scan_l1 k s l (j : Int)) X := by
  refine Ev.step ?_
  show Ev (fun k => r05_Scan_l1_b (tab_r05_Scan_j2 k) s l (j : Int)) _
  unfold r05_Scan_l1_b
  simp only [if_pos (show (j : Int) < (s.length : Int) by omega), chk_yes (show 0 ≤ (j : Int) ∧ (j : Int) < (s.length : Int) by omega), byte_at h, blank_eq, hb, Option.bind_some, Bool.false_eq_true, if_false, byteAt_at h, wrap_one (show j < 1000000 by omega)]
  by_cases h45 : (s[j].toNat : Int) = 45
  · have h45' : s[j] = 45 := UInt8.toNat_inj.1 (by show _ = 45; omega)
    simp only [if_pos h45]
    rcases Nat.lt_or_ge (j + 1) s.length with h1 | h1
    · have hn : ¬ (s[j + 1].toNat : Int) = 45 := by
        intro e
        refine hc ⟨h45', ?_⟩
        rw [drop_at h1, List.head?_cons]
        exact congrArg some (UInt8.toNat_inj.1 (by show _ = 45; omega))
      simp only [if_pos (show ((j + 1 : Nat) : Int) < (s.length : Int) by omega), chk_yes (show 0 ≤ ((j + 1 : Nat) : Int) ∧ ((j + 1 : Nat) : Int) < (s.length : Int) by omega), byteAt_at h1, decide_eq_false hn]
      exact hX
    · simp only [if_neg (show ¬ ((j + 1 : Nat) : Int) < (s.length : Int) by omega)]
      exact hX
  · simp only [if_neg h45]
    exact hX

/-- What the tokens so far are like. -/
def Good (l : List Token) : Prop := ∀ x ∈ l, (x.Kind = 1 → Wordy x.Text) ∧ (x.Kind = 4 → Marky x.Text)

theorem scan_loop (s : Str) (hs : s.length ≤ 30000) : ∀ m i : Nat, ∀ l : List Token, i ≤ s.length → s.length - i ≤ m → l.length ≤ 6000 → Good l →
    ∃ (l' : List Token) (at_ e : Int), Ev (fun k => token_Scan_l1 k s (i : Int) l s) (l', at_, e) ∧ Ev (fun k => r05_Scan_l1 k s l (i : Int)) (l', at_, e) ∧ (e = 0 → at_ = 0 ∧ Toks l') := by
  intro m
  induction m with
  | zero =>
    intro i l hi hm hl hg
    have hi' : i = s.length := by omega
    subst hi'
    have hp := pass_one s l hs s.length (Nat.le_refl _)
    rw [skp_end] at hp
    by_cases h6 : (l.length : Int) = 6000
    · refine ⟨[], (s.length : Int), 8, Ev.step ?_, Ev.step (Ev.now fun k => ?_), fun e => absurd e (by decide)⟩
      · show Ev (fun k => token_Scan_l1_b (tab_token_Scan_l1 k) s (s.length : Int) l s) _
        unfold token_Scan_l1_b
        simp only [k_scan']
        refine Ev.bind hp ?_
        simp only [if_true, put_eq _ _ _ hl, Option.bind_some, putR, if_pos h6]
        exact Ev.now fun _ => rfl
      · show r05_Scan_l1_b (tab_r05_Scan_j2 k) s l (s.length : Int) = _
        unfold r05_Scan_l1_b
        rw [if_neg (by omega), if_pos (by omega)]
    · refine ⟨l ++ [Token.mk 0 [] 0 (s.length : Int)], 0, 0, Ev.step ?_, Ev.step (Ev.now fun k => ?_), fun _ => ⟨rfl, ?_⟩⟩
      · show Ev (fun k => token_Scan_l1_b (tab_token_Scan_l1 k) s (s.length : Int) l s) _
        unfold token_Scan_l1_b
        simp only [k_scan']
        refine Ev.bind hp ?_
        simp only [if_true, put_eq _ _ _ hl, Option.bind_some, putR, if_neg h6]
        exact Ev.now fun _ => rfl
      · show r05_Scan_l1_b (tab_r05_Scan_j2 k) s l (s.length : Int) = _
        unfold r05_Scan_l1_b
        rw [if_neg (by omega), if_neg (by omega), chk_yes (cap_ok 40 (by omega) l _ (by omega))]
      · refine ⟨by simp, fun x hx => ?_, fun x hx hk => ?_, fun x hx hk => ?_, by simp; omega⟩
        · simp at hx
          rw [← hx]
        · rcases List.mem_append.1 hx with h | h
          · exact (hg x h).1 hk
          · simp at h; rw [h] at hk; first | exact absurd (show (0 : Int) = 1 from hk) (by decide) | exact absurd (show (0 : Int) = 4 from hk) (by decide)
        · rcases List.mem_append.1 hx with h | h
          · exact (hg x h).2 hk
          · simp at h; rw [h] at hk; first | exact absurd (show (0 : Int) = 1 from hk) (by decide) | exact absurd (show (0 : Int) = 4 from hk) (by decide)
  | succ m ih =>
    intro i l hi hm hl hg
    have hp := pass_one s l hs i hi
    have hle := skp_le s hi
    have hat := @skp_at s i
    have hrp := fun X => (ref_pass (X := X) s l hs _ i hi (Nat.le_refl _)).1
    generalize hj : skp s i = j at *
    rcases Nat.lt_or_ge j s.length with h | h
    · obtain ⟨hb, hc⟩ := hat h
      have hne : ¬ (j : Int) = (s.length : Int) := by omega
      rcases one_all hs h with ⟨t, e, h1, h2, h3⟩ | ⟨w, h1, h2, h3⟩
      · by_cases h6 : (l.length : Int) = 6000
        · refine ⟨[], (j : Int), 8, Ev.step ?_, hrp _ (ref_go hs h hb hc ?_), fun e => absurd e (by decide)⟩
          · show Ev (fun k => token_Scan_l1_b (tab_token_Scan_l1 k) s (i : Int) l s) _
            unfold token_Scan_l1_b
            simp only [k_scan']
            refine Ev.bind hp ?_
            simp only [if_neg hne]
            refine Ev.bind (h3 l hl) ?_
            simp only [putR, if_pos h6, h1.at_]
            exact Ev.now fun _ => rfl
          · unfold r05_Scan_j2_b
            simp only [Bool.false_eq_true, if_false, k_scan]
            refine Ev.bind h2 ?_
            simp only [if_true, if_pos (show (6000 : Int) ≤ (l.length : Int) by omega)]
            exact Ev.now fun _ => rfl
        · have hg' : Good (l ++ [t]) := by
            intro x hx
            rcases List.mem_append.1 hx with h | h
            · exact hg x h
            · simp at h; rw [h]; exact ⟨h1.word, h1.mark⟩
          have hgt := h1.gt
          have hle' := h1.le
          obtain ⟨l', at_, e', g1, g2, g3⟩ := ih e (l ++ [t]) h1.le (by omega) (by simp; omega) hg'
          refine ⟨l', at_, e', Ev.step ?_, hrp _ (ref_go hs h hb hc ?_), g3⟩
          · show Ev (fun k => token_Scan_l1_b (tab_token_Scan_l1 k) s (i : Int) l s) _
            unfold token_Scan_l1_b
            simp only [k_scan']
            refine Ev.bind hp ?_
            simp only [if_neg hne]
            refine Ev.bind (h3 l hl) ?_
            simp only [putR, if_neg h6, if_true]
            exact g1
          · unfold r05_Scan_j2_b
            simp only [Bool.false_eq_true, if_false, k_scan]
            refine Ev.bind h2 ?_
            simp only [if_true, if_neg (show ¬ (6000 : Int) ≤ (l.length : Int) by omega), chk_yes (cap_ok 40 (by omega) l t (by omega))]
            exact g2
      · refine ⟨[], (w : Int), 10, Ev.step ?_, hrp _ (ref_go hs h hb hc ?_), fun e => absurd e (by decide)⟩
        · show Ev (fun k => token_Scan_l1_b (tab_token_Scan_l1 k) s (i : Int) l s) _
          unfold token_Scan_l1_b
          simp only [k_scan']
          refine Ev.bind hp ?_
          simp only [if_neg hne]
          refine Ev.bind (h3 l hl) ?_
          exact Ev.now fun _ => rfl
        · unfold r05_Scan_j2_b
          simp only [Bool.false_eq_true, if_false, k_scan]
          refine Ev.bind h2 ?_
          exact Ev.now fun _ => rfl
    · -- nothing is left but blanks
      have hj' : j = s.length := by omega
      subst hj'
      by_cases h6 : (l.length : Int) = 6000
      · refine ⟨[], (s.length : Int), 8, Ev.step ?_, hrp _ (Ev.step (Ev.now fun k => ?_)), fun e => absurd e (by decide)⟩
        · show Ev (fun k => token_Scan_l1_b (tab_token_Scan_l1 k) s (i : Int) l s) _
          unfold token_Scan_l1_b
          simp only [k_scan']
          refine Ev.bind hp ?_
          simp only [if_true, put_eq _ _ _ hl, Option.bind_some, putR, if_pos h6]
          exact Ev.now fun _ => rfl
        · show r05_Scan_l1_b (tab_r05_Scan_j2 k) s l (s.length : Int) = _
          unfold r05_Scan_l1_b
          rw [if_neg (by omega), if_pos (by omega)]
      · refine ⟨l ++ [Token.mk 0 [] 0 (s.length : Int)], 0, 0, Ev.step ?_, hrp _ (Ev.step (Ev.now fun k => ?_)), fun _ => ⟨rfl, ?_⟩⟩
        · show Ev (fun k => token_Scan_l1_b (tab_token_Scan_l1 k) s (i : Int) l s) _
          unfold token_Scan_l1_b
          simp only [k_scan']
          refine Ev.bind hp ?_
          simp only [if_true, put_eq _ _ _ hl, Option.bind_some, putR, if_neg h6]
          exact Ev.now fun _ => rfl
        · show r05_Scan_l1_b (tab_r05_Scan_j2 k) s l (s.length : Int) = _
          unfold r05_Scan_l1_b
          rw [if_neg (by omega), if_neg (by omega), chk_yes (cap_ok 40 (by omega) l _ (by omega))]
        · refine ⟨by simp, fun x hx => ?_, fun x hx hk => ?_, fun x hx hk => ?_, by simp; omega⟩
          · simp at hx
            rw [← hx]
          · rcases List.mem_append.1 hx with h | h
            · exact (hg x h).1 hk
            · simp at h; rw [h] at hk; first | exact absurd (show (0 : Int) = 1 from hk) (by decide) | exact absurd (show (0 : Int) = 4 from hk) (by decide)
          · rcases List.mem_append.1 hx with h | h
            · exact (hg x h).2 hk
            · simp at h; rw [h] at hk; first | exact absurd (show (0 : Int) = 1 from hk) (by decide) | exact absurd (show (0 : Int) = 4 from hk) (by decide)

/-- Both scan a text alike. -/
theorem scan_ev (s : Str) (hs : s.length ≤ 30000) : ∃ (l : List Token) (at_ e : Int), Ev (fun k => token_Scan k s) (l, at_, e) ∧ Ev (fun k => r05_Scan k s) (l, at_, e) ∧ (e = 0 → at_ = 0 ∧ Toks l) := by
  by_cases h : (20000 : Int) < (s.length : Int)
  · refine ⟨[], 0, 8, ?_, ?_, fun e => absurd e (by decide)⟩
    · unfold token_Scan; simp only [if_pos h]; exact Ev.now fun _ => rfl
    · unfold r05_Scan; simp only [if_pos h]; exact Ev.now fun _ => rfl
  · obtain ⟨l, at_, e, h1, h2, h3⟩ := scan_loop s hs _ 0 [] (Nat.zero_le _) (Nat.le_refl _) (by simp) (fun x hx => by simp at hx)
    refine ⟨l, at_, e, ?_, ?_, h3⟩
    · unfold token_Scan; simp only [if_neg h]; exact h1
    · unfold r05_Scan; simp only [if_neg h]; exact h2

end Go.Syn
