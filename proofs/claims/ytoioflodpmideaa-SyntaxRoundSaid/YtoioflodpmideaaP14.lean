/- Plain laws of the two scanners: a text between quotes, and marks. -/
import Derived.Test.YtoioflodpmideaaP13
namespace Go.Syn
open Go.Abs

variable {s : Str} {i : Nat}

theorem capb {l : List UInt8} {x : UInt8} (h : l.length ≤ 1000000) : CapOk 1 l [x] := cap_ok 1 (by omega) l x h

theorem u8_int {c : UInt8} {n : UInt8} : ((c.toNat : Int) = (n.toNat : Int)) = (c = n) := by
  apply propext
  constructor
  · intro e; exact UInt8.toNat_inj.1 (by omega)
  · intro e; rw [e]

theorem quote_prefix {j : Nat} (h : j < s.length) (hq : s[j] = 39) : (decide ((s.drop j).take s_x27x27.length = s_x27x27)) = decide ((s.drop (j + 1)).head? = some 39) := by
  rw [decide_eq_decide, drop_at h]
  unfold s_x27x27
  cases e : s.drop (j + 1) with
  | nil => simp
  | cons d r => simp [hq]

/-- The two loops over a text. -/
theorem text_ev (hs : s.length ≤ 30000) (a : Nat) (ha : a < s.length) : ∀ m j : Nat, ∀ acc : List UInt8, a < j → j ≤ s.length → acc.length ≤ j → s.length - j ≤ m →
    (∃ (e : Nat) (x : Str), a < e ∧ e ≤ s.length ∧ Ev (fun k => r05_text_l1 k s (a : Int) acc (j : Int)) ((e : Int), x, 0, 0) ∧ ∀ l : List Token, l.length ≤ 6000 → Ev (fun k => tr_text_2_l4 k s (j : Int) l acc (a : Int)) (putR l (e : Int) (Token.mk 3 x 0 (a : Int)))) ∨
    (∃ w : Nat, w ≤ s.length ∧ Ev (fun k => r05_text_l1 k s (a : Int) acc (j : Int)) (0, [], (w : Int), 10) ∧ ∀ l : List Token, l.length ≤ 6000 → Ev (fun k => tr_text_2_l4 k s (j : Int) l acc (a : Int)) ((w : Int), l, 10)) := by
  intro m
  induction m with
  | zero =>
    intro j acc haj hj hacc hm
    have : j = s.length := by omega
    subst this
    refine .inr ⟨a, by omega, Ev.step (Ev.now fun k => ?_), fun l hl => Ev.step (Ev.now fun k => ?_)⟩
    · show r05_text_l1_b (tab_r05_text_j2 k) s (a : Int) acc (s.length : Int) = _
      unfold r05_text_l1_b
      rw [if_neg (by omega)]
    · show tr_text_2_l4_b (tab_tr_text_2_j3 k) s (s.length : Int) l acc (a : Int) = _
      unfold tr_text_2_l4_b
      rw [if_neg (by omega)]
      rfl
  | succ m ih =>
    intro j acc haj hj hacc hm
    refine (Nat.lt_or_ge j s.length).elim (fun h => ?_) (fun h => ih j acc haj hj hacc (by omega))
    have hchk : 0 ≤ (j : Int) ∧ (j : Int) < (s.length : Int) := by omega
    have hlt : (j : Int) < (s.length : Int) := by omega
    -- a fault at once
    by_cases hbad : (s[j].toNat : Int) < 32 ∧ ¬ (s[j].toNat : Int) = 10
    · refine .inr ⟨j, hj, Ev.step ?_, fun l hl => Ev.step ?_⟩
      · show Ev (fun k => r05_text_l1_b (tab_r05_text_j2 k) s (a : Int) acc (j : Int)) _
        unfold r05_text_l1_b
        simp only [if_pos hlt, chk_yes hchk, byteAt_at h, if_pos hbad.1, decide_eq_false hbad.2, Bool.not_false]
        unfold r05_text_j2_b
        simp only [if_true]
        exact Ev.now fun _ => rfl
      · show Ev (fun k => tr_text_2_l4_b (tab_tr_text_2_j3 k) s (j : Int) l acc (a : Int)) _
        unfold tr_text_2_l4_b
        simp only [if_pos hlt, chk_yes hchk, byteAt_at h, if_pos hbad.1, decide_eq_false hbad.2, Bool.not_false]
        unfold tr_text_2_j5_b
        simp only [if_true]
        exact Ev.now fun _ => rfl
    · have R : ∀ Y, Ev (fun k => r05_text_j2_b (tab_r05_text_j2 k) s (a : Int) acc (j : Int) false) Y → Ev (fun k => r05_text_l1 k s (a : Int) acc (j : Int)) Y := by
        intro Y hY
        refine Ev.step ?_
        show Ev (fun k => r05_text_l1_b (tab_r05_text_j2 k) s (a : Int) acc (j : Int)) _
        unfold r05_text_l1_b
        simp only [if_pos hlt, chk_yes hchk, byteAt_at h]
        by_cases h32 : (s[j].toNat : Int) < 32
        · have h10 : (s[j].toNat : Int) = 10 := Decidable.byContradiction fun e => hbad ⟨h32, e⟩
          simp only [if_pos h32, decide_eq_true h10, Bool.not_true]
          exact hY
        · simp only [if_neg h32]
          exact hY
      have P : ∀ l Y, Ev (fun k => tr_text_2_j5_b (tab_tr_text_2_j3 k) s (j : Int) l acc (a : Int) s[j] false) Y → Ev (fun k => tr_text_2_l4 k s (j : Int) l acc (a : Int)) Y := by
        intro l Y hY
        refine Ev.step ?_
        show Ev (fun k => tr_text_2_l4_b (tab_tr_text_2_j3 k) s (j : Int) l acc (a : Int)) _
        unfold tr_text_2_l4_b
        simp only [if_pos hlt, chk_yes hchk, byteAt_at h, byte_at h]
        by_cases h32 : (s[j].toNat : Int) < 32
        · have h10 : (s[j].toNat : Int) = 10 := Decidable.byContradiction fun e => hbad ⟨h32, e⟩
          simp only [if_pos h32, decide_eq_true h10, Bool.not_true]
          exact hY
        · simp only [if_neg h32]
          exact hY
      have hw1 := wrap_one (show j < 1000000 by omega)
      by_cases hq : s[j] = 39
      · have hqi : (s[j].toNat : Int) = 39 := by rw [hq]; rfl
        -- what the reference asks
        have R2 : ∀ Y, Ev (fun k => r05_text_j3_b (tab_r05_text_j2 k) s (a : Int) acc (j : Int) (decide ((s.drop (j + 1)).head? = some 39))) Y → Ev (fun k => r05_text_j2_b (tab_r05_text_j2 k) s (a : Int) acc (j : Int) false) Y := by
          intro Y hY
          unfold r05_text_j2_b
          simp only [Bool.false_eq_true, if_false, chk_yes hchk, byteAt_at h, if_pos hqi, hw1]
          rcases Nat.lt_or_ge (j + 1) s.length with h1 | h1
          · have hd : decide ((s.drop (j + 1)).head? = some 39) = decide ((s[j + 1].toNat : Int) = 39) := by
              rw [decide_eq_decide, drop_at h1, List.head?_cons, Option.some.injEq]
              exact (iff_of_eq (u8_int (c := s[j + 1]) (n := 39))).symm
            rw [hd] at hY
            simp only [if_pos (show ((j + 1 : Nat) : Int) < (s.length : Int) by omega), chk_yes (show 0 ≤ ((j + 1 : Nat) : Int) ∧ ((j + 1 : Nat) : Int) < (s.length : Int) by omega), byteAt_at h1]
            exact hY
          · have hd : decide ((s.drop (j + 1)).head? = some 39) = false := by
              rw [List.drop_of_length_le h1]; rfl
            rw [hd] at hY
            simp only [if_neg (show ¬ ((j + 1 : Nat) : Int) < (s.length : Int) by omega)]
            exact hY
        have P2 : ∀ l Y, Ev (fun k => if ((s.drop (j + 1)).head? = some 39) then ((sb_WriteByte_2 acc s[j]).bind fun r2 => (tab_tr_text_2_j3 k).tr_text_2_j3 s ((j + 1 : Nat) : Int) l r2 (a : Int)) else ((sb_Len_2 acc).bind fun r2 => if 1000 < r2 then ( (tr_form_2 s ((j + 1 : Nat) : Int) l (a : Int)).bind fun (r3, r4) => some (r3, l, r4) ) else ( (sb_String_2 acc).bind fun r3 => (tr_put_2 s ((j + 1 : Nat) : Int) l (Token.mk 3 r3 0 (a : Int))).bind fun (r4, r5, r6) => some (r4, r5, r6) ))) Y → Ev (fun k => tr_text_2_j5_b (tab_tr_text_2_j3 k) s (j : Int) l acc (a : Int) s[j] false) Y := by
          intro l Y hY
          unfold tr_text_2_j5_b
          simp only [Bool.false_eq_true, if_false, if_pos hqi, chk_yes (show 0 ≤ (j : Int) ∧ (j : Int) ≤ (s.length : Int) ∧ (s.length : Int) ≤ (s.length : Int) by omega), sub_end, prefix_eq, Option.bind_some, quote_prefix h hq, hw1, decide_eq_true_eq]
          exact hY
        by_cases hh : (s.drop (j + 1)).head? = some 39
        · have h1 : j + 1 < s.length := by
            rcases Nat.lt_or_ge (j + 1) s.length with h1 | h1
            · exact h1
            · rw [List.drop_of_length_le h1] at hh; simp at hh
          have hcap := capb (l := acc) (x := 39) (by omega)
          have r2 : ∀ Y, Ev (fun k => r05_text_l1 k s (a : Int) (acc ++ [39]) ((j + 2 : Nat) : Int)) Y → Ev (fun k => r05_text_l1 k s (a : Int) acc (j : Int)) Y := by
            intro Y hY
            refine R Y (R2 Y ?_)
            unfold r05_text_j3_b r05_text_j4_b
            simp only [decide_eq_true hh, if_true, chk_yes hcap, hw1, wrap_one (show j + 1 < 1000000 by omega)]
            exact hY
          have p2 : ∀ l Y, Ev (fun k => tr_text_2_l4 k s ((j + 2 : Nat) : Int) l (acc ++ [39]) (a : Int)) Y → Ev (fun k => tr_text_2_l4 k s (j : Int) l acc (a : Int)) Y := by
            intro l Y hY
            refine P l Y (P2 l Y ?_)
            have hb : sb_WriteByte_2 acc s[j] = some (acc ++ [39]) := by
              unfold sb_WriteByte_2
              rw [hq]
              show Go.Abs.chk _ _ = _
              rw [chk_yes hcap]
            simp only [if_pos hh, hb, Option.bind_some]
            refine Ev.step ?_
            show Ev (fun k => tr_text_2_j3_b (tab_tr_text_2_j3 k) s ((j + 1 : Nat) : Int) l (acc ++ [39]) (a : Int)) _
            unfold tr_text_2_j3_b
            simp only [wrap_one (show j + 1 < 1000000 by omega)]
            exact hY
          rcases ih (j + 2) (acc ++ [39]) (by omega) (by omega) (by simp; omega) (by omega) with ⟨e, x, e1, e2, e3, e4⟩ | ⟨w, w1, w2, w3⟩
          · exact .inl ⟨e, x, e1, e2, r2 _ e3, fun l hl => p2 l _ (e4 l hl)⟩
          · exact .inr ⟨w, w1, r2 _ w2, fun l hl => p2 l _ (w3 l hl)⟩
        · have r3 : ∀ Y, Ev (fun _ => if 1000 < (acc.length : Int) then (some (0, [], (a : Int), 10)) else (some (((j + 1 : Nat) : Int), acc, 0, 0))) Y → Ev (fun k => r05_text_l1 k s (a : Int) acc (j : Int)) Y := by
            intro Y hY
            refine R Y (R2 Y ?_)
            unfold r05_text_j3_b
            simp only [decide_eq_false hh, Bool.false_eq_true, if_false, hw1]
            exact hY
          have hlen : sb_Len_2 acc = some (acc.length : Int) := rfl
          have hstr : sb_String_2 acc = some acc := by
            unfold sb_String_2
            rw [chk_yes (by unfold maxLen; omega)]
          by_cases h1000 : 1000 < (acc.length : Int)
          · refine .inr ⟨a, by omega, r3 _ ?_, fun l hl => P l _ (P2 l _ ?_)⟩
            · simp only [if_pos h1000]; exact Ev.now fun _ => rfl
            · simp only [if_neg hh, hlen, Option.bind_some, if_pos h1000]
              exact Ev.now fun _ => rfl
          · refine .inl ⟨j + 1, acc, by omega, by omega, r3 _ ?_, fun l hl => P l _ (P2 l _ ?_)⟩
            · simp only [if_neg h1000]; exact Ev.now fun _ => rfl
            · simp only [if_neg hh, hlen, hstr, Option.bind_some, if_neg h1000, put_eq _ _ _ hl]
              exact Ev.now fun _ => rfl
      · have hqi : ¬ (s[j].toNat : Int) = 39 := fun e => hq (UInt8.toNat_inj.1 (by show _ = 39; omega))
        have hcap := capb (l := acc) (x := s[j]) (by omega)
        have r2 : ∀ Y, Ev (fun k => r05_text_l1 k s (a : Int) (acc ++ [s[j]]) ((j + 1 : Nat) : Int)) Y → Ev (fun k => r05_text_l1 k s (a : Int) acc (j : Int)) Y := by
          intro Y hY
          refine R Y ?_
          unfold r05_text_j2_b r05_text_j4_b
          simp only [Bool.false_eq_true, if_false, chk_yes hchk, byteAt_at h, byte_at h, if_neg hqi, chk_yes hcap, hw1]
          exact hY
        have p2 : ∀ l Y, Ev (fun k => tr_text_2_l4 k s ((j + 1 : Nat) : Int) l (acc ++ [s[j]]) (a : Int)) Y → Ev (fun k => tr_text_2_l4 k s (j : Int) l acc (a : Int)) Y := by
          intro l Y hY
          refine P l Y ?_
          have hb : sb_WriteByte_2 acc s[j] = some (acc ++ [s[j]]) := by
            unfold sb_WriteByte_2
            show Go.Abs.chk _ _ = _
            rw [chk_yes hcap]
          unfold tr_text_2_j5_b
          simp only [Bool.false_eq_true, if_false, if_neg hqi, hb, Option.bind_some]
          refine Ev.step ?_
          show Ev (fun k => tr_text_2_j3_b (tab_tr_text_2_j3 k) s (j : Int) l (acc ++ [s[j]]) (a : Int)) _
          unfold tr_text_2_j3_b
          simp only [hw1]
          exact hY
        rcases ih (j + 1) (acc ++ [s[j]]) (by omega) (by omega) (by simp; omega) (by omega) with ⟨e, x, e1, e2, e3, e4⟩ | ⟨w, w1, w2, w3⟩
        · exact .inl ⟨e, x, e1, e2, r2 _ e3, fun l hl => p2 l _ (e4 l hl)⟩
        · exact .inr ⟨w, w1, r2 _ w2, fun l hl => p2 l _ (w3 l hl)⟩

theorem one_text (hs : s.length ≤ 30000) (h : i < s.length) (hl : isL s[i] = false) (hd : isD s[i] = false) (hq : s[i] = 39) : One s i := by
  have hqi : (s[i].toNat : Int) = 39 := by rw [hq]; rfl
  have hw1 := wrap_one (show i < 1000000 by omega)
  have R : ∀ k, r05_one k s (i : Int) = (r05_text_l1 k s (i : Int) [] ((i + 1 : Nat) : Int)).bind fun (r1, r2, r3, r4) => if r4 = 0 then (some ((Token.mk 3 r2 0 (i : Int)), r1, 0, 0)) else (some ((Token.mk 0 [] 0 0), 0, r3, r4)) := by
    intro k
    rw [one_split h, hl, if_neg (by decide), hd]
    unfold r05_one_j1 r05_text
    rw [if_neg (by decide), chk_yes (by omega), byteAt_at h, if_pos hqi, hw1]
  have P : ∀ k l, tr_next_2 k s (i : Int) l = tr_text_2_l4 (k + 1) s ((i + 1 : Nat) : Int) l [] (i : Int) := by
    intro k l
    rw [next_split h, hl, hd, if_neg (by decide), if_neg (by decide), if_pos hq]
    unfold tr_text_2
    rw [hw1]
    rfl
  rcases text_ev hs i h _ (i + 1) [] (by omega) (by omega) (by simp) (Nat.le_refl _) with ⟨e, x, e1, e2, e3, e4⟩ | ⟨w, w1, w2, w3⟩
  · refine .inl ⟨Token.mk 3 x 0 (i : Int), e, ⟨e1, e2, rfl, show (3 : Int) ≠ 0 by decide, fun hk => absurd (show (3 : Int) = 1 from hk) (by decide), fun hk => absurd (show (3 : Int) = 4 from hk) (by decide)⟩, ?_, fun l hl' => ?_⟩
    · simp only [R]
      exact Ev.bind e3 (Ev.now fun _ => rfl)
    · simp only [P]
      obtain ⟨K, hK⟩ := e4 l hl'
      exact ⟨K, fun k hk => hK (k + 1) (by omega)⟩
  · refine .inr ⟨w, w1, ?_, fun l hl' => ?_⟩
    · simp only [R]
      exact Ev.bind w2 (Ev.now fun _ => rfl)
    · simp only [P]
      obtain ⟨K, hK⟩ := w3 l hl'
      exact ⟨K, fun k hk => hK (k + 1) (by omega)⟩

end Go.Syn
