/- Plain laws of the two scanners: bytes, what is passed over. -/
import Derived.Test.YtoioflodpmideaaP10
namespace Go.Syn
open Go.Abs

def isD (c : UInt8) : Bool := 48 ≤ c && c ≤ 57
def isB (c : UInt8) : Bool := c == 32 || c == 9 || c == 10 || c == 13

theorem le_int (a c : UInt8) : decide (a ≤ c) = decide ((a.toNat : Int) ≤ (c.toNat : Int)) := by
  rw [decide_eq_decide, UInt8.le_iff_toNat_le]; omega

theorem beq_int (a c : UInt8) : (c == a) = decide ((c.toNat : Int) = (a.toNat : Int)) := by
  rw [Bool.eq_iff_iff, beq_iff_eq, decide_eq_true_iff]
  constructor
  · rintro rfl; rfl
  · intro h; exact UInt8.toNat_inj.1 (by omega)

theorem digit_eq (c : UInt8) : token_digit c = some (isD c) := by
  unfold token_digit isD
  rw [le_int 48 c, le_int c 57]
  show (if (48 : Int) ≤ (c.toNat : Int) then _ else _) = some (decide ((48 : Int) ≤ (c.toNat : Int)) && decide ((c.toNat : Int) ≤ 57))
  by_cases h : (48 : Int) ≤ (c.toNat : Int) <;> simp [h]

theorem digit_eq' (c : UInt8) : r05_digit c = some (isD c) := digit_eq c

theorem letter_eq (c : UInt8) : token_letter c = some (isL c) := by
  unfold token_letter isL
  rw [le_int 97 c, le_int c 122, le_int 65 c, le_int c 90, beq_int 95 c]
  show _ = some ((decide ((97 : Int) ≤ (c.toNat : Int)) && decide ((c.toNat : Int) ≤ 122)) || (decide ((65 : Int) ≤ (c.toNat : Int)) && decide ((c.toNat : Int) ≤ 90)) || decide ((c.toNat : Int) = 95))
  by_cases h1 : (97 : Int) ≤ (c.toNat : Int) <;> by_cases h2 : (c.toNat : Int) ≤ 122 <;> by_cases h3 : (65 : Int) ≤ (c.toNat : Int) <;> by_cases h4 : (c.toNat : Int) ≤ 90 <;> simp [h1, h2, h3, h4]

theorem letter_eq' (c : UInt8) : r05_letter c = some (isL c) := letter_eq c

theorem blank_eq (c : UInt8) : r05_blank c = some (isB c) := by
  unfold r05_blank isB
  rw [beq_int 32 c, beq_int 9 c, beq_int 10 c, beq_int 13 c]
  show _ = some (decide ((c.toNat : Int) = 32) || decide ((c.toNat : Int) = 9) || decide ((c.toNat : Int) = 10) || decide ((c.toNat : Int) = 13))
  by_cases h1 : (c.toNat : Int) = 32
  · simp [h1]
  by_cases h2 : (c.toNat : Int) = 9
  · simp [h2]
  by_cases h3 : (c.toNat : Int) = 10
  · simp [h3]
  simp [h1, h2, h3]

theorem blank_idx (c : UInt8) : decide (0 ≤ idxByte s_x20x09x0ax0d c) = isB c := by
  unfold idxByte s_x20x09x0ax0d isB
  by_cases h1 : c = 32
  · subst h1; decide
  by_cases h2 : c = 9
  · subst h2; decide
  by_cases h3 : c = 10
  · subst h3; decide
  by_cases h4 : c = 13
  · subst h4; decide
  have e1 : ¬ (32 : UInt8) = c := fun e => h1 e.symm
  have e2 : ¬ (9 : UInt8) = c := fun e => h2 e.symm
  have e3 : ¬ (10 : UInt8) = c := fun e => h3 e.symm
  have e4 : ¬ (13 : UInt8) = c := fun e => h4 e.symm
  simp [Lib.indexByte, h1, h2, h3, h4, e1, e2, e3, e4]

theorem byte_at {s : Str} {i : Nat} (h : i < s.length) : u8At s (i : Int) = s[i] := by
  unfold u8At
  rw [Int.toNat_natCast, List.getD_eq_getElem?_getD, List.getElem?_eq_getElem h]; rfl

theorem byteAt_at {s : Str} {i : Nat} (h : i < s.length) : byteAt s (i : Int) = (s[i].toNat : Int) := by
  unfold byteAt; rw [byte_at h]

theorem sub_end (s : Str) (i : Nat) : sub s (i : Int) (s.length : Int) = s.drop i := by
  unfold sub
  rw [Int.toNat_natCast, Int.toNat_natCast, List.take_of_length_le (by simp)]

theorem sub_nat (s : Str) (i j : Nat) : sub s (i : Int) (j : Int) = (s.drop i).take (j - i) := by
  unfold sub
  rw [Int.toNat_natCast, Int.toNat_natCast]

theorem wrap_nat {i : Nat} {m : Nat} (h : i < 1000000) (hm : m < 1000000) : IntKind.i64.wrap ((i : Int) + (m : Int)) = ((i + m : Nat) : Int) := by rw [wrap_eq (by omega) (by omega)]; omega
theorem wrap_one {i : Nat} (h : i < 1000000) : IntKind.i64.wrap ((i : Int) + 1) = ((i + 1 : Nat) : Int) := by rw [wrap_eq (by omega) (by omega)]; omega

theorem prefix_eq (u v : Str) : strings_HasPrefix u v = some (decide (u.take v.length = v)) := by
  unfold strings_HasPrefix isl_HasPrefix
  by_cases h : v.length ≤ u.length
  · have h0 := sub_nat u 0 v.length
    simp only [Int.natCast_zero, List.drop_zero, Nat.sub_zero] at h0
    simp only [if_pos (show (v.length : Int) ≤ (u.length : Int) by omega), h0]
    unfold chk
    rw [if_pos ⟨by omega, by omega, by omega⟩]
    rfl
  · rw [if_neg (by omega)]
    have : ¬ u.take v.length = v := fun e => by
      have := congrArg List.length e
      simp at this; omega
    simp [this]

/- What is passed over. -/
mutual
def skB : Str → Str
  | [] => []
  | c :: r => if isB c = true then skB r else if c = 45 ∧ r.head? = some 45 then skC r else c :: r
def skC : Str → Str
  | [] => []
  | c :: r => if c = 10 then skB r else skC r
end

theorem skC_idx : ∀ (u : Str), skC u = if 0 ≤ idxByte u 10 then skB (u.drop ((idxByte u 10).toNat + 1)) else [] := by
  intro u
  induction u with
  | nil => simp [skC, Lib.indexByte]
  | cons c r ih =>
    by_cases h : c = 10
    · subst h
      simp [skC, Lib.indexByte]
    · rw [skC, if_neg h, ih]
      have hge := Lib.indexByte_ge r 10
      have e : idxByte (c :: r) 10 = if 0 ≤ idxByte r 10 then idxByte r 10 + 1 else -1 := by
        unfold idxByte
        have h' : ¬ (c == 10) = true := by simpa using h
        simp only [Lib.indexByte]
        split <;> simp_all <;> omega
      rw [e]
      by_cases h2 : 0 ≤ idxByte r 10
      · rw [if_pos h2, if_pos h2, if_pos (by omega)]
        have : (idxByte r 10 + 1).toNat = (idxByte r 10).toNat + 1 := by omega
        rw [this]
        rfl
      · rw [if_neg h2, if_neg h2, if_neg (by omega)]

theorem idx_at10 : ∀ (u : Str), 0 ≤ idxByte u 10 → ∃ r, u.drop (idxByte u 10).toNat = 10 :: r ∧ (idxByte u 10).toNat < u.length := by
  intro u
  induction u with
  | nil => intro h; simp [Lib.indexByte] at h
  | cons c r ih =>
    intro h
    by_cases hc : c = 10
    · subst hc
      exact ⟨r, by simp [Lib.indexByte], by simp [Lib.indexByte]⟩
    · have e : idxByte (c :: r) 10 = if 0 ≤ idxByte r 10 then idxByte r 10 + 1 else -1 := by
        unfold idxByte
        have h' : ¬ (c == 10) = true := by simpa using hc
        have hge := Lib.indexByte_ge r 10
        simp only [Lib.indexByte]
        split <;> simp_all <;> omega
      rw [e] at h
      by_cases h2 : 0 ≤ idxByte r 10
      · obtain ⟨q, h3, h4⟩ := ih h2
        rw [e, if_pos h2]
        have : (idxByte r 10 + 1).toNat = (idxByte r 10).toNat + 1 := by omega
        rw [this]
        exact ⟨q, by simpa using h3, by simp; omega⟩
      · rw [if_neg h2] at h; omega

theorem sk_len : ∀ (u : Str), (skB u).length ≤ u.length ∧ (skC u).length ≤ u.length := by
  intro u
  induction u with
  | nil => simp [skB, skC]
  | cons c r ih =>
    refine ⟨?_, ?_⟩
    · rw [skB]
      split
      · simp; omega
      · split
        · simp; omega
        · simp
    · rw [skC]
      split <;> simp <;> omega

/-- The place behind what is passed over. -/
def skp (s : Str) (i : Nat) : Nat := s.length - (skB (s.drop i)).length

theorem chk_yes {α : Type} {p : Prop} [Decidable p] {x : Option α} (h : p) : chk p x = x := if_pos h

theorem skp_end (s : Str) : skp s s.length = s.length := by
  unfold skp; rw [List.drop_length]; rfl

theorem drop_at {s : Str} {i : Nat} (h : i < s.length) : s.drop i = s[i] :: s.drop (i + 1) := List.drop_eq_getElem_cons h

theorem skB_blank {s : Str} {i : Nat} (h : i < s.length) (hb : isB s[i] = true) : skB (s.drop i) = skB (s.drop (i + 1)) := by
  rw [drop_at h, skB, if_pos hb]

theorem skB_note {s : Str} {i : Nat} (h : i < s.length) (hb : isB s[i] = false) (hc : s[i] = 45 ∧ (s.drop (i + 1)).head? = some 45) : skB (s.drop i) = skC (s.drop i) := by
  rw [drop_at h, skB, if_neg (by simp [hb]), if_pos hc, skC, if_neg (by rw [hc.1]; decide)]

theorem skp_stop {s : Str} {i : Nat} (h : i < s.length) (hb : isB s[i] = false) (hc : ¬ (s[i] = 45 ∧ (s.drop (i + 1)).head? = some 45)) : skp s i = i := by
  unfold skp
  have : skB (s.drop i) = s.drop i := by
    rw [drop_at h, skB, if_neg (by simp [hb]), if_neg hc]
  rw [this, List.length_drop]; omega

theorem note_prefix {s : Str} {i : Nat} (h : i < s.length) : (decide ((s.drop i).take s_x2dx2d.length = s_x2dx2d)) = decide (s[i] = 45 ∧ (s.drop (i + 1)).head? = some 45) := by
  rw [decide_eq_decide, drop_at h]
  unfold s_x2dx2d
  cases e : s.drop (i + 1) with
  | nil => simp
  | cons d r => simp

theorem pass_ev (s : Str) (l : List Token) (hs : s.length ≤ 30000) : ∀ m i : Nat, i ≤ s.length → s.length - i ≤ m → Ev (fun k => tr_pass_2_l2 k s (i : Int) l) ((skp s i : Nat) : Int) := by
  intro m
  induction m with
  | zero =>
    intro i hi hm
    have hi' : i = s.length := by omega
    subst hi'
    refine Ev.step (Ev.now fun k => ?_)
    show tr_pass_2_l2_b (tab_tr_pass_2_j3 k) s (s.length : Int) l = _
    unfold tr_pass_2_l2_b
    rw [if_neg (by omega)]
    unfold tr_pass_2_j3_b
    have hp : strings_HasPrefix (sub s (s.length : Int) (s.length : Int)) s_x2dx2d = some false := by
      rw [sub_end, prefix_eq, List.drop_length]; rfl
    rw [if_neg (by decide), chk_yes ⟨by omega, by omega, by omega⟩, hp, Option.bind_some, if_neg (by decide), skp_end]
  | succ m ih =>
    intro i hi hm
    rcases Nat.lt_or_ge i s.length with hlt | hge
    · refine Ev.step ?_
      show Ev (fun k => tr_pass_2_l2_b (tab_tr_pass_2_j3 k) s (i : Int) l) _
      have hx : strings_IndexByte s_x20x09x0ax0d (u8At s (i : Int)) = some (idxByte s_x20x09x0ax0d s[i]) := by
        rw [byte_at hlt]; rfl
      unfold tr_pass_2_l2_b
      simp only [if_pos (show (i : Int) < (s.length : Int) by omega), chk_yes (show 0 ≤ (i : Int) ∧ (i : Int) < (s.length : Int) by omega), hx, Option.bind_some, blank_idx]
      unfold tr_pass_2_j3_b
      cases hb : isB s[i] with
      | true =>
        simp only [if_true, wrap_one (show i < 1000000 by omega)]
        have : skp s i = skp s (i + 1) := by unfold skp; rw [skB_blank hlt hb]
        rw [this]
        exact ih (i + 1) (by omega) (by omega)
      | false =>
        simp only [Bool.false_eq_true, if_false, chk_yes (show 0 ≤ (i : Int) ∧ (i : Int) ≤ (s.length : Int) ∧ (s.length : Int) ≤ (s.length : Int) by omega), sub_end, prefix_eq, Option.bind_some, note_prefix hlt, decide_eq_true_eq]
        by_cases hc : s[i] = 45 ∧ (s.drop (i + 1)).head? = some 45
        · have hx2 : strings_IndexByte (s.drop i) 10 = some (idxByte (s.drop i) 10) := rfl
          simp only [if_pos hc, hx2, Option.bind_some]
          have hskp : skp s i = s.length - (skC (s.drop i)).length := by unfold skp; rw [skB_note hlt hb hc]
          by_cases h0 : 0 ≤ idxByte (s.drop i) 10
          · simp only [if_pos h0]
            obtain ⟨r, h1, h2⟩ := idx_at10 (s.drop i) h0
            have h3 : (idxByte (s.drop i) 10).toNat ≠ 0 := by
              intro e
              rw [e, List.drop_zero, drop_at hlt] at h1
              have := (List.cons.inj h1).1
              rw [hc.1] at this
              exact absurd this (by decide)
            rw [List.length_drop] at h2
            generalize hn : (idxByte (s.drop i) 10).toNat = n at *
            have hn' : idxByte (s.drop i) 10 = (n : Int) := by omega
            simp only [hn', wrap_nat (show i < 1000000 by omega) (show n < 1000000 by omega)]
            have e : skp s i = skp s (i + n) := by
              rw [hskp, skC_idx, if_pos h0, hn]
              unfold skp
              rw [List.drop_drop] at h1
              have h4 : skB (s.drop (i + n)) = skB r := by rw [h1]; simp [skB, isB]
              have h5 : r = (s.drop i).drop (n + 1) := by
                rw [List.drop_drop, ← Nat.add_assoc, ← List.drop_drop, h1]; rfl
              rw [h4, h5]
            rw [e]
            refine Ev.step ?_
            show Ev (fun k => tr_pass_2_l1_b (tab_tr_pass_2_j3 k) s ((i + n : Nat) : Int) l) _
            unfold tr_pass_2_l1_b
            exact ih (i + n) (by omega) (by omega)
          · simp only [if_neg h0]
            rw [hskp, skC_idx, if_neg h0]
            exact Ev.now fun _ => by simp
        · simp only [if_neg hc, skp_stop hlt hb hc]
          exact Ev.now fun _ => rfl
    · have hi' : i = s.length := by omega
      exact ih i hi (by omega)

theorem pass_one (s : Str) (l : List Token) (hs : s.length ≤ 30000) (i : Nat) (hi : i ≤ s.length) : Ev (fun k => tr_pass_2 k s (i : Int) l) ((skp s i : Nat) : Int) := by
  unfold tr_pass_2
  refine Ev.step ?_
  show Ev (fun k => tr_pass_2_l1_b (tab_tr_pass_2_j3 k) s (i : Int) l) _
  unfold tr_pass_2_l1_b
  exact pass_ev s l hs _ i hi (Nat.le_refl _)

end Go.Syn
