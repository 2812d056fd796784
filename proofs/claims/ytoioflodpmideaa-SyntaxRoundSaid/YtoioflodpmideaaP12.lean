/- Plain laws of the two scanners: the reference passes over the same; runs of letters and digits. -/
import Derived.Test.YtoioflodpmideaaP11
namespace Go.Syn
open Go.Abs

def skq (s : Str) (i : Nat) : Nat := s.length - (skC (s.drop i)).length

theorem skq_end (s : Str) : skq s s.length = s.length := by
  unfold skq; rw [List.drop_length]; rfl

variable {X : List Token × Int × Int}

theorem blank_step {s : Str} {l : List Token} {i : Nat} (hs : s.length ≤ 30000) (h : i < s.length) (hb : isB s[i] = true) (hr : Ev (fun k => r05_Scan_l1 k s l ((i + 1 : Nat) : Int)) X) : Ev (fun k => r05_Scan_l1 k s l (i : Int)) X := by
  refine Ev.step ?_
  show Ev (fun k => r05_Scan_l1_b (tab_r05_Scan_j2 k) s l (i : Int)) _
  unfold r05_Scan_l1_b
  simp only [if_pos (show (i : Int) < (s.length : Int) by omega), chk_yes (show 0 ≤ (i : Int) ∧ (i : Int) < (s.length : Int) by omega), byte_at h, blank_eq, hb, Option.bind_some, if_true, wrap_one (show i < 1000000 by omega)]
  exact hr

theorem ref_pass (s : Str) (l : List Token) (hs : s.length ≤ 30000) : ∀ m i : Nat, i ≤ s.length → s.length - i ≤ m →
    (Ev (fun k => r05_Scan_l1 k s l ((skp s i : Nat) : Int)) X → Ev (fun k => r05_Scan_l1 k s l (i : Int)) X) ∧ (Ev (fun k => r05_Scan_l1 k s l ((skq s i : Nat) : Int)) X → Ev (fun k => r05_Scan_l3 k s l (i : Int)) X) := by
  intro m
  induction m with
  | zero =>
    intro i hi hm
    have hi' : i = s.length := by omega
    subst hi'
    refine ⟨fun h => by rwa [skp_end] at h, fun h => ?_⟩
    rw [skq_end] at h
    refine Ev.step ?_
    show Ev (fun k => r05_Scan_l3_b (tab_r05_Scan_j2 k) s l (s.length : Int)) _
    unfold r05_Scan_l3_b
    simp only [if_neg (show ¬ (s.length : Int) < (s.length : Int) by omega)]
    unfold r05_Scan_j4_b
    simp only [Bool.false_eq_true, if_false]
    exact h
  | succ m ih =>
    intro i hi hm
    rcases Nat.lt_or_ge i s.length with hlt | hge
    · have B : Ev (fun k => r05_Scan_l1 k s l ((skq s i : Nat) : Int)) X → Ev (fun k => r05_Scan_l3 k s l (i : Int)) X := by
        intro h
        refine Ev.step ?_
        show Ev (fun k => r05_Scan_l3_b (tab_r05_Scan_j2 k) s l (i : Int)) _
        unfold r05_Scan_l3_b
        simp only [if_pos (show (i : Int) < (s.length : Int) by omega), chk_yes (show 0 ≤ (i : Int) ∧ (i : Int) < (s.length : Int) by omega), byteAt_at hlt]
        unfold r05_Scan_j4_b
        by_cases hc : s[i] = 10
        · have h10 : ((s[i].toNat : Int) = 10) := by rw [hc]; rfl
          simp only [h10, decide_true, Bool.not_true, Bool.false_eq_true, if_false]
          refine blank_step hs hlt (by rw [hc]; rfl) ?_
          refine (ih (i + 1) (by omega) (by omega)).1 ?_
          have : skp s (i + 1) = skq s i := by unfold skp skq; rw [drop_at hlt, skC, if_pos hc]
          rw [this]; exact h
        · have h10 : ¬ ((s[i].toNat : Int) = 10) := fun e => hc (UInt8.toNat_inj.1 (by show _ = 10; omega))
          simp only [decide_eq_false h10, Bool.not_false, if_true, wrap_one (show i < 1000000 by omega)]
          refine (ih (i + 1) (by omega) (by omega)).2 ?_
          have : skq s (i + 1) = skq s i := by unfold skq; rw [drop_at hlt, skC, if_neg hc]
          rw [this]; exact h
      refine ⟨fun h => ?_, B⟩
      cases hb : isB s[i] with
      | true =>
        refine blank_step hs hlt hb ?_
        refine (ih (i + 1) (by omega) (by omega)).1 ?_
        have : skp s (i + 1) = skp s i := by unfold skp; rw [skB_blank hlt hb]
        rw [this]; exact h
      | false =>
        by_cases hc : s[i] = 45 ∧ (s.drop (i + 1)).head? = some 45
        · have h45 : ((s[i].toNat : Int) = 45) := by rw [hc.1]; rfl
          have hlt2 : i + 1 < s.length := by
            rcases Nat.lt_or_ge (i + 1) s.length with h' | h'
            · exact h'
            · rw [List.drop_of_length_le h'] at hc; simp at hc
          have h45' : ((s[i + 1].toNat : Int) = 45) := by
            have := hc.2
            rw [drop_at hlt2, List.head?_cons] at this
            rw [Option.some.inj this]; rfl
          refine Ev.step ?_
          show Ev (fun k => r05_Scan_l1_b (tab_r05_Scan_j2 k) s l (i : Int)) _
          unfold r05_Scan_l1_b
          simp only [if_pos (show (i : Int) < (s.length : Int) by omega), chk_yes (show 0 ≤ (i : Int) ∧ (i : Int) < (s.length : Int) by omega), byte_at hlt, blank_eq, hb, Option.bind_some, Bool.false_eq_true, if_false, byteAt_at hlt, h45, if_true, wrap_one (show i < 1000000 by omega), if_pos (show ((i + 1 : Nat) : Int) < (s.length : Int) by omega), chk_yes (show 0 ≤ ((i + 1 : Nat) : Int) ∧ ((i + 1 : Nat) : Int) < (s.length : Int) by omega), byteAt_at hlt2, h45', decide_true]
          unfold r05_Scan_j2_b
          simp only [if_true]
          refine B ?_
          have : skp s i = skq s i := by unfold skp skq; rw [skB_note hlt hb hc]
          rw [← this]; exact h
        · rw [skp_stop hlt hb hc] at h; exact h
    · exact ih i hi (by omega)

/-- Where a run ends. -/
def run (f : UInt8 → Bool) (s : Str) (i : Nat) : Nat := i + ((s.drop i).takeWhile f).length

theorem run_end (f : UInt8 → Bool) (s : Str) : run f s s.length = s.length := by
  unfold run; rw [List.drop_length]; rfl
theorem run_on {f : UInt8 → Bool} {s : Str} {i : Nat} (h : i < s.length) (hf : f s[i] = true) : run f s i = run f s (i + 1) := by
  unfold run; rw [drop_at h, List.takeWhile_cons, if_pos hf, List.length_cons]; omega
theorem run_off {f : UInt8 → Bool} {s : Str} {i : Nat} (h : i < s.length) (hf : f s[i] = false) : run f s i = i := by
  unfold run; rw [drop_at h, List.takeWhile_cons, if_neg (by simp [hf])]; rfl
theorem run_le (f : UInt8 → Bool) (s : Str) {i : Nat} (h : i ≤ s.length) : i ≤ run f s i ∧ run f s i ≤ s.length := by
  unfold run
  have := (List.takeWhile_sublist f (l := s.drop i)).length_le
  rw [List.length_drop] at this
  omega
theorem run_all {f : UInt8 → Bool} {s : Str} : ∀ (m i : Nat), s.length - i ≤ m → ∀ j, i ≤ j → j < run f s i → ∀ (h : j < s.length), f s[j] = true := by
  intro m
  induction m with
  | zero =>
    intro i hm j hij hj h
    omega
  | succ m ih =>
    intro i hm j hij hj h
    have hlt : i < s.length := by omega
    cases hf : f s[i] with
    | true =>
      rcases Nat.lt_or_ge i j with h1 | h1
      · rw [run_on hlt hf] at hj
        exact ih (i + 1) (by omega) j (by omega) hj h
      · have : j = i := by omega
        subst this; exact hf
    | false => rw [run_off hlt hf] at hj; omega

def isN (c : UInt8) : Bool := isL c || isD c

theorem name_eq (c : UInt8) : tr_name_1 c = some (isN c) := by
  unfold tr_name_1 isN
  rw [letter_eq, digit_eq]
  cases isL c <;> simp

theorem name_run (s : Str) (l : List Token) (a : Nat) (hs : s.length ≤ 30000) : ∀ m i : Nat, a ≤ i → i ≤ s.length → s.length - i ≤ m → Ev (fun k => tr_run_name_1_2_l1 k s (i : Int) l (a : Int)) (((run isN s i : Nat) : Int), sub s (a : Int) ((run isN s i : Nat) : Int)) := by
  intro m
  induction m with
  | zero =>
    intro i ha hi hm
    have hi' : i = s.length := by omega
    subst hi'
    refine Ev.step (Ev.now fun k => ?_)
    show tr_run_name_1_2_l1_b (tab_tr_run_name_1_2_j2 k) s (s.length : Int) l (a : Int) = _
    unfold tr_run_name_1_2_l1_b
    rw [if_neg (by omega)]
    unfold tr_run_name_1_2_j2_b
    rw [if_neg (by decide), chk_yes ⟨by omega, by omega, by omega⟩, run_end]
  | succ m ih =>
    intro i ha hi hm
    rcases Nat.lt_or_ge i s.length with hlt | hge
    · refine Ev.step ?_
      show Ev (fun k => tr_run_name_1_2_l1_b (tab_tr_run_name_1_2_j2 k) s (i : Int) l (a : Int)) _
      unfold tr_run_name_1_2_l1_b
      simp only [if_pos (show (i : Int) < (s.length : Int) by omega), chk_yes (show 0 ≤ (i : Int) ∧ (i : Int) < (s.length : Int) by omega), byte_at hlt, name_eq, Option.bind_some]
      unfold tr_run_name_1_2_j2_b
      cases hf : isN s[i] with
      | true =>
        simp only [if_true, wrap_one (show i < 1000000 by omega), run_on hlt hf]
        exact ih (i + 1) (by omega) (by omega) (by omega)
      | false =>
        simp only [Bool.false_eq_true, if_false, run_off hlt hf, chk_yes (show 0 ≤ (a : Int) ∧ (a : Int) ≤ (i : Int) ∧ (i : Int) ≤ (s.length : Int) by omega)]
        exact Ev.now fun _ => rfl
    · exact ih i ha hi (by omega)

theorem digit_run (s : Str) (l : List Token) (a : Nat) (hs : s.length ≤ 30000) : ∀ m i : Nat, a ≤ i → i ≤ s.length → s.length - i ≤ m → Ev (fun k => tr_run_digit_2_l1 k s (i : Int) l (a : Int)) (((run isD s i : Nat) : Int), sub s (a : Int) ((run isD s i : Nat) : Int)) := by
  intro m
  induction m with
  | zero =>
    intro i ha hi hm
    have hi' : i = s.length := by omega
    subst hi'
    refine Ev.step (Ev.now fun k => ?_)
    show tr_run_digit_2_l1_b (tab_tr_run_digit_2_j2 k) s (s.length : Int) l (a : Int) = _
    unfold tr_run_digit_2_l1_b
    rw [if_neg (by omega)]
    unfold tr_run_digit_2_j2_b
    rw [if_neg (by decide), chk_yes ⟨by omega, by omega, by omega⟩, run_end]
  | succ m ih =>
    intro i ha hi hm
    rcases Nat.lt_or_ge i s.length with hlt | hge
    · refine Ev.step ?_
      show Ev (fun k => tr_run_digit_2_l1_b (tab_tr_run_digit_2_j2 k) s (i : Int) l (a : Int)) _
      unfold tr_run_digit_2_l1_b
      simp only [if_pos (show (i : Int) < (s.length : Int) by omega), chk_yes (show 0 ≤ (i : Int) ∧ (i : Int) < (s.length : Int) by omega), byte_at hlt, digit_eq, Option.bind_some]
      unfold tr_run_digit_2_j2_b
      cases hf : isD s[i] with
      | true =>
        simp only [if_true, wrap_one (show i < 1000000 by omega), run_on hlt hf]
        exact ih (i + 1) (by omega) (by omega) (by omega)
      | false =>
        simp only [Bool.false_eq_true, if_false, run_off hlt hf, chk_yes (show 0 ≤ (a : Int) ∧ (a : Int) ≤ (i : Int) ∧ (i : Int) ≤ (s.length : Int) by omega)]
        exact Ev.now fun _ => rfl
    · exact ih i ha hi (by omega)

/-- The reference's run: of letters and digits, or of digits alone. -/
theorem ref_run (s : Str) (a : Int) (b : Bool) (hs : s.length ≤ 30000) {Y : Token × Int × Int × Int} : ∀ m i : Nat, i ≤ s.length → s.length - i ≤ m →
    Ev (fun k => r05_one_j3_b (tab_r05_one_j3 k) s a ((run (if b = true then isN else isD) s i : Nat) : Int) b false) Y → Ev (fun k => r05_one_l2 k s a (i : Int) b) Y := by
  intro m
  induction m with
  | zero =>
    intro i hi hm h
    have hi' : i = s.length := by omega
    subst hi'
    rw [run_end] at h
    refine Ev.step ?_
    show Ev (fun k => r05_one_l2_b (tab_r05_one_j3 k) s a (s.length : Int) b) _
    unfold r05_one_l2_b
    simp only [if_neg (show ¬ (s.length : Int) < (s.length : Int) by omega)]
    exact h
  | succ m ih =>
    intro i hi hm h
    rcases Nat.lt_or_ge i s.length with hlt | hge
    · refine Ev.step ?_
      show Ev (fun k => r05_one_l2_b (tab_r05_one_j3 k) s a (i : Int) b) _
      have go : (if b = true then isN else isD) s[i] = true → Ev (fun k => r05_one_j3_b (tab_r05_one_j3 k) s a (i : Int) b true) Y := by
        intro hf
        unfold r05_one_j3_b
        simp only [if_true, wrap_one (show i < 1000000 by omega)]
        rw [run_on hlt hf] at h
        exact ih (i + 1) (by omega) (by omega) h
      have stop : (if b = true then isN else isD) s[i] = false → Ev (fun k => r05_one_j3_b (tab_r05_one_j3 k) s a (i : Int) b false) Y := by
        intro hf
        rw [run_off hlt hf] at h
        exact h
      unfold r05_one_l2_b
      simp only [if_pos (show (i : Int) < (s.length : Int) by omega), chk_yes (show 0 ≤ (i : Int) ∧ (i : Int) < (s.length : Int) by omega), byte_at hlt, digit_eq', letter_eq', Option.bind_some]
      cases b with
      | false =>
        simp only [Bool.false_eq_true, if_false] at go stop ⊢
        cases hd : isD s[i] with
        | true => simp only [if_true]; exact go hd
        | false => simp only [Bool.false_eq_true, if_false]; exact stop hd
      | true =>
        simp only [if_true] at go stop ⊢
        cases hd : isD s[i] with
        | true => simp only [if_true]; exact go (by unfold isN; rw [hd]; simp)
        | false =>
          simp only [Bool.false_eq_true, if_false]
          cases hl : isL s[i] with
          | true => exact go (by unfold isN; rw [hl]; rfl)
          | false => exact stop (by unfold isN; rw [hl, hd]; rfl)
    · exact ih i hi (by omega) h

end Go.Syn
