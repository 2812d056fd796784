/- Plain laws of the two scanners: a name, a number, a text. -/
import Derived.Test.YtoioflodpmideaaP12
namespace Go.Syn
open Go.Abs

/-- What putting a token answers. -/
noncomputable def putR (l : List Token) (e : Int) (t : Token) : Int × List Token × Int := if (l.length : Int) = 6000 then (t.At, l, 8) else (e, l ++ [t], 0)

theorem put_eq (s : Str) (e : Int) {l : List Token} (t : Token) (h : l.length ≤ 6000) : tr_put_2 s e l t = some (putR l e t) := by
  unfold tr_put_2 putR
  by_cases h1 : (l.length : Int) = 6000
  · rw [if_pos h1, if_pos h1]
  · rw [if_neg h1, if_neg h1, chk_yes (cap_ok 40 (by omega) l t (by omega))]

structure OkTok (s : Str) (i : Nat) (t : Token) (e : Nat) : Prop where
  gt : i < e
  le : e ≤ s.length
  at_ : t.At = (i : Int)
  kind : t.Kind ≠ 0
  word : t.Kind = 1 → Wordy t.Text
  mark : t.Kind = 4 → Marky t.Text

abbrev r0 : Token := Token.mk 0 [] 0 0

/-- Both read the same token at a place, or see the same fault there. -/
def One (s : Str) (i : Nat) : Prop :=
  (∃ (t : Token) (e : Nat), OkTok s i t e ∧ Ev (fun k => r05_one k s (i : Int)) (t, (e : Int), 0, 0) ∧ ∀ l : List Token, l.length ≤ 6000 → Ev (fun k => tr_next_2 k s (i : Int) l) (putR l (e : Int) t)) ∨
  (∃ w : Nat, w ≤ s.length ∧ Ev (fun k => r05_one k s (i : Int)) (r0, 0, (w : Int), 10) ∧ ∀ l : List Token, l.length ≤ 6000 → Ev (fun k => tr_next_2 k s (i : Int) l) ((w : Int), l, 10))

variable {s : Str} {i : Nat}

theorem one_split (h : i < s.length) (k : Nat) : r05_one k s (i : Int) = if isL s[i] = true then r05_one_j1 k s (i : Int) (i : Int) true else r05_one_j1 k s (i : Int) (i : Int) (isD s[i]) := by
  unfold r05_one
  rw [chk_yes (by omega), byte_at h, letter_eq', digit_eq', Option.bind_some, Option.bind_some]

theorem j1_split (h : i < s.length) (k : Nat) : r05_one_j1 k s (i : Int) (i : Int) true = r05_one_l2 k s (i : Int) (i : Int) (isL s[i]) := by
  unfold r05_one_j1
  rw [if_pos rfl, chk_yes (by omega), byte_at h, letter_eq', Option.bind_some]

theorem put_eta (o : Option (Int × List Token × Int)) : (o.bind fun (a, b, c) => some (a, b, c)) = o := by
  cases o with
  | none => rfl
  | some x => obtain ⟨a, b, c⟩ := x; rfl

theorem next_split (h : i < s.length) (k : Nat) (l : List Token) : tr_next_2 k s (i : Int) l = if isL s[i] = true then tr_name_2 k s (i : Int) l else if isD s[i] = true then tr_number_2 k s (i : Int) l else if s[i] = 39 then tr_text_2 k s (i : Int) l else tr_mark_2 s (i : Int) l := by
  unfold tr_next_2
  have h39 : (((s[i].toNat : Int)) = 39) = (s[i] = 39) := by
    apply propext
    constructor
    · intro e; exact UInt8.toNat_inj.1 (by show _ = 39; omega)
    · intro e; rw [e]; rfl
  rw [chk_yes (by omega), byte_at h, letter_eq, digit_eq, Option.bind_some, Option.bind_some, byteAt_at h]
  simp only [put_eta, h39]

theorem sub_len {a b : Nat} (h : a ≤ b) (hb : b ≤ s.length) : ((sub s (a : Int) (b : Int)).length : Int) = (b : Int) - (a : Int) := by
  rw [sub_nat, List.length_take, List.length_drop]; omega

theorem wrap_sub {a b : Nat} (h : a ≤ b) (hb : b ≤ 30000) : IntKind.i64.wrap ((b : Int) - (a : Int)) = (b : Int) - (a : Int) := wrap_eq (by omega) (by omega)

theorem one_name (hs : s.length ≤ 30000) (h : i < s.length) (hl : isL s[i] = true) : One s i := by
  have hN : isN s[i] = true := by unfold isN; rw [hl]; rfl
  have hr := run_le isN s (show i ≤ s.length by omega)
  have hgt : i < run isN s i := by
    rw [run_on h hN]
    have := run_le isN s (show i + 1 ≤ s.length by omega)
    omega
  generalize hrn : run isN s i = e at *
  have hnr := name_run s
  have P : ∀ l : List Token, Ev (fun k => tr_run_name_1_2 k s (i : Int) l) ((e : Int), sub s (i : Int) (e : Int)) := by
    intro l
    unfold tr_run_name_1_2
    have := name_run s l i hs _ i (Nat.le_refl _) (by omega) (Nat.le_refl _)
    rw [hrn] at this
    exact this
  have R : ∀ Y, Ev (fun k => r05_one_j3_b (tab_r05_one_j3 k) s (i : Int) (e : Int) true false) Y → Ev (fun k => r05_one k s (i : Int)) Y := by
    intro Y hY
    simp only [one_split h, hl, if_true, j1_split h]
    refine ref_run s (i : Int) true hs _ i (by omega) (Nat.le_refl _) ?_
    simp only [if_true, hrn]
    exact hY
  by_cases h30 : (30 : Int) < (e : Int) - (i : Int)
  · refine .inr ⟨i, by omega, R _ ?_, fun l hl' => ?_⟩
    · unfold r05_one_j3_b
      simp only [Bool.false_eq_true, if_false, if_true, chk_yes (show 0 ≤ (i : Int) ∧ (i : Int) ≤ (e : Int) ∧ (e : Int) ≤ (s.length : Int) by omega), wrap_sub (show i ≤ e by omega) (show e ≤ 30000 by omega), if_pos h30]
      exact Ev.now fun _ => rfl
    · simp only [next_split h, hl, if_true]
      unfold tr_name_2
      refine Ev.bind (P l) ?_
      simp only [sub_len (show i ≤ e by omega) hr.2, if_pos h30]
      exact Ev.now fun _ => rfl
  · refine .inl ⟨Token.mk 1 (sub s (i : Int) (e : Int)) 0 (i : Int), e, ⟨hgt, hr.2, rfl, show (1 : Int) ≠ 0 by decide, fun _ => ?_, fun hk => absurd (show (1 : Int) = 4 from hk) (by decide)⟩, R _ ?_, fun l hl' => ?_⟩
    · obtain ⟨m, hm⟩ : ∃ m, e - i = m + 1 := ⟨e - i - 1, by omega⟩
      refine ⟨s[i], (s.drop (i + 1)).take m, ?_, hl⟩
      show sub s (i : Int) (e : Int) = _
      rw [sub_nat, drop_at h, hm]; rfl
    · unfold r05_one_j3_b
      simp only [Bool.false_eq_true, if_false, if_true, chk_yes (show 0 ≤ (i : Int) ∧ (i : Int) ≤ (e : Int) ∧ (e : Int) ≤ (s.length : Int) by omega), wrap_sub (show i ≤ e by omega) (show e ≤ 30000 by omega), if_neg h30]
      exact Ev.now fun _ => rfl
    · simp only [next_split h, hl, if_true]
      unfold tr_name_2
      refine Ev.bind (P l) ?_
      simp only [sub_len (show i ≤ e by omega) hr.2, if_neg h30, put_eq _ _ _ hl', Option.bind_some]
      exact Ev.now fun _ => rfl

theorem k_j3 (k : Nat) : (tab_r05_one_j3 k).k = k := by cases k <;> rfl

/-- The value of a run of digits. -/
def numv (v : Int) (u : Str) : Int := u.foldl (fun v c => IntKind.i64.wrap (IntKind.i64.wrap (10 * v) + ((c.toNat : Int) - 48))) v

theorem num_prog (s : Str) (e : Int) {l : List Token} (hl : l.length ≤ 6000) (a : Int) (t : Str) (ht : t.length ≤ 30000) (hd : ∀ j (h : j < t.length), isD t[j] = true) : ∀ m j : Nat, ∀ v : Int, j ≤ t.length → t.length - j ≤ m →
    Ev (fun k => tr_number_2_l1 k s e l a t v (t.length : Int) (j : Int)) (putR l e (Token.mk 2 t (numv v (t.drop j)) a)) := by
  intro m
  induction m with
  | zero =>
    intro j v hj hm
    have : j = t.length := by omega
    subst this
    refine Ev.step (Ev.now fun k => ?_)
    show tr_number_2_l1_b (tab_tr_number_2_l1 k) s e l a t v (t.length : Int) (t.length : Int) = _
    unfold tr_number_2_l1_b
    rw [if_neg (by omega), put_eq _ _ _ hl, put_eta, List.drop_length]
    rfl
  | succ m ih =>
    intro j v hj hm
    rcases Nat.lt_or_ge j t.length with h | h
    · refine Ev.step ?_
      show Ev (fun k => tr_number_2_l1_b (tab_tr_number_2_l1 k) s e l a t v (t.length : Int) (j : Int)) _
      unfold tr_number_2_l1_b
      have hdj := hd j h
      have hd2 : 48 ≤ (t[j].toNat : Int) ∧ (t[j].toNat : Int) ≤ 57 := by
        unfold isD at hdj
        rw [le_int, le_int] at hdj
        simp only [Bool.and_eq_true, decide_eq_true_eq] at hdj
        exact hdj
      have hu : ((u8w ((t[j].toNat : Int) - 48)).toNat : Int) = (t[j].toNat : Int) - 48 := by
        have h1 : IntKind.u8.wrap ((t[j].toNat : Int) - 48) = (t[j].toNat : Int) - 48 := by
          show ((t[j].toNat : Int) - 48) % 256 = _
          omega
        unfold u8w
        rw [h1, UInt8.toNat_ofNat']
        omega
      have hw : IntKind.i64.wrap ((t[j].toNat : Int) - 48) = (t[j].toNat : Int) - 48 := wrap_eq (by omega) (by omega)
      simp only [if_pos (show (j : Int) < (t.length : Int) by omega), chk_yes (show 0 ≤ (j : Int) ∧ (j : Int) < (t.length : Int) by omega), byteAt_at h, hu, hw, wrap_one (show j < 1000000 by omega)]
      have := ih (j + 1) (IntKind.i64.wrap (IntKind.i64.wrap (10 * v) + ((t[j].toNat : Int) - 48))) (by omega) (by omega)
      rw [show numv v (t.drop j) = numv (IntKind.i64.wrap (IntKind.i64.wrap (10 * v) + ((t[j].toNat : Int) - 48))) (t.drop (j + 1)) by rw [drop_at h]; rfl]
      exact this
    · exact ih j v hj (by omega)

theorem num_step (v c : Int) : IntKind.i64.wrap (IntKind.i64.wrap (IntKind.i64.wrap (10 * v) + IntKind.i64.wrap c) - 48) = IntKind.i64.wrap (IntKind.i64.wrap (10 * v) + (c - 48)) := by
  simp only [IntKind.wrap_i64]; omega

theorem num_ref (s : Str) (hs : s.length ≤ 30000) (tx : Str) (at_ : Int) (e : Nat) (he : e ≤ s.length) : ∀ m j : Nat, ∀ v : Int, j ≤ e → e - j ≤ m →
    Ev (fun k => r05_one_l4 k (Token.mk 2 tx v at_) s (e : Int) (j : Int)) (Token.mk 2 tx (numv v ((s.drop j).take (e - j))) at_, (e : Int), 0, 0) := by
  intro m
  induction m with
  | zero =>
    intro j v hj hm
    have : j = e := by omega
    subst this
    refine Ev.step (Ev.now fun k => ?_)
    show r05_one_l4_b (tab_r05_one_l4 k) (Token.mk 2 tx v at_) s (j : Int) (j : Int) = _
    unfold r05_one_l4_b
    rw [if_neg (by omega), Nat.sub_self]
    rfl
  | succ m ih =>
    intro j v hj hm
    rcases Nat.lt_or_ge j e with h | h
    · refine Ev.step ?_
      show Ev (fun k => r05_one_l4_b (tab_r05_one_l4 k) (Token.mk 2 tx v at_) s (e : Int) (j : Int)) _
      unfold r05_one_l4_b
      simp only [if_pos (show (j : Int) < (e : Int) by omega), chk_yes (show 0 ≤ (j : Int) ∧ (j : Int) < (s.length : Int) by omega), byteAt_at (show j < s.length by omega), num_step, wrap_one (show j < 1000000 by omega)]
      obtain ⟨n, hn⟩ : ∃ n, e - j = n + 1 := ⟨e - j - 1, by omega⟩
      have := ih (j + 1) (IntKind.i64.wrap (IntKind.i64.wrap (10 * v) + (((s[j]'(by omega)).toNat : Int) - 48))) (by omega) (by omega)
      rw [show e - (j + 1) = n by omega] at this
      rw [hn, drop_at (show j < s.length by omega)]
      exact this
    · exact ih j v hj (by omega)

theorem one_number (hs : s.length ≤ 30000) (h : i < s.length) (hl : isL s[i] = false) (hd : isD s[i] = true) : One s i := by
  have hr := run_le isD s (show i ≤ s.length by omega)
  have hgt : i < run isD s i := by
    rw [run_on h hd]
    have := run_le isD s (show i + 1 ≤ s.length by omega)
    omega
  have hall := run_all (f := isD) (s := s) _ i (Nat.le_refl _)
  generalize hrn : run isD s i = e at *
  have P : ∀ l : List Token, Ev (fun k => tr_run_digit_2 k s (i : Int) l) ((e : Int), sub s (i : Int) (e : Int)) := by
    intro l
    unfold tr_run_digit_2
    have := digit_run s l i hs _ i (Nat.le_refl _) (by omega) (Nat.le_refl _)
    rw [hrn] at this
    exact this
  have R : ∀ Y, Ev (fun k => r05_one_j3_b (tab_r05_one_j3 k) s (i : Int) (e : Int) false false) Y → Ev (fun k => r05_one k s (i : Int)) Y := by
    intro Y hY
    simp only [one_split h, hl, hd, Bool.false_eq_true, if_false, j1_split h]
    refine ref_run s (i : Int) false hs _ i (by omega) (Nat.le_refl _) ?_
    simp only [Bool.false_eq_true, if_false, hrn]
    exact hY
  by_cases h18 : (18 : Int) < (e : Int) - (i : Int)
  · refine .inr ⟨i, by omega, R _ ?_, fun l hl' => ?_⟩
    · unfold r05_one_j3_b
      simp only [Bool.false_eq_true, if_false, chk_yes (show 0 ≤ (i : Int) ∧ (i : Int) ≤ (e : Int) ∧ (e : Int) ≤ (s.length : Int) by omega), wrap_sub (show i ≤ e by omega) (show e ≤ 30000 by omega), if_pos h18]
      exact Ev.now fun _ => rfl
    · simp only [next_split h, hl, hd, Bool.false_eq_true, if_false, if_true]
      unfold tr_number_2
      refine Ev.bind (P l) ?_
      simp only [sub_len (show i ≤ e by omega) hr.2, if_pos h18]
      exact Ev.now fun _ => rfl
  · refine .inl ⟨Token.mk 2 (sub s (i : Int) (e : Int)) (numv 0 (sub s (i : Int) (e : Int))) (i : Int), e, ⟨hgt, hr.2, rfl, show (2 : Int) ≠ 0 by decide, fun hk => absurd (show (2 : Int) = 1 from hk) (by decide), fun hk => absurd (show (2 : Int) = 4 from hk) (by decide)⟩, R _ ?_, fun l hl' => ?_⟩
    · unfold r05_one_j3_b
      simp only [Bool.false_eq_true, if_false, chk_yes (show 0 ≤ (i : Int) ∧ (i : Int) ≤ (e : Int) ∧ (e : Int) ≤ (s.length : Int) by omega), wrap_sub (show i ≤ e by omega) (show e ≤ 30000 by omega), if_neg h18, k_j3]
      have := num_ref s hs (sub s (i : Int) (e : Int)) (i : Int) e hr.2 _ i 0 (by omega) (Nat.le_refl _)
      rw [← sub_nat] at this
      exact this
    · simp only [next_split h, hl, hd, Bool.false_eq_true, if_false, if_true]
      unfold tr_number_2
      refine Ev.bind (P l) ?_
      have hsl := sub_len (s := s) (show i ≤ e by omega) hr.2
      simp only [hsl, if_neg h18]
      rw [← hsl]
      have := num_prog s (e : Int) hl' (i : Int) (sub s (i : Int) (e : Int)) (by omega) (fun j hj => ?_) _ 0 0 (by omega) (Nat.le_refl _)
      · exact this
      · have hj' : j < e - i := by omega
        have : (sub s (i : Int) (e : Int))[j] = s[i + j]'(by omega) := by
          simp only [sub_nat, List.getElem_take, List.getElem_drop]
        rw [this]
        exact hall (i + j) (by omega) (by omega) _

end Go.Syn
