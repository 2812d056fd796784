/- The scanner over a text, and over the same text between brackets: bytes and runs. -/
import Derived.Test.YtoioflodpmideaaP16
namespace Go.Syn
open Go.Abs

/-- A text between brackets, as the law has it. -/
def brk (s : Str) : Str := 40 :: (s ++ [10, 41])

def up1 (t : Token) : Token := Token.mk t.Kind t.Text t.N (t.At + 1)

variable {s : Str} {i : Nat}

theorem brk_len (s : Str) : (brk s).length = s.length + 3 := by unfold brk; simp

theorem brk_drop (s : Str) (h : i ≤ s.length) : (brk s).drop (i + 1) = s.drop i ++ [10, 41] := by
  unfold brk
  rw [List.drop_succ_cons, List.drop_append_of_le_length h]

theorem brk_at (h : i < s.length) (h2 : i + 1 < (brk s).length) : (brk s)[i + 1] = s[i] := by
  have h3 := brk_drop s (show i ≤ s.length by omega)
  rw [drop_at h2, drop_at h] at h3
  exact (List.cons.inj h3).1

theorem sk_brk : ∀ v : Str, skB (v ++ [10, 41]) = (if skB v = [] then [41] else skB v ++ [10, 41]) ∧ skC (v ++ [10, 41]) = (if skC v = [] then [41] else skC v ++ [10, 41]) := by
  intro v
  have h41 : skB [41] = [41] := by rw [skB, if_neg (by decide), if_neg (by decide)]
  have h10 : skB [10, 41] = [41] := by rw [skB, if_pos (by decide), h41]
  have c10 : skC [10, 41] = [41] := by rw [skC, if_pos rfl, h41]
  induction v with
  | nil => simp [skB.eq_1, skC.eq_1, h10, c10]
  | cons c r ih =>
    refine ⟨?_, ?_⟩
    · rw [List.cons_append, skB, skB]
      by_cases hb : isB c = true
      · rw [if_pos hb, if_pos hb]; exact ih.1
      · rw [if_neg hb, if_neg hb]
        have hh : (c = 45 ∧ (r ++ [10, 41]).head? = some 45) = (c = 45 ∧ r.head? = some 45) := by
          cases r with
          | nil => simp
          | cons d q => simp
        by_cases hc : c = 45 ∧ r.head? = some 45
        · rw [if_pos (hh ▸ hc), if_pos hc]; exact ih.2
        · rw [if_neg (fun g => hc (hh ▸ g)), if_neg hc, if_neg (by simp)]; rfl
    · rw [List.cons_append, skC, skC]
      by_cases hb : c = 10
      · rw [if_pos hb, if_pos hb]; exact ih.1
      · rw [if_neg hb, if_neg hb]; exact ih.2

theorem skp_brk (h : i ≤ s.length) : skp (brk s) (i + 1) = if skp s i = s.length then s.length + 2 else skp s i + 1 := by
  have h1 := (sk_len (s.drop i)).1
  rw [List.length_drop] at h1
  unfold skp
  rw [brk_len, brk_drop s h, (sk_brk (s.drop i)).1]
  by_cases hn : skB (s.drop i) = []
  · rw [if_pos hn, hn, if_pos (by simp)]; simp
  · rw [if_neg hn]
    have : 0 < (skB (s.drop i)).length := by
      cases e : skB (s.drop i) with
      | nil => exact absurd e hn
      | cons a b => simp
    rw [if_neg (by omega), List.length_append]
    simp only [List.length_cons, List.length_nil]
    omega

theorem while_brk {f : UInt8 → Bool} (hf : f 10 = false) : ∀ v : Str, (v ++ [10, 41]).takeWhile f = v.takeWhile f := by
  intro v
  induction v with
  | nil => simp [hf]
  | cons c r ih =>
    rw [List.cons_append, List.takeWhile_cons, List.takeWhile_cons, ih]

theorem run_brk {f : UInt8 → Bool} (hf : f 10 = false) (h : i ≤ s.length) : run f (brk s) (i + 1) = run f s i + 1 := by
  unfold run
  rw [brk_drop s h, while_brk hf]
  omega

theorem sub_brk {a b : Nat} (hb : b ≤ s.length) (hab : a ≤ b) : sub (brk s) ((a + 1 : Nat) : Int) ((b + 1 : Nat) : Int) = sub s (a : Int) (b : Int) := by
  rw [sub_nat, sub_nat, brk_drop s (by omega), List.take_append_of_le_length (by rw [List.length_drop]; omega)]
  congr 1
  omega

theorem find_same {a b : Str} : ∀ l : List Str, (∀ m ∈ l, pre a m = pre b m) → l.find? (pre a) = l.find? (pre b) := by
  intro l
  induction l with
  | nil => intro _; rfl
  | cons x l ih =>
    intro h
    rw [List.find?_cons, List.find?_cons, h x List.mem_cons_self, ih fun m hm => h m (List.mem_cons_of_mem _ hm)]

theorem mks_second : ∀ m ∈ Mks, ∀ c d : UInt8, m = [c, d] → d ≠ 10 := by
  intro x hx c d
  unfold Mks at hx
  simp only [List.mem_cons, List.not_mem_nil, or_false] at hx
  rcases hx with rfl | rfl | rfl | rfl | rfl | rfl | rfl | rfl | rfl | rfl | rfl | rfl | rfl | rfl | rfl | rfl | rfl | rfl | rfl | rfl <;>
    (intro e; first | (obtain ⟨_, e2⟩ := List.cons.inj e; cases e2; done) | (obtain ⟨_, e2⟩ := List.cons.inj e; obtain ⟨e3, _⟩ := List.cons.inj e2; rw [← e3]; decide))

theorem find_brk (v : Str) (hv : v ≠ []) : Mks.find? (pre (v ++ [10, 41])) = Mks.find? (pre v) := by
  refine find_same Mks fun m hm => ?_
  obtain ⟨_, h1, h2⟩ := mks_marky m hm
  unfold pre
  rw [decide_eq_decide]
  match v, hv with
  | [c], _ =>
    match m, h1, h2 with
    | [a], _, _ => simp
    | [a, b], _, _ =>
      have := mks_second _ hm a b rfl
      simp
      intro _ e
      exact this e.symm
  | c :: d :: r, _ =>
    match m, h1, h2 with
    | [a], _, _ => simp
    | [a, b], _, _ => simp

/- What the program reads at a place, in so many words. -/
theorem next_name (hs : s.length ≤ 30000) (h : i < s.length) (hl : isL s[i] = true) {l : List Token} (hl6 : l.length ≤ 6000) :
    Ev (fun k => tr_next_2 k s (i : Int) l) (if (30 : Int) < (run isN s i : Int) - (i : Int) then ((i : Int), l, 10) else putR l (run isN s i : Int) (Token.mk 1 (sub s (i : Int) (run isN s i : Int)) 0 (i : Int))) := by
  have hr := run_le isN s (show i ≤ s.length by omega)
  simp only [next_split h, hl, if_true]
  unfold tr_name_2
  refine Ev.bind (a := ((run isN s i : Int), sub s (i : Int) (run isN s i : Int))) ?_ ?_
  · unfold tr_run_name_1_2
    exact name_run s l i hs _ i (Nat.le_refl _) (by omega) (Nat.le_refl _)
  · simp only [sub_len hr.1 hr.2]
    by_cases h30 : (30 : Int) < (run isN s i : Int) - (i : Int)
    · simp only [if_pos h30]; exact Ev.now fun _ => rfl
    · simp only [if_neg h30, put_eq _ _ _ hl6]; exact Ev.now fun _ => rfl

theorem next_number (hs : s.length ≤ 30000) (h : i < s.length) (hl : isL s[i] = false) (hd : isD s[i] = true) {l : List Token} (hl6 : l.length ≤ 6000) :
    Ev (fun k => tr_next_2 k s (i : Int) l) (if (18 : Int) < (run isD s i : Int) - (i : Int) then ((i : Int), l, 10) else putR l (run isD s i : Int) (Token.mk 2 (sub s (i : Int) (run isD s i : Int)) (numv 0 (sub s (i : Int) (run isD s i : Int))) (i : Int))) := by
  have hr := run_le isD s (show i ≤ s.length by omega)
  have hall := run_all (f := isD) (s := s) _ i (Nat.le_refl _)
  have hsl := sub_len (s := s) hr.1 hr.2
  simp only [next_split h, hl, hd, Bool.false_eq_true, if_false, if_true]
  unfold tr_number_2
  refine Ev.bind (a := ((run isD s i : Int), sub s (i : Int) (run isD s i : Int))) ?_ ?_
  · unfold tr_run_digit_2
    exact digit_run s l i hs _ i (Nat.le_refl _) (by omega) (Nat.le_refl _)
  · by_cases h18 : (18 : Int) < (run isD s i : Int) - (i : Int)
    · simp only [hsl, if_pos h18]; exact Ev.now fun _ => rfl
    · simp only [hsl, if_neg h18]
      rw [← hsl]
      have := num_prog s (run isD s i : Int) hl6 (i : Int) (sub s (i : Int) (run isD s i : Int)) (by omega) (fun j hj => ?_) _ 0 0 (by omega) (Nat.le_refl _)
      · exact this
      · have hj' : j < run isD s i - i := by omega
        have : (sub s (i : Int) (run isD s i : Int))[j] = s[i + j]'(by omega) := by
          simp only [sub_nat, List.getElem_take, List.getElem_drop]
        rw [this]
        exact hall (i + j) (by omega) (by omega) _

theorem next_mark (hs : s.length ≤ 30000) (h : i < s.length) (hl : isL s[i] = false) (hd : isD s[i] = false) (hq : ¬ s[i] = 39) {l : List Token} (hl6 : l.length ≤ 6000) :
    Ev (fun k => tr_next_2 k s (i : Int) l) (mkR l i (Mks.find? (pre (s.drop i)))) := by
  refine Ev.now fun k => ?_
  rw [next_split h, hl, hd, if_neg (by decide), if_neg (by decide), if_neg hq, mark_prog h hs hl6]

end Go.Syn

namespace Go.Syn
open Go.Abs

variable {s : Str} {i j k : Nat} {l : List Token} {acc : List UInt8}

def Bad (c : UInt8) : Prop := (c.toNat : Int) < 32 ∧ ¬ (c.toNat : Int) = 10

theorem t_end (a : Int) (h : s.length ≤ j) : tr_text_2_l4 (k + 1) s (j : Int) l acc a = some (a, l, 10) := by
  show tr_text_2_l4_b (tab_tr_text_2_j3 k) s (j : Int) l acc a = _
  unfold tr_text_2_l4_b
  rw [if_neg (by omega)]
  rfl

theorem t_bad (a : Int) (h : j < s.length) (hb : Bad s[j]) : tr_text_2_l4 (k + 1) s (j : Int) l acc a = some ((j : Int), l, 10) := by
  show tr_text_2_l4_b (tab_tr_text_2_j3 k) s (j : Int) l acc a = _
  unfold tr_text_2_l4_b tr_text_2_j5_b
  rw [if_pos (by omega), chk_yes (by omega), byteAt_at h, if_pos hb.1, decide_eq_false hb.2]
  rfl

theorem t_ok (a : Int) (h : j < s.length) (hb : ¬ Bad s[j]) : tr_text_2_l4 (k + 1) s (j : Int) l acc a = tr_text_2_j5_b (tab_tr_text_2_j3 k) s (j : Int) l acc a s[j] false := by
  show tr_text_2_l4_b (tab_tr_text_2_j3 k) s (j : Int) l acc a = _
  unfold tr_text_2_l4_b
  rw [if_pos (by omega), chk_yes (by omega), byteAt_at h, byte_at h]
  by_cases h32 : (s[j].toNat : Int) < 32
  · have h10 : (s[j].toNat : Int) = 10 := Decidable.byContradiction fun e => hb ⟨h32, e⟩
    rw [if_pos h32, decide_eq_true h10]; rfl
  · rw [if_neg h32]

theorem t_two (a : Int) (hs : s.length ≤ 30010) (h : j < s.length) (hq : s[j] = 39) (hh : (s.drop (j + 1)).head? = some 39) : tr_text_2_j5_b (tab_tr_text_2_j3 k) s (j : Int) l acc a s[j] false = (sb_WriteByte_2 acc 39).bind fun r2 => tr_text_2_j3 k s ((j + 1 : Nat) : Int) l r2 a := by
  unfold tr_text_2_j5_b
  rw [if_neg (by decide), if_pos (by rw [hq]; rfl), chk_yes (by omega), sub_end, prefix_eq, Option.bind_some, quote_prefix h hq, decide_eq_true hh, if_pos rfl, wrap_one (by omega), hq]
  rfl

theorem t_one (a : Int) (hs : s.length ≤ 30010) (h : j < s.length) (hq : s[j] = 39) (hh : ¬ (s.drop (j + 1)).head? = some 39) (hl : l.length ≤ 6000) (ha : acc.length ≤ 100000) :
    tr_text_2_j5_b (tab_tr_text_2_j3 k) s (j : Int) l acc a s[j] false = if 1000 < (acc.length : Int) then some (a, l, 10) else some (putR l ((j + 1 : Nat) : Int) (Token.mk 3 acc 0 a)) := by
  have hstr : sb_String_2 acc = some acc := by
    unfold sb_String_2
    rw [chk_yes (by unfold maxLen; omega)]
  have hlen : sb_Len_2 acc = some (acc.length : Int) := rfl
  unfold tr_text_2_j5_b
  rw [if_neg (by decide), if_pos (by rw [hq]; rfl), chk_yes (by omega), sub_end, prefix_eq, Option.bind_some, quote_prefix h hq, decide_eq_false hh, if_neg (by decide), hlen, Option.bind_some, wrap_one (by omega)]
  by_cases h1 : 1000 < (acc.length : Int)
  · rw [if_pos h1, if_pos h1]; rfl
  · rw [if_neg h1, if_neg h1, hstr, Option.bind_some, put_eq _ _ _ hl]; rfl

theorem t_other (a : Int) (h : j < s.length) (hq : ¬ s[j] = 39) : tr_text_2_j5_b (tab_tr_text_2_j3 k) s (j : Int) l acc a s[j] false = (sb_WriteByte_2 acc s[j]).bind fun r2 => tr_text_2_j3 k s (j : Int) l r2 a := by
  unfold tr_text_2_j5_b
  rw [if_neg (by decide), if_neg (fun e => hq (UInt8.toNat_inj.1 (by show _ = 39; omega)))]
  rfl

theorem t_j3 (a : Int) (hj : j < 1000000) : tr_text_2_j3 (k + 1) s (j : Int) l acc a = tr_text_2_l4 k s ((j + 1 : Nat) : Int) l acc a := by
  show tr_text_2_j3_b (tab_tr_text_2_j3 k) s (j : Int) l acc a = _
  unfold tr_text_2_j3_b
  rw [wrap_one hj]; rfl

theorem w_byte (c : UInt8) (h : acc.length ≤ 1000000) : sb_WriteByte_2 acc c = some (acc ++ [c]) := by
  unfold sb_WriteByte_2
  show Go.Abs.chk _ _ = _
  rw [chk_yes (capb h)]

theorem text_rel (hs : s.length ≤ 30000) (a a2 : Int) (hl : l.length ≤ 6000) {m : List Token} (hm : m.length ≤ 6000) : ∀ k j acc r, j ≤ s.length → acc.length ≤ j → tr_text_2_l4 k s (j : Int) l acc a = some r → r.2.2 = 0 →
    ∃ (e : Nat) (x : Str), r = putR l (e : Int) (Token.mk 3 x 0 a) ∧ e ≤ s.length ∧ j < e ∧ tr_text_2_l4 k (brk s) ((j + 1 : Nat) : Int) m acc a2 = some (putR m ((e + 1 : Nat) : Int) (Token.mk 3 x 0 a2)) := by
  intro k
  induction k using Nat.strongRecOn with
  | ind k ih =>
    intro j acc r hj ha h h0
    have hbl := brk_len s
    cases k with
    | zero => exact nomatch (show none = some _ from h)
    | succ k =>
      rcases Nat.lt_or_ge j s.length with hlt | hge
      · have hlt2 : j + 1 < (brk s).length := by omega
        have hat := brk_at hlt hlt2
        by_cases hb : Bad s[j]
        · rw [t_bad a hlt hb] at h
          obtain rfl := Option.some.inj h
          exact absurd (show (10 : Int) = 0 from h0) (by decide)
        · rw [t_ok a hlt hb] at h
          rw [t_ok a2 hlt2 (by rw [hat]; exact hb)]
          by_cases hq : s[j] = 39
          · have hq2 : (brk s)[j + 1] = 39 := by rw [hat]; exact hq
            have hd := brk_drop s (i := j + 1) (by omega)
            by_cases hh : (s.drop (j + 1)).head? = some 39
            · have hh2 : ((brk s).drop (j + 1 + 1)).head? = some 39 := by
                rw [hd]
                cases e : s.drop (j + 1) with
                | nil => rw [e] at hh; cases hh
                | cons c r => rw [e] at hh; exact hh
              rw [t_two a (by omega) hlt hq hh, w_byte 39 (by omega), Option.bind_some] at h
              rw [t_two a2 (by omega) hlt2 hq2 hh2, w_byte 39 (by omega), Option.bind_some]
              have h1 : j + 1 < s.length := by
                rcases Nat.lt_or_ge (j + 1) s.length with h1 | h1
                · exact h1
                · rw [List.drop_of_length_le h1] at hh; simp at hh
              cases k with
              | zero => exact nomatch (show none = some _ from h)
              | succ k =>
                rw [t_j3 a (by omega)] at h
                rw [t_j3 a2 (by omega)]
                obtain ⟨e, x, e1, e2, e3, e4⟩ := ih k (by omega) (j + 1 + 1) (acc ++ [39]) r (by omega) (by simp; omega) h h0
                exact ⟨e, x, e1, e2, by omega, e4⟩
            · have hh2 : ¬ ((brk s).drop (j + 1 + 1)).head? = some 39 := by
                rw [hd]
                cases e : s.drop (j + 1) with
                | nil => simp
                | cons c r => rw [e] at hh; exact hh
              rw [t_one a (by omega) hlt hq hh hl (by omega)] at h
              rw [t_one a2 (by omega) hlt2 hq2 hh2 hm (by omega)]
              by_cases h1 : 1000 < (acc.length : Int)
              · rw [if_pos h1] at h
                obtain rfl := Option.some.inj h
                exact absurd (show (10 : Int) = 0 from h0) (by decide)
              · rw [if_neg h1] at h
                rw [if_neg h1]
                obtain rfl := Option.some.inj h
                exact ⟨j + 1, acc, rfl, by omega, by omega, rfl⟩
          · have hq2 : ¬ (brk s)[j + 1] = 39 := by rw [hat]; exact hq
            rw [t_other a hlt hq, w_byte _ (by omega), Option.bind_some] at h
            rw [t_other a2 hlt2 hq2, w_byte _ (by omega), Option.bind_some, hat]
            cases k with
            | zero => exact nomatch (show none = some _ from h)
            | succ k =>
              rw [t_j3 a (by omega)] at h
              rw [t_j3 a2 (by omega)]
              obtain ⟨e, x, e1, e2, e3, e4⟩ := ih k (by omega) (j + 1) (acc ++ [s[j]]) r (by omega) (by simp; omega) h h0
              exact ⟨e, x, e1, e2, by omega, e4⟩
      · rw [t_end a hge] at h
        obtain rfl := Option.some.inj h
        exact absurd (show (10 : Int) = 0 from h0) (by decide)

theorem Ev.uniq' {α : Type} {m : Nat → Option α} {a b : α} (h : Ev m a) (h2 : Ev m b) : a = b := by
  obtain ⟨K, hK⟩ := h
  obtain ⟨K2, hK2⟩ := h2
  exact Option.some.inj ((hK (max K K2) (by omega)).symm.trans (hK2 (max K K2) (by omega)))

/-- A token of the text is read between brackets as well, one place on. -/
theorem next_brk (hs : s.length ≤ 29990) (h : i < s.length) {t : Token} {e : Nat} (_hok : OkTok s i t e) (ht : ∀ l : List Token, l.length ≤ 6000 → Ev (fun k => tr_next_2 k s (i : Int) l) (putR l (e : Int) t)) :
    ∀ m : List Token, m.length ≤ 6000 → Ev (fun k => tr_next_2 k (brk s) ((i + 1 : Nat) : Int) m) (putR m ((e + 1 : Nat) : Int) (up1 t)) := by
  intro m hm
  have hbl := brk_len s
  have h2 : i + 1 < (brk s).length := by omega
  have hat := brk_at h h2
  have h0 := ht [] (by simp)
  have hput : putR [] (e : Int) t = ((e : Int), [t], 0) := by unfold putR; rw [if_neg (by simp)]; rfl
  have hputx : ∀ (e' : Int) t', putR [] e' t' = (e', [t'], 0) := fun e' t' => by unfold putR; rw [if_neg (by simp)]; rfl
  rw [hput] at h0
  have N10 : isN 10 = false := by decide
  have D10 : isD 10 = false := by decide
  cases hl : isL s[i] with
  | true =>
    have a := Ev.uniq' h0 (next_name (by omega) h hl (l := []) (by simp))
    have b := next_name (s := brk s) (by omega) h2 (by rw [hat]; exact hl) hm
    have hr := run_le isN s (show i ≤ s.length by omega)
    rw [run_brk N10 (by omega), sub_brk hr.2 hr.1] at b
    by_cases h30 : (30 : Int) < (run isN s i : Int) - (i : Int)
    · rw [if_pos h30] at a; exact absurd (show (0 : Int) = 10 from congrArg (fun x => x.2.2) a) (by decide)
    · rw [if_neg h30, hputx] at a
      rw [if_neg (by omega)] at b
      have e1 : e = run isN s i := by have := congrArg (fun x => x.1) a; simp only at this; omega
      have e2 : t = Token.mk 1 (sub s (i : Int) (run isN s i : Int)) 0 (i : Int) := by have := congrArg (fun x => x.2.1) a; simp only at this; exact (List.cons.inj this).1
      rw [e1, e2]
      exact b
  | false =>
    cases hd : isD s[i] with
    | true =>
      have a := Ev.uniq' h0 (next_number (by omega) h hl hd (l := []) (by simp))
      have b := next_number (s := brk s) (by omega) h2 (by rw [hat]; exact hl) (by rw [hat]; exact hd) hm
      have hr := run_le isD s (show i ≤ s.length by omega)
      rw [run_brk D10 (by omega), sub_brk hr.2 hr.1] at b
      by_cases h18 : (18 : Int) < (run isD s i : Int) - (i : Int)
      · rw [if_pos h18] at a; exact absurd (show (0 : Int) = 10 from congrArg (fun x => x.2.2) a) (by decide)
      · rw [if_neg h18, hputx] at a
        rw [if_neg (by omega)] at b
        have e1 : e = run isD s i := by have := congrArg (fun x => x.1) a; simp only at this; omega
        have e2 : t = Token.mk 2 (sub s (i : Int) (run isD s i : Int)) (numv 0 (sub s (i : Int) (run isD s i : Int))) (i : Int) := by have := congrArg (fun x => x.2.1) a; simp only at this; exact (List.cons.inj this).1
        rw [e1, e2]
        exact b
    | false =>
      by_cases hq : s[i] = 39
      · have P : ∀ (u : Str) (i : Nat) (h : i < u.length), u.length ≤ 30000 → isL u[i] = false → isD u[i] = false → u[i] = 39 → ∀ k l, tr_next_2 k u (i : Int) l = tr_text_2_l4 (k + 1) u ((i + 1 : Nat) : Int) l [] (i : Int) := by
          intro u i h hu hl hd hq k l
          rw [next_split h, hl, hd, if_neg (by decide), if_neg (by decide), if_pos hq]
          unfold tr_text_2
          rw [wrap_one (by omega)]
          rfl
        obtain ⟨K, hK⟩ := h0
        refine ⟨K, fun k hk => ?_⟩
        have g : tr_next_2 k s (i : Int) [] = _ := hK k hk
        rw [P s i h (by omega) hl hd hq] at g
        obtain ⟨e', x, e1, e2, e3, e4⟩ := text_rel (by omega) (i : Int) ((i + 1 : Nat) : Int) (l := []) (by simp) hm (k + 1) (i + 1) [] _ (by omega) (by simp) g rfl
        rw [hputx] at e1
        have u1 : e = e' := by have := congrArg (fun x => x.1) e1; simp only at this; omega
        have u2 : t = Token.mk 3 x 0 (i : Int) := by have := congrArg (fun x => x.2.1) e1; simp only at this; exact (List.cons.inj this).1
        show tr_next_2 k (brk s) ((i + 1 : Nat) : Int) m = _
        rw [P (brk s) (i + 1) h2 (by omega) (by rw [hat]; exact hl) (by rw [hat]; exact hd) (by rw [hat]; exact hq), u1, u2]
        exact e4
      · have a := Ev.uniq' h0 (next_mark (by omega) h hl hd hq (l := []) (by simp))
        have b := next_mark (s := brk s) (by omega) h2 (by rw [hat]; exact hl) (by rw [hat]; exact hd) (by rw [hat]; exact hq) hm
        have hne : s.drop i ≠ [] := by rw [drop_at h]; exact List.cons_ne_nil _ _
        rw [brk_drop s (i := i) (by omega), find_brk _ hne] at b
        cases hf : Mks.find? (pre (s.drop i)) with
        | none => rw [hf] at a; exact absurd (show (0 : Int) = 10 from congrArg (fun x => x.2.2) a) (by decide)
        | some x =>
          rw [hf] at a b
          have b' : Ev (fun k => tr_next_2 k (brk s) ((i + 1 : Nat) : Int) m) (putR m ((i + 1 + x.length : Nat) : Int) (Token.mk 4 x 0 ((i + 1 : Nat) : Int))) := b
          have a : ((e : Int), [t], (0 : Int)) = putR [] ((i + x.length : Nat) : Int) (Token.mk 4 x 0 (i : Int)) := a
          rw [hputx] at a
          have e1 : e = i + x.length := by have := congrArg (fun x => x.1) a; simp only at this; omega
          have e2 : t = Token.mk 4 x 0 (i : Int) := by have := congrArg (fun x => x.2.1) a; simp only at this; exact (List.cons.inj this).1
          rw [e1, e2, show i + x.length + 1 = i + 1 + x.length by omega]
          exact b'

end Go.Syn
