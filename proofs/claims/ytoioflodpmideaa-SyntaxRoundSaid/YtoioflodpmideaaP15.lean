/- Plain laws of the two scanners: marks. (The cascade of marks is printed by a program of this session.) -/
import Derived.Test.YtoioflodpmideaaP14
namespace Go.Syn
open Go.Abs

variable {s : Str} {i : Nat}

noncomputable def Mks : List Str := [s_x7cx7c, s_x3cx3e, s_x3cx3d, s_x3ex3d, s_x28, s_x29, s_x2c, s_x3b, s_x2e, s_x2a, s_x2b, s_x2d, s_x2f, s_x25, s_x3d, s_x3c, s_x3e, s_x7b, s_x7d, s_x3a]

def pre (u : Str) (m : Str) : Bool := decide (u.take m.length = m)

noncomputable def mkR (l : List Token) (i : Nat) : Option Str → Int × List Token × Int
  | some x => putR l ((i + x.length : Nat) : Int) (Token.mk 4 x 0 (i : Int))
  | none => ((i : Int), l, 10)

theorem j2_zero (l : List Token) (u : Str) : tr_mark_2_j2 s (i : Int) l (i : Int) 0 u = some (mkR l i none) := by
  unfold tr_mark_2_j2
  rw [if_pos rfl]
  rfl

theorem j2_one {l : List Token} (hl : l.length ≤ 6000) (hi : i < 1000000) (c : UInt8) (r : Str) : tr_mark_2_j2 s (i : Int) l (i : Int) 1 (c :: r) = some (mkR l i (some [c])) := by
  unfold tr_mark_2_j2
  rw [if_neg (by omega), chk_yes ⟨by omega, by omega, by simp; omega⟩, wrap_one hi, put_eq _ _ _ hl, put_eta]
  rfl

theorem j2_two {l : List Token} (hl : l.length ≤ 6000) (hi : i < 1000000) (c d : UInt8) (r : Str) : tr_mark_2_j2 s (i : Int) l (i : Int) 2 (c :: d :: r) = some (mkR l i (some [c, d])) := by
  unfold tr_mark_2_j2
  rw [if_neg (by omega), chk_yes ⟨by omega, by omega, by simp; omega⟩, show IntKind.i64.wrap ((i : Int) + 2) = ((i + 2 : Nat) : Int) from wrap_nat (m := 2) hi (by decide), put_eq _ _ _ hl, put_eta]
  rfl

theorem j3_nil {l : List Token} (hl : l.length ≤ 6000) (hi : i < 1000000) (c : UInt8) : tr_mark_2_j3 s (i : Int) l (i : Int) [c] = some (mkR l i (some [c])) := by
  unfold tr_mark_2_j3 tr_mark_2_j5
  rw [if_neg (by simp)]
  exact j2_one hl hi c []

theorem j3_cons {l : List Token} (hl : l.length ≤ 6000) (hi : i < 1000000) (c d : UInt8) (r : Str) : tr_mark_2_j3 s (i : Int) l (i : Int) (c :: d :: r) = some (mkR l i (if d = 61 then some [c, d] else some [c])) := by
  unfold tr_mark_2_j3 tr_mark_2_j5
  have hb : byteAt (c :: d :: r) 1 = (d.toNat : Int) := rfl
  rw [if_pos (by simp; omega), chk_yes ⟨by omega, by simp; omega⟩, hb]
  by_cases h : d = 61
  · rw [if_pos (by rw [h]; rfl), if_pos h]
    exact j2_two hl hi c d r
  · rw [if_neg (fun e => h (UInt8.toNat_inj.1 (by show _ = 61; omega))), if_neg h]
    exact j2_one hl hi c (d :: r)

theorem j4_yes {l : List Token} (hl : l.length ≤ 6000) (hi : i < 1000000) (c : UInt8) (r : Str) {b : Bool} (hb : b = true) : tr_mark_2_j4 s (i : Int) l (i : Int) (c :: r) b = some (mkR l i (some [c])) := by
  unfold tr_mark_2_j4
  rw [if_pos hb]
  exact j2_one hl hi c r

theorem j4_no {l : List Token} (u : Str) {b : Bool} (hb : b = false) : tr_mark_2_j4 s (i : Int) l (i : Int) u b = some (mkR l i none) := by
  unfold tr_mark_2_j4
  rw [if_neg (by simp [hb])]
  exact j2_zero l u

theorem mark_prog (h : i < s.length) (hs : s.length ≤ 30000) {l : List Token} (hl : l.length ≤ 6000) : tr_mark_2 s (i : Int) l = some (mkR l i (Mks.find? (pre (s.drop i)))) := by
  unfold tr_mark_2
  have hi : i < 1000000 := by omega
  have hu : 0 < (s.drop i).length := by rw [List.length_drop]; omega
  rw [sub_end, chk_yes ⟨by omega, by omega, by omega⟩, chk_yes ⟨by omega, by omega⟩]
  generalize s.drop i = u at hu
  cases u with
  | nil => simp at hu
  | cons c r =>
    have hb : byteAt (c :: r) 0 = (c.toNat : Int) := rfl
    rw [hb]
    by_cases h124 : c = 124
    · subst h124
      rw [if_pos (by decide), prefix_eq, Option.bind_some]
      cases r with
      | nil => simp [tr_mark_2_j1, j2_zero, Mks, pre, s_x7cx7c, s_x3cx3e, s_x3cx3d, s_x3ex3d, s_x28, s_x29, s_x2c, s_x3b, s_x2e, s_x2a, s_x2b, s_x2d, s_x2f, s_x25, s_x3d, s_x3c, s_x3e, s_x7b, s_x7d, s_x3a]
      | cons d r =>
        by_cases hd : d = 124
        · subst hd
          rw [if_pos (by simp [s_x7cx7c])]
          simp [tr_mark_2_j1, j2_two hl hi, Mks, pre, s_x7cx7c, s_x3cx3e, s_x3cx3d, s_x3ex3d, s_x28, s_x29, s_x2c, s_x3b, s_x2e, s_x2a, s_x2b, s_x2d, s_x2f, s_x25, s_x3d, s_x3c, s_x3e, s_x7b, s_x7d, s_x3a]
        · rw [if_neg (by simp [s_x7cx7c, hd])]
          simp [tr_mark_2_j1, j2_zero, hd, Mks, pre, s_x7cx7c, s_x3cx3e, s_x3cx3d, s_x3ex3d, s_x28, s_x29, s_x2c, s_x3b, s_x2e, s_x2a, s_x2b, s_x2d, s_x2f, s_x25, s_x3d, s_x3c, s_x3e, s_x7b, s_x7d, s_x3a]
    by_cases h60 : c = 60
    · subst h60
      rw [if_neg (by decide)]
      rw [if_pos (by decide), prefix_eq, Option.bind_some]
      cases r with
      | nil => simp [j3_nil hl hi, Mks, pre, s_x7cx7c, s_x3cx3e, s_x3cx3d, s_x3ex3d, s_x28, s_x29, s_x2c, s_x3b, s_x2e, s_x2a, s_x2b, s_x2d, s_x2f, s_x25, s_x3d, s_x3c, s_x3e, s_x7b, s_x7d, s_x3a]
      | cons d r =>
        by_cases hd : d = 62
        · subst hd
          rw [if_pos (by simp [s_x3cx3e])]
          simp [j2_two hl hi, Mks, pre, s_x7cx7c, s_x3cx3e, s_x3cx3d, s_x3ex3d, s_x28, s_x29, s_x2c, s_x3b, s_x2e, s_x2a, s_x2b, s_x2d, s_x2f, s_x25, s_x3d, s_x3c, s_x3e, s_x7b, s_x7d, s_x3a]
        · rw [if_neg (by simp [s_x3cx3e, hd]), j3_cons hl hi]
          by_cases he : d = 61
          · subst he
            simp [Mks, pre, s_x7cx7c, s_x3cx3e, s_x3cx3d, s_x3ex3d, s_x28, s_x29, s_x2c, s_x3b, s_x2e, s_x2a, s_x2b, s_x2d, s_x2f, s_x25, s_x3d, s_x3c, s_x3e, s_x7b, s_x7d, s_x3a]
          · simp [hd, he, Mks, pre, s_x7cx7c, s_x3cx3e, s_x3cx3d, s_x3ex3d, s_x28, s_x29, s_x2c, s_x3b, s_x2e, s_x2a, s_x2b, s_x2d, s_x2f, s_x25, s_x3d, s_x3c, s_x3e, s_x7b, s_x7d, s_x3a]
    by_cases h62 : c = 62
    · subst h62
      rw [if_neg (by decide)]
      rw [if_neg (by decide)]
      rw [if_pos (by decide)]
      cases r with
      | nil => simp [j3_nil hl hi, Mks, pre, s_x7cx7c, s_x3cx3e, s_x3cx3d, s_x3ex3d, s_x28, s_x29, s_x2c, s_x3b, s_x2e, s_x2a, s_x2b, s_x2d, s_x2f, s_x25, s_x3d, s_x3c, s_x3e, s_x7b, s_x7d, s_x3a]
      | cons d r =>
        rw [j3_cons hl hi]
        by_cases he : d = 61
        · subst he
          simp [Mks, pre, s_x7cx7c, s_x3cx3e, s_x3cx3d, s_x3ex3d, s_x28, s_x29, s_x2c, s_x3b, s_x2e, s_x2a, s_x2b, s_x2d, s_x2f, s_x25, s_x3d, s_x3c, s_x3e, s_x7b, s_x7d, s_x3a]
        · simp [he, Mks, pre, s_x7cx7c, s_x3cx3e, s_x3cx3d, s_x3ex3d, s_x28, s_x29, s_x2c, s_x3b, s_x2e, s_x2a, s_x2b, s_x2d, s_x2f, s_x25, s_x3d, s_x3c, s_x3e, s_x7b, s_x7d, s_x3a]
    by_cases h40 : c = 40
    · subst h40
      rw [if_neg (by decide)]
      rw [if_neg (by decide)]
      rw [if_neg (by decide)]
      rw [if_pos (by decide), j4_yes hl hi _ _ (by decide)]
      simp [Mks, pre, s_x7cx7c, s_x3cx3e, s_x3cx3d, s_x3ex3d, s_x28, s_x29, s_x2c, s_x3b, s_x2e, s_x2a, s_x2b, s_x2d, s_x2f, s_x25, s_x3d, s_x3c, s_x3e, s_x7b, s_x7d, s_x3a]
    by_cases h41 : c = 41
    · subst h41
      rw [if_neg (by decide)]
      rw [if_neg (by decide)]
      rw [if_neg (by decide)]
      rw [if_neg (by decide)]
      rw [if_pos (by decide), j4_yes hl hi _ _ (by decide)]
      simp [Mks, pre, s_x7cx7c, s_x3cx3e, s_x3cx3d, s_x3ex3d, s_x28, s_x29, s_x2c, s_x3b, s_x2e, s_x2a, s_x2b, s_x2d, s_x2f, s_x25, s_x3d, s_x3c, s_x3e, s_x7b, s_x7d, s_x3a]
    by_cases h44 : c = 44
    · subst h44
      rw [if_neg (by decide)]
      rw [if_neg (by decide)]
      rw [if_neg (by decide)]
      rw [if_neg (by decide)]
      rw [if_neg (by decide)]
      rw [if_pos (by decide), j4_yes hl hi _ _ (by decide)]
      simp [Mks, pre, s_x7cx7c, s_x3cx3e, s_x3cx3d, s_x3ex3d, s_x28, s_x29, s_x2c, s_x3b, s_x2e, s_x2a, s_x2b, s_x2d, s_x2f, s_x25, s_x3d, s_x3c, s_x3e, s_x7b, s_x7d, s_x3a]
    by_cases h59 : c = 59
    · subst h59
      rw [if_neg (by decide)]
      rw [if_neg (by decide)]
      rw [if_neg (by decide)]
      rw [if_neg (by decide)]
      rw [if_neg (by decide)]
      rw [if_neg (by decide)]
      rw [if_pos (by decide), j4_yes hl hi _ _ (by decide)]
      simp [Mks, pre, s_x7cx7c, s_x3cx3e, s_x3cx3d, s_x3ex3d, s_x28, s_x29, s_x2c, s_x3b, s_x2e, s_x2a, s_x2b, s_x2d, s_x2f, s_x25, s_x3d, s_x3c, s_x3e, s_x7b, s_x7d, s_x3a]
    by_cases h46 : c = 46
    · subst h46
      rw [if_neg (by decide)]
      rw [if_neg (by decide)]
      rw [if_neg (by decide)]
      rw [if_neg (by decide)]
      rw [if_neg (by decide)]
      rw [if_neg (by decide)]
      rw [if_neg (by decide)]
      rw [if_pos (by decide), j4_yes hl hi _ _ (by decide)]
      simp [Mks, pre, s_x7cx7c, s_x3cx3e, s_x3cx3d, s_x3ex3d, s_x28, s_x29, s_x2c, s_x3b, s_x2e, s_x2a, s_x2b, s_x2d, s_x2f, s_x25, s_x3d, s_x3c, s_x3e, s_x7b, s_x7d, s_x3a]
    by_cases h42 : c = 42
    · subst h42
      rw [if_neg (by decide)]
      rw [if_neg (by decide)]
      rw [if_neg (by decide)]
      rw [if_neg (by decide)]
      rw [if_neg (by decide)]
      rw [if_neg (by decide)]
      rw [if_neg (by decide)]
      rw [if_neg (by decide)]
      rw [if_pos (by decide), j4_yes hl hi _ _ (by decide)]
      simp [Mks, pre, s_x7cx7c, s_x3cx3e, s_x3cx3d, s_x3ex3d, s_x28, s_x29, s_x2c, s_x3b, s_x2e, s_x2a, s_x2b, s_x2d, s_x2f, s_x25, s_x3d, s_x3c, s_x3e, s_x7b, s_x7d, s_x3a]
    by_cases h43 : c = 43
    · subst h43
      rw [if_neg (by decide)]
      rw [if_neg (by decide)]
      rw [if_neg (by decide)]
      rw [if_neg (by decide)]
      rw [if_neg (by decide)]
      rw [if_neg (by decide)]
      rw [if_neg (by decide)]
      rw [if_neg (by decide)]
      rw [if_neg (by decide)]
      rw [if_pos (by decide), j4_yes hl hi _ _ (by decide)]
      simp [Mks, pre, s_x7cx7c, s_x3cx3e, s_x3cx3d, s_x3ex3d, s_x28, s_x29, s_x2c, s_x3b, s_x2e, s_x2a, s_x2b, s_x2d, s_x2f, s_x25, s_x3d, s_x3c, s_x3e, s_x7b, s_x7d, s_x3a]
    by_cases h45 : c = 45
    · subst h45
      rw [if_neg (by decide)]
      rw [if_neg (by decide)]
      rw [if_neg (by decide)]
      rw [if_neg (by decide)]
      rw [if_neg (by decide)]
      rw [if_neg (by decide)]
      rw [if_neg (by decide)]
      rw [if_neg (by decide)]
      rw [if_neg (by decide)]
      rw [if_neg (by decide)]
      rw [if_pos (by decide), j4_yes hl hi _ _ (by decide)]
      simp [Mks, pre, s_x7cx7c, s_x3cx3e, s_x3cx3d, s_x3ex3d, s_x28, s_x29, s_x2c, s_x3b, s_x2e, s_x2a, s_x2b, s_x2d, s_x2f, s_x25, s_x3d, s_x3c, s_x3e, s_x7b, s_x7d, s_x3a]
    by_cases h47 : c = 47
    · subst h47
      rw [if_neg (by decide)]
      rw [if_neg (by decide)]
      rw [if_neg (by decide)]
      rw [if_neg (by decide)]
      rw [if_neg (by decide)]
      rw [if_neg (by decide)]
      rw [if_neg (by decide)]
      rw [if_neg (by decide)]
      rw [if_neg (by decide)]
      rw [if_neg (by decide)]
      rw [if_neg (by decide)]
      rw [if_pos (by decide), j4_yes hl hi _ _ (by decide)]
      simp [Mks, pre, s_x7cx7c, s_x3cx3e, s_x3cx3d, s_x3ex3d, s_x28, s_x29, s_x2c, s_x3b, s_x2e, s_x2a, s_x2b, s_x2d, s_x2f, s_x25, s_x3d, s_x3c, s_x3e, s_x7b, s_x7d, s_x3a]
    by_cases h37 : c = 37
    · subst h37
      rw [if_neg (by decide)]
      rw [if_neg (by decide)]
      rw [if_neg (by decide)]
      rw [if_neg (by decide)]
      rw [if_neg (by decide)]
      rw [if_neg (by decide)]
      rw [if_neg (by decide)]
      rw [if_neg (by decide)]
      rw [if_neg (by decide)]
      rw [if_neg (by decide)]
      rw [if_neg (by decide)]
      rw [if_neg (by decide)]
      rw [if_pos (by decide), j4_yes hl hi _ _ (by decide)]
      simp [Mks, pre, s_x7cx7c, s_x3cx3e, s_x3cx3d, s_x3ex3d, s_x28, s_x29, s_x2c, s_x3b, s_x2e, s_x2a, s_x2b, s_x2d, s_x2f, s_x25, s_x3d, s_x3c, s_x3e, s_x7b, s_x7d, s_x3a]
    by_cases h61 : c = 61
    · subst h61
      rw [if_neg (by decide)]
      rw [if_neg (by decide)]
      rw [if_neg (by decide)]
      rw [if_neg (by decide)]
      rw [if_neg (by decide)]
      rw [if_neg (by decide)]
      rw [if_neg (by decide)]
      rw [if_neg (by decide)]
      rw [if_neg (by decide)]
      rw [if_neg (by decide)]
      rw [if_neg (by decide)]
      rw [if_neg (by decide)]
      rw [if_neg (by decide)]
      rw [if_pos (by decide), j4_yes hl hi _ _ (by decide)]
      simp [Mks, pre, s_x7cx7c, s_x3cx3e, s_x3cx3d, s_x3ex3d, s_x28, s_x29, s_x2c, s_x3b, s_x2e, s_x2a, s_x2b, s_x2d, s_x2f, s_x25, s_x3d, s_x3c, s_x3e, s_x7b, s_x7d, s_x3a]
    by_cases h123 : c = 123
    · subst h123
      rw [if_neg (by decide)]
      rw [if_neg (by decide)]
      rw [if_neg (by decide)]
      rw [if_neg (by decide)]
      rw [if_neg (by decide)]
      rw [if_neg (by decide)]
      rw [if_neg (by decide)]
      rw [if_neg (by decide)]
      rw [if_neg (by decide)]
      rw [if_neg (by decide)]
      rw [if_neg (by decide)]
      rw [if_neg (by decide)]
      rw [if_neg (by decide)]
      rw [if_neg (by decide)]
      rw [if_pos (by decide), j4_yes hl hi _ _ (by decide)]
      simp [Mks, pre, s_x7cx7c, s_x3cx3e, s_x3cx3d, s_x3ex3d, s_x28, s_x29, s_x2c, s_x3b, s_x2e, s_x2a, s_x2b, s_x2d, s_x2f, s_x25, s_x3d, s_x3c, s_x3e, s_x7b, s_x7d, s_x3a]
    by_cases h125 : c = 125
    · subst h125
      rw [if_neg (by decide)]
      rw [if_neg (by decide)]
      rw [if_neg (by decide)]
      rw [if_neg (by decide)]
      rw [if_neg (by decide)]
      rw [if_neg (by decide)]
      rw [if_neg (by decide)]
      rw [if_neg (by decide)]
      rw [if_neg (by decide)]
      rw [if_neg (by decide)]
      rw [if_neg (by decide)]
      rw [if_neg (by decide)]
      rw [if_neg (by decide)]
      rw [if_neg (by decide)]
      rw [if_neg (by decide)]
      rw [if_pos (by decide), j4_yes hl hi _ _ (by decide)]
      simp [Mks, pre, s_x7cx7c, s_x3cx3e, s_x3cx3d, s_x3ex3d, s_x28, s_x29, s_x2c, s_x3b, s_x2e, s_x2a, s_x2b, s_x2d, s_x2f, s_x25, s_x3d, s_x3c, s_x3e, s_x7b, s_x7d, s_x3a]
    by_cases h58 : c = 58
    · subst h58
      rw [if_neg (by decide)]
      rw [if_neg (by decide)]
      rw [if_neg (by decide)]
      rw [if_neg (by decide)]
      rw [if_neg (by decide)]
      rw [if_neg (by decide)]
      rw [if_neg (by decide)]
      rw [if_neg (by decide)]
      rw [if_neg (by decide)]
      rw [if_neg (by decide)]
      rw [if_neg (by decide)]
      rw [if_neg (by decide)]
      rw [if_neg (by decide)]
      rw [if_neg (by decide)]
      rw [if_neg (by decide)]
      rw [if_neg (by decide)]
      rw [j4_yes hl hi _ _ (by decide)]
      simp [Mks, pre, s_x7cx7c, s_x3cx3e, s_x3cx3d, s_x3ex3d, s_x28, s_x29, s_x2c, s_x3b, s_x2e, s_x2a, s_x2b, s_x2d, s_x2f, s_x25, s_x3d, s_x3c, s_x3e, s_x7b, s_x7d, s_x3a]
    have hn : ∀ (n : UInt8) (m : Int), c ≠ n → (n.toNat : Int) = m → ¬ (c.toNat : Int) = m := fun n m h e e' => h (UInt8.toNat_inj.1 (by omega))
    rw [if_neg (hn 124 124 h124 rfl)]
    rw [if_neg (hn 60 60 h60 rfl)]
    rw [if_neg (hn 62 62 h62 rfl)]
    rw [if_neg (hn 40 40 h40 rfl)]
    rw [if_neg (hn 41 41 h41 rfl)]
    rw [if_neg (hn 44 44 h44 rfl)]
    rw [if_neg (hn 59 59 h59 rfl)]
    rw [if_neg (hn 46 46 h46 rfl)]
    rw [if_neg (hn 42 42 h42 rfl)]
    rw [if_neg (hn 43 43 h43 rfl)]
    rw [if_neg (hn 45 45 h45 rfl)]
    rw [if_neg (hn 47 47 h47 rfl)]
    rw [if_neg (hn 37 37 h37 rfl)]
    rw [if_neg (hn 61 61 h61 rfl)]
    rw [if_neg (hn 123 123 h123 rfl)]
    rw [if_neg (hn 125 125 h125 rfl)]
    rw [j4_no _ (decide_eq_false (hn 58 58 h58 rfl))]
    simp [h124, h60, h62, h40, h41, h44, h59, h46, h42, h43, h45, h47, h37, h61, h123, h125, h58, Mks, pre, s_x7cx7c, s_x3cx3e, s_x3cx3d, s_x3ex3d, s_x28, s_x29, s_x2c, s_x3b, s_x2e, s_x2a, s_x2b, s_x2d, s_x2f, s_x25, s_x3d, s_x3c, s_x3e, s_x7b, s_x7d, s_x3a]

theorem mark_ref_l (h : i < s.length) (hs : s.length ≤ 30000) (l : List Str) (hl : l.length ≤ 1000) (hm : ∀ x ∈ l, x.length ≤ 1000) : ∀ n j : Nat, j + n = l.length →
    Ev (fun k => r05_one_l5 k s (i : Int) l (j : Int)) (match (l.drop j).find? (pre (s.drop i)) with | some x => (Token.mk 4 x 0 (i : Int), ((i + x.length : Nat) : Int), 0, 0) | none => (Token.mk 0 [] 0 0, 0, (i : Int), 10)) := by
  intro n
  induction n with
  | zero =>
    intro j hj
    refine Ev.step (Ev.now fun k => ?_)
    show r05_one_l5_b (tab_r05_one_j6 k) s (i : Int) l (j : Int) = _
    unfold r05_one_l5_b
    rw [if_neg (by omega), List.drop_of_length_le (show l.length ≤ j by omega)]
    rfl
  | succ n ih =>
    intro j hj
    have hlt : j < l.length := by omega
    have hx : idx l (j : Int) = some l[j] := by unfold idx; rw [if_pos (by omega)]; simp [hlt]
    have hd : l.drop j = l[j] :: l.drop (j + 1) := List.drop_eq_getElem_cons hlt
    have hxl := hm l[j] (List.getElem_mem hlt)
    refine Ev.step ?_
    show Ev (fun k => r05_one_l5_b (tab_r05_one_j6 k) s (i : Int) l (j : Int)) _
    unfold r05_one_l5_b
    simp only [if_pos (show (j : Int) < (l.length : Int) by omega), hx, Option.bind_some, hd, List.find?_cons, wrap_sub (show i ≤ s.length by omega) hs, wrap_nat (show i < 1000000 by omega) (show l[j].length < 1000000 by omega), sub_nat, show i + l[j].length - i = l[j].length by omega]
    have tail : pre (s.drop i) l[j] = false → Ev (fun k => r05_one_j6_b (tab_r05_one_j6 k) s (i : Int) l (j : Int) false) (match (match pre (s.drop i) l[j] with | true => some l[j] | false => (l.drop (j + 1)).find? (pre (s.drop i))) with | some x => (Token.mk 4 x 0 (i : Int), ((i + x.length : Nat) : Int), 0, 0) | none => (Token.mk 0 [] 0 0, 0, (i : Int), 10)) := by
      intro hp
      rw [hp]
      unfold r05_one_j6_b
      simp only [Bool.false_eq_true, if_false, wrap_one (show j < 1000000 by omega)]
      exact ih (j + 1) (by omega)
    by_cases hc : (l[j].length : Int) ≤ (s.length : Int) - (i : Int)
    · simp only [if_pos hc, chk_yes (show 0 ≤ (i : Int) ∧ (i : Int) ≤ ((i + l[j].length : Nat) : Int) ∧ ((i + l[j].length : Nat) : Int) ≤ (s.length : Int) by omega)]
      by_cases hp : (s.drop i).take l[j].length = l[j]
      · have hp' : pre (s.drop i) l[j] = true := decide_eq_true hp
        simp only [decide_eq_true hp, hp']
        unfold r05_one_j6_b
        simp only [if_true, hx, Option.bind_some, wrap_nat (show i < 1000000 by omega) (show l[j].length < 1000000 by omega)]
        exact Ev.now fun _ => rfl
      · simp only [decide_eq_false hp]
        exact tail (decide_eq_false hp)
    · simp only [if_neg hc]
      refine tail (decide_eq_false fun e => ?_)
      have := congrArg List.length e
      rw [List.length_take, List.length_drop] at this
      omega

theorem mks_marky : ∀ x ∈ Mks, Marky x ∧ 0 < x.length ∧ x.length ≤ 2 := by
  intro x hx
  unfold Mks at hx
  simp only [List.mem_cons, List.not_mem_nil, or_false] at hx
  rcases hx with rfl | rfl | rfl | rfl | rfl | rfl | rfl | rfl | rfl | rfl | rfl | rfl | rfl | rfl | rfl | rfl | rfl | rfl | rfl | rfl <;> exact ⟨⟨_, _, rfl, by decide⟩, by decide, by decide⟩

theorem one_mark (hs : s.length ≤ 30000) (h : i < s.length) (hl : isL s[i] = false) (hd : isD s[i] = false) (hq : ¬ s[i] = 39) : One s i := by
  have hqi : ¬ (s[i].toNat : Int) = 39 := fun e => hq (UInt8.toNat_inj.1 (by show _ = 39; omega))
  have R : ∀ k, r05_one k s (i : Int) = r05_one_l5 k s (i : Int) Mks 0 := by
    intro k
    rw [one_split h, hl, if_neg (by decide), hd]
    unfold r05_one_j1
    rw [if_neg (by decide), chk_yes (by omega), byteAt_at h, if_neg hqi]
    rfl
  have P : ∀ k (l : List Token), l.length ≤ 6000 → tr_next_2 k s (i : Int) l = some (mkR l i (Mks.find? (pre (s.drop i)))) := by
    intro k l hl'
    rw [next_split h, hl, hd, if_neg (by decide), if_neg (by decide), if_neg hq, mark_prog h hs hl']
  have hr := mark_ref_l h hs Mks (by decide) (fun x hx => by have := (mks_marky x hx).2.2; omega) _ 0 (Nat.zero_add _)
  rw [List.drop_zero] at hr
  cases hf : Mks.find? (pre (s.drop i)) with
  | none =>
    rw [hf] at hr
    refine .inr ⟨i, by omega, ?_, fun l hl' => ?_⟩
    · simp only [R]; exact hr
    · simp only [P _ l hl', hf]; exact Ev.now fun _ => rfl
  | some x =>
    rw [hf] at hr
    have hm := mks_marky x (List.mem_of_find?_eq_some hf)
    have hp0 : pre (s.drop i) x = true := List.find?_some hf
    have hp : (s.drop i).take x.length = x := of_decide_eq_true hp0
    have hxl := congrArg List.length hp
    rw [List.length_take, List.length_drop] at hxl
    refine .inl ⟨Token.mk 4 x 0 (i : Int), i + x.length, ⟨by omega, by omega, rfl, show (4 : Int) ≠ 0 by decide, fun hk => absurd (show (4 : Int) = 1 from hk) (by decide), fun _ => hm.1⟩, ?_, fun l hl' => ?_⟩
    · simp only [R]; exact hr
    · simp only [P _ l hl', hf]; exact Ev.now fun _ => rfl

theorem one_all (hs : s.length ≤ 30000) (h : i < s.length) : One s i := by
  cases hl : isL s[i] with
  | true => exact one_name hs h hl
  | false =>
    cases hd : isD s[i] with
    | true => exact one_number hs h hl hd
    | false =>
      by_cases hq : s[i] = 39
      · exact one_text hs h hl hd hq
      · exact one_mark hs h hl hd hq

end Go.Syn
