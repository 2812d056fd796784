/- The ends of both parsers, side by side; what alive answers. -/
import Derived.Test.YtoioflodpmideaaP16
import Derived.Test.YtoioflodpmideaaP10
import Derived.WalkKit
import Derived.ProofKit
namespace Go.Syn
open Go.Abs Go.Proofs.Try

theorem alive_k (k : Nat) : l06_alive (k + 60) = some true := by kernel_rfl
theorem alive_ev : Ev l06_alive true := ⟨60, fun k hk => by obtain ⟨j, rfl⟩ : ∃ j, k = j + 60 := ⟨k - 60, by omega⟩; exact alive_k j⟩

theorem str_rv (s : Str) (g : Gh) : ∀ (i : Nat) (v : Value) (a : V), (#[Value.string ⟨s.toArray⟩] : Array Value)[i]? = some v → [V.one (.str s)][i]? = some a → RV g v a := by
  intro i v a hv ha
  match i, hv, ha with
  | 0, hv, ha => cases hv; cases ha; exact rv_str (by simp)

variable {t : List Token} {p : Parser} {q : PT}

theorem end_ref (q : PT) (h : q.E ≠ 0) : r06_P_End q = some (q, q.At, q.E) := by
  unfold r06_P_End r06_P_End_j1
  rw [if_neg h, if_neg h]

/-- The ends of both, side by side. -/
theorem ends (h : Sim t p q) : ∃ z, sp_now p = some z ∧
    ((z.Kind = 0 ∧ p.e = 0 ∧ r06_P_End q = some (q, 0, 0)) ∨ (z.Kind = 0 ∧ p.e ≠ 0 ∧ ∃ q', r06_P_End q = some (q', p.at_, p.e)) ∨
     (z.Kind ≠ 0 ∧ ∃ p' q', sp_fail p 10 = some p' ∧ p'.e ≠ 0 ∧ r06_P_End q = some (q', p'.at_, p'.e))) := by
  obtain ⟨z, h1, h2, h3⟩ := now_some h
  refine ⟨z, h1, ?_⟩
  obtain ⟨p2, q2, b1, b2, b3, b4, b5, b6⟩ := bad_sim h (n := 10) (by decide)
  by_cases he : p.e = 0
  · have hE : q.E = 0 := by rw [h.e]; exact he
    obtain ⟨g1, g2, _⟩ := h.live he
    have hx : idx q.T q.I = some z := by
      have : q.T = p.t ∧ q.I = p.i := by rw [g1, g2]; exact ⟨rfl, rfl⟩
      rw [this.1, this.2]; exact h2
    by_cases hk : z.Kind = 0
    · refine .inl ⟨hk, he, ?_⟩
      unfold r06_P_End r06_P_End_j1
      rw [if_pos hE, hx, Option.bind_some, if_pos hk, if_pos hE]
    · refine .inr (.inr ⟨hk, p2, q2, b1, b4, ?_⟩)
      unfold r06_P_End r06_P_End_j1
      rw [if_pos hE, hx, Option.bind_some, if_neg hk, b2, Option.bind_some, if_neg (by rw [b3.e]; exact b4), b3.e, b3.at_]
  · have hE : q.E ≠ 0 := by rw [h.e]; exact he
    by_cases hk : z.Kind = 0
    · exact .inr (.inl ⟨hk, he, q, by rw [end_ref q hE, h.e, h.at_]⟩)
    · obtain ⟨rfl, rfl⟩ := b6 he
      exact .inr (.inr ⟨hk, p2, q2, b1, b4, by rw [end_ref q2 hE, h.e, h.at_]⟩)

theorem start_sim {l : List Token} (ht : Toks l) : Sim l (Parser.mk l 0 0 0 0) (PT.mk l 0 0 0 0) :=
  ⟨rfl, Int.le_refl _, by show (0 : Int) < l.length; have := ht.ne; omega, .inl ⟨rfl, Int.le_refl _, by show (0 : Int) ≤ 40; omega, rfl⟩⟩

end Go.Syn
