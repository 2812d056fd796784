/- The rules as printed proofs use them. -/
import Derived.Test.YtoioflodpmideaaAbs18
namespace Go.Abs

/-- A region's run, and the state that is told on. -/
def regA (H : Ctr) (L : Lay) (draw : Bool) (ops : Array Oper) (tbl : List (Nat × Orc)) (reps : List (Nat × V)) (cs : List Co) (live : List Nat) (m : List (Nat × Nat)) (next : Nat) (st : St) : Option (St × List Prop) :=
  match runA H L st.next tbl reps ops.toList 0 ops.toList st with
  | some (st1, ps, fs) => cond (!draw || (drawOk st.next fs (predsGo ops.toList []) && downOk ops.toList 0)) (match st1.fin cs live m next with
    | some st2 => some (st2, ps)
    | none => none) none
  | none => none

def retA (L : Lay) (st : St) (rs : List ResultVar) (cs : List Co) (m : List (Nat × Nat)) (n : Nat) (d : Bool) : Option (List O × V) :=
  match resV L st rs, st.fin cs [] m n with
  | some v, some st' => match unnumber st'.objs 0 n with
    | some objs => some (objs, cond d (v.ren m).data (v.ren m))
    | none => none
  | _, _ => none

/-- What a body must come to. -/
def Fin (L : Lay) (rs : List ResultVar) (k : Nat) (Q : List O → V → Prop) : Exit → St → Prop := fun e st => (e = .normal ∨ e = .ret) ∧
  ∃ cs m n st' objs' v d, resV L st rs = some v ∧ st.fin cs [] m n = some st' ∧ unnumber st'.objs 0 n = some objs' ∧ k ≤ n ∧ Q objs' (cond d (v.ren m).data (v.ren m))

theorem fin_of {L : Lay} {rs : List ResultVar} {k : Nat} {Q : List O → V → Prop} {e : Exit} {st : St} (he : e = .normal ∨ e = .ret) (cs : List Co) (m : List (Nat × Nat)) (n : Nat) (d : Bool) (objs : List O) (v : V)
    (h : retA L st rs cs m n d = some (objs, v)) (hk : k ≤ n) (hQ : Q objs v) : Fin L rs k Q e st := by
  unfold retA at h
  split at h
  · rename_i u st' hu hst
    split at h
    · rename_i os hos
      simp only [Option.some.injEq, Prod.mk.injEq] at h
      obtain ⟨rfl, rfl⟩ := h
      exact ⟨he, cs, m, n, st', os, u, d, hu, hst, hos, hk, hQ⟩
    · cases h
  · cases h

theorem AllP.nil : AllP [] := trivial
theorem AllP.cons {p : Prop} {r : List Prop} (h : p) (t : AllP r) : AllP (p :: r) := ⟨h, t⟩

section
variable {P : Program} {L : Lay} {cx : Cx} {st : St} {Q : Exit → St → Prop}

theorem aw_reg (hL : LOk P L) (hmix : P.follows .mixedOrders = true) {id : Nat} {ops : Array Oper} {draw : Bool} (tbl : List (Nat × Orc)) (reps : List (Nat × V)) (cs : List Co) (live : List Nat) (m : List (Nat × Nat)) (next : Nat) (st2 : St) (ps : List Prop)
    (hx : regA (Has P) L draw ops tbl reps cs live m next st = some (st2, ps)) (hp : AllP ps) (h : Q .normal st2) : AW P cx (.region id ops draw) st Q := by
  unfold regA at hx
  split at hx
  · rename_i st1 ps1 fs hr
    cases hc : (!draw || (drawOk st.next fs (predsGo ops.toList []) && downOk ops.toList 0)) with
    | false => rw [hc] at hx; cases hx
    | true =>
      rw [hc] at hx
      simp only [cond_true] at hx
      split at hx
      · rename_i st2' hf
        simp only [Option.some.injEq, Prod.mk.injEq] at hx
        obtain ⟨rfl, rfl⟩ := hx
        cases draw with
        | false => exact aw_region hL hr hf hp h
        | true => exact aw_draw hL hmix hr (by simpa using hc) hf hp h
      · cases hx
  · cases hx

/-- Ways that meet. -/
theorem aw_join {ι : Type} (S : ι → St) (G : ι → Prop) {c : Code} (h : AW P cx c st (thenA (fun s => ∃ i, s = S i ∧ G i) Q)) (hj : ∀ i, G i → Q .normal (S i)) : AW P cx c st Q :=
  h.mono fun e s hq => by
    cases e with
    | normal => obtain ⟨i, rfl, hG⟩ := hq; exact hj i hG
    | _ => exact hq

/-- A loop, by a function with a bound on its rounds. -/
theorem aw_iter {ι : Type} {ρ : Type} (S : ι → St) (f : Nat → ι → Option ρ) (r : ρ) {c : Code} (k : Nat) (i : ι) (hs : st = S i) (h : f k i = some r) (round : ∀ n i, n ≤ k → f n i = some r → AW P cx c (S i) (thenA (fun s => ∃ n' i', n' < n ∧ s = S i' ∧ f n' i' = some r) Q)) :
    AW P cx (.loop c) st Q := by
  subst hs
  refine aw_loop (fun n s => n ≤ k ∧ ∃ i, s = S i ∧ f n i = some r) k ⟨Nat.le_refl _, i, rfl, h⟩ ?_
  rintro n s ⟨hn, i, rfl, hf⟩
  refine (round n i hn hf).mono fun e s hq => ?_
  cases e with
  | normal => obtain ⟨n', i', h1, h2, h3⟩ := hq; exact ⟨n', h1, by omega, i', h2, h3⟩
  | _ => exact hq

theorem aw_jumps {ι : Type} {ρ : Type} (S : ι → St) (f : Nat → ι → Option ρ) (r : ρ) {c rest : Code} (l : Nat) (hf : findLabel c l = some rest) (k : Nat) (first : AW P cx c st (jumpA l (fun s => ∃ n i, n ≤ k ∧ s = S i ∧ f n i = some r) Q))
    (pass : ∀ n i, n ≤ k → f n i = some r → AW P cx rest (S i) (jumpA l (fun s => ∃ n' i', n' < n ∧ s = S i' ∧ f n' i' = some r) Q)) : AW P cx (.scope c) st Q := by
  refine aw_scope l hf (fun n s => n ≤ k ∧ ∃ i, s = S i ∧ f n i = some r) ?_ ?_
  · refine first.mono fun e s hq => ?_
    cases e with
    | goto l' => obtain ⟨h1, n, i, h2, h3, h4⟩ := hq; exact ⟨h1, n, h2, i, h3, h4⟩
    | _ => exact hq
  · rintro n s ⟨hn, i, rfl, hf⟩
    refine (pass n i hn hf).mono fun e s hq => ?_
    cases e with
    | goto l' => obtain ⟨h1, n', i', h2, h3, h4⟩ := hq; exact ⟨h1, n', h2, by omega, i', h3, h4⟩
    | _ => exact hq

theorem hc_fin (hL : LOk P L) {f : FuncId} {fn : Func} {c : Code} {args : List V} {objs : List O} {Q : List O → V → Prop} (hfn : P.funcs[f]? = some fn) (hb : fn.body = some c) (hname : (fn.name == "runtime.NumGoroutine") = false)
    (hsz : args.length ≤ fn.ntmps) (h : ∀ cx, AW P cx c (startSt args objs fn.ntmps) (Fin L fn.results.toList objs.length Q)) : HC P f args objs Q := hc_of_aw hL hfn hb hname hsz h

end

/- The pure functions' small words. -/
theorem bind_some {α β : Type} {x : Option α} {f : α → Option β} {r : β} (h : x.bind f = some r) : ∃ a, x = some a ∧ f a = some r := Option.bind_eq_some_iff.1 h
theorem chk_some0 {α : Type} {p : Prop} [Decidable p] {x : Option α} {r : α} (h : (if p then x else none) = some r) : p ∧ x = some r := by
  split at h
  · exact ⟨by assumption, h⟩
  · cases h
theorem if_t {α : Type} {b : Bool} {x y : Option α} {r : α} (hc : b = true) (h : (if b = true then x else y) = some r) : x = some r := by rw [if_pos hc] at h; exact h
theorem if_f {α : Type} {b : Bool} {x y : Option α} {r : α} (hc : b = false) (h : (if b = true then x else y) = some r) : y = some r := by rw [hc] at h; simpa using h
theorem if_dt {α : Type} {p : Prop} [Decidable p] {x y : Option α} {r : α} (hc : decide p = true) (h : (if p then x else y) = some r) : x = some r := by rw [if_pos (of_decide_eq_true hc)] at h; exact h
theorem if_df {α : Type} {p : Prop} [Decidable p] {x y : Option α} {r : α} (hc : decide p = false) (h : (if p then x else y) = some r) : y = some r := by rw [if_neg (of_decide_eq_false hc)] at h; exact h
theorem not_t {b : Bool} (h : (!b) = true) : b = false := by simpa using h
theorem not_f {b : Bool} (h : (!b) = false) : b = true := by simpa using h

/-- an element of a list, by a whole number -/
def idx {α : Type} (l : List α) (i : Int) : Option α := if 0 ≤ i then l[i.toNat]? else none
theorem idx_some {α : Type} {l : List α} {i : Int} {x : α} (h : idx l i = some x) : (0 ≤ i ∧ i < l.length) ∧ l[i.toNat]? = some x := by
  unfold idx at h
  split at h
  · rename_i h0
    have := (List.getElem?_eq_some_iff.1 h).1
    exact ⟨⟨h0, by omega⟩, h⟩
  · cases h

end Go.Abs
