/- What the model's values bear: no slice in them is longer than a slice may be. -/
import Derived.Test.YtoioflodpmideaaAbs23
namespace Go.Abs

/-- A cell in which no slice is too long. -/
inductive COk : C → Prop where
  | lit (v : Value) : COk (.lit v)
  | str (s : Str) : COk (.str s)
  | sl (sz : Nat) (l : List (List C)) : l.length ≤ maxLen → (∀ r ∈ l, ∀ c ∈ r, COk c) → COk (.sl sz l)
  | ref (l : List C) : (∀ c ∈ l, COk c) → COk (.ref l)

theorem RC.ok {h : Hp} {v : Value} {c : C} (r : RC h v c) : COk c := by
  induction r with
  | lit v _ => exact .lit v
  | str s l _ => exact .str l
  | empty a cap sz => exact .sl sz [] (Nat.zero_le _) (fun r hr => by simp at hr)
  | sl b off n cap sz l f h0 h1 h2 h3 h4 ih =>
    refine .sl sz l (by omega) fun r hr c hc => ?_
    obtain ⟨k, hk, hk'⟩ := List.mem_iff_getElem.1 (List.mem_flatten.2 ⟨r, hr, hc⟩)
    exact ih k c (by rw [List.getElem?_eq_getElem hk, hk'])
  | ref b l f h1 h2 ih =>
    refine .ref l fun c hc => ?_
    obtain ⟨k, hk, hk'⟩ := List.mem_iff_getElem.1 hc
    exact ih k c (by rw [List.getElem?_eq_getElem hk, hk'])

/-- A value of data in which no slice is too long. -/
def Fit {α : Type} [Row α] (x : α) : Prop := ∀ c ∈ Row.cells x, COk c

theorem fit_list {α : Type} [Row α] {sz : Nat} {l : List α} (h : COk (.sl sz (Row.rows l))) : l.length ≤ maxLen ∧ ∀ x ∈ l, Fit x := by
  cases h with
  | sl _ _ h1 h2 =>
    rw [Row.eq_map] at h1 h2
    exact ⟨by simpa using h1, fun x hx c hc => h2 _ (List.mem_map.2 ⟨x, hx, rfl⟩) c hc⟩

theorem RV.fit {g : Gh} {v : Value} {α : Type} [Row α] {x : α} (h : RV g v (.agg (ca x))) : Fit x := by
  cases h with
  | agg cs l h1 h2 =>
    intro c hc
    obtain ⟨k, hk, hk'⟩ := List.mem_iff_getElem.1 hc
    have hl : (ca x)[k]? = some (.c c) := by
      unfold ca
      rw [List.getElem?_map, List.getElem?_eq_getElem hk, hk']; rfl
    have hlt : k < cs.size := by rw [h1]; unfold ca; simpa using hk
    have := h2 k cs[k] _ (by simp) hl
    generalize cs[k] = u at this
    cases this with
    | c _ _ h => exact h.ok

theorem RV.tup_at {g : Gh} {v : Value} {l : List V} (h : RV g v (.tup l)) {i : Nat} {x : V} (hx : l[i]? = some x) : ∃ u, RV g u x := by
  cases h with
  | tup vs _ h1 h2 =>
    have hlt : i < vs.size := by rw [h1]; exact (List.getElem?_eq_some_iff.1 hx).1
    exact ⟨vs[i], h2 i vs[i] x (by simp) hx⟩

/-- A result's value is a value of the model. -/
theorem has_val {P : Program} {f : FuncId} {fn : Func} (hfn : P.funcs[f]? = some fn) (hb : fn.body.isNone = false) (hname : (fn.name == "runtime.NumGoroutine") = false) {args : List V} {objs' : List O} {r : V} (h : Has P f args [] objs' r) {vs : Array Value}
    (hvs : vs.size = args.length) (hva : ∀ (i : Nat) v a, vs[i]? = some v → args[i]? = some a → RV (Gh.all default) v a) : ∃ v g', RV g' v r := by
  obtain ⟨e, w', fr, ⟨⟨v, g', _, hv⟩, _⟩, _⟩ := calls_of_has (w := default) hfn hb hname h hvs hva []
  exact ⟨v, g', hv⟩

end Go.Abs
