/- What a contract of a law comes to for its row: a call from any world, whose memory stays as it was. -/
import Derived.Test.YtoioflodpmideaaAbs22
import Derived.Below
namespace Go.Abs

section
variable {P : Program}

/-- The ghost of a world in which all is sealed. -/
def Gh.all (w : World) : Gh := ⟨fun _ => none, fun _ => (0, 0), fun b k => w.cell? ⟨b, k, none⟩⟩

theorem calls_of_has {f : FuncId} {fn : Func} (hfn : P.funcs[f]? = some fn) (hb : fn.body.isNone = false) (hname : (fn.name == "runtime.NumGoroutine") = false) {args : List V} {objs' : List O} {r : V} (h : Has P f args [] objs' r) {vs : Array Value} {w : World}
    (hvs : vs.size = args.length) (hva : ∀ (i : Nat) v a, vs[i]? = some v → args[i]? = some a → RV (Gh.all w) v a) :
    Calls P f vs w fun e w' => (∃ v g', e = .returned v ∧ RV g' v r) ∧ Go.RowKit.Below w.heap.size w w' := by
  have hm : Rm (Gh.all w) (number [] 0) w := { obj := fun o ob ho => (by cases ho), sep := fun o o' ob ob' b ho => (by cases ho), shut := fun b k v hv => hv, blk := fun o b ho => (by cases ho) }
  have h1 := h (Gh.all w) w vs hvs hva hm (fun _ _ => rfl)
  rcases h1 with ⟨_, h1⟩ | ⟨v, w', h1, _⟩
  · refine h1.mono ?_
    rintro e w' ⟨v, g', objs2, r2, rfl, ⟨rfl, rfl⟩, hv, hm, _, _, hF⟩
    refine ⟨⟨v, g', rfl, hv⟩, hF.os, hF.tape, hF.output, hF.size, fun k hk => hF.block k hk ?_⟩
    rintro ⟨j, hj, _⟩
    simp at hj
  · exfalso
    have n1 : fn.name ≠ "runtime.NumGoroutine" := by simpa using hname
    have n2 : fn.body ≠ none := by intro e; rw [e] at hb; simp at hb
    simp [callFunc, hfn, n1, n2] at h1

/-- A law that answers true. -/
theorem calls_true {f : FuncId} {fn : Func} (hfn : P.funcs[f]? = some fn) (hb : fn.body.isNone = false) (hname : (fn.name == "runtime.NumGoroutine") = false) {args : List V} {objs' : List O} (h : Has P f args [] objs' (.bool true)) {vs : Array Value} {w : World}
    (hvs : vs.size = args.length) (hva : ∀ (i : Nat) v a, vs[i]? = some v → args[i]? = some a → RV (Gh.all w) v a) :
    Calls P f vs w fun e w' => e = .returned (.bool true) ∧ Go.RowKit.Below w.heap.size w w' := by
  refine (calls_of_has hfn hb hname h hvs hva).mono ?_
  rintro e w' ⟨⟨v, g', rfl, hv⟩, hB⟩
  exact ⟨by rw [hv.lit_inv], hB⟩

end
end Go.Abs
