/- The model's runs of single operations, by what is known of types. -/
import Derived.Test.YtoioflodpmideaaAbs4
import Derived.Laws.Cells
import Derived.Laws.CopyRow
import Derived.Laws.Tables
namespace Go.Abs

structure TOk (P : Program) (t : TypeId) (ti : TI) : Prop where
  desc : P.underlying t = some ti.desc
  info : ∃ i, P.info? t = some i ∧ i.size = ti.size ∧ i.bytes = ti.bytes ∧ i.zero = some ti.zero
  zero : ∀ g, RL g ti.zero.cells.toList ti.zs
  len : ti.zero.cells.size = ti.size
  std : ti.std = true → P.stoodInHeld t = false ∧ P.eqGuardType P.depth t = false
  sub : ∀ off u, (off, u) ∈ ti.sub → liesAt P P.depth t 1 off u 1 = true

def LOk (P : Program) (L : Lay) : Prop := ∀ t ti, get L t = some ti → TOk P t ti

section
variable {P : Program} {t : TypeId} {ti : TI} {w : World}

theorem TOk.run_sizeOf (h : TOk P t ti) : (sizeOf t).run P w = .ok ti.size w := by
  obtain ⟨i, hi, hs, _, _⟩ := h.info
  simp [sizeOf, typeInfo, hi, hs]

theorem TOk.run_under (h : TOk P t ti) : (underlying t).run P w = .ok ti.desc w := run_underlying h.desc w

theorem TOk.run_isAgg (h : TOk P t ti) : (isAgg t).run P w = .ok (isAggD ti.desc) w := by
  unfold isAgg
  rw [Sem.run_bind, h.run_under]
  cases ti.desc <;> simp [isAggD]

theorem TOk.run_zero (h : TOk P t ti) : (zeroValue t).run P w = .ok ti.zero w := by
  obtain ⟨i, hi, _, _, hz⟩ := h.info
  simp [zeroValue, typeInfo, hi, hz]

theorem run_loadVar_agg (h : TOk P t ti) (ha : isAggD ti.desc = true) {a : Addr} {cs : List Value} (hl : cs.length = ti.size)
    (hc : ∀ (j : Nat) v, cs[j]? = some v → w.cell? (a.add j) = some v) : (loadVar t a).run P w = .ok (.agg cs.toArray) w := by
  have h1 := run_loadCells_list (P := P) w a cs hc
  rw [hl] at h1
  unfold loadVar
  rw [Sem.run_bind, h.run_isAgg, ha]
  simp [h.run_sizeOf, h1]

theorem run_loadVar_one (h : TOk P t ti) (ha : isAggD ti.desc = false) {a : Addr} {v : Value} (hc : w.cell? a = some v) : (loadVar t a).run P w = .ok v w := by
  unfold loadVar
  rw [Sem.run_bind, h.run_isAgg, ha]
  simp [hc]

/-- A variable is loaded. -/
theorem run_loadVar_part (h : TOk P t ti) {g : Gh} {vs : List Value} {l : List A} {off b k : Nat} {x : V} (r : RL g vs l) (hx : partA ti l off = some x)
    (hc : ∀ (j : Nat) v, vs[j]? = some v → w.cell? ⟨b, k + j, none⟩ = some v) : ∃ u, (loadVar t ⟨b, k + off, none⟩).run P w = .ok u w ∧ RV g u x := by
  unfold partA at hx
  cases hs : seg l off ti.size with
  | none => simp [hs] at hx
  | some cs =>
    simp only [hs] at hx
    obtain ⟨r1, hlen, hle⟩ := r.seg hs
    obtain ⟨q1, q2⟩ := r1.ofRV hx
    have hcell : ∀ (j : Nat) v, ((vs.drop off).take ti.size)[j]? = some v → w.cell? ((⟨b, k + off, none⟩ : Addr).add j) = some v := by
      intro j v hv
      rw [List.getElem?_take] at hv
      split at hv
      · rw [List.getElem?_drop] at hv
        rw [Addr.add_lit, Nat.add_assoc]
        exact hc _ _ hv
      · cases hv
    cases ha : isAggD ti.desc with
    | true => exact ⟨_, run_loadVar_agg h ha (by simp; omega) hcell, q1 ha⟩
    | false =>
      obtain ⟨u, hu, hr⟩ := q2 ha
      refine ⟨u, run_loadVar_one h ha ?_, hr⟩
      have := hcell 0 u (by rw [hu]; rfl)
      simpa [Addr.add] using this

/-- A part of an aggregate. -/
theorem run_part (h : TOk P t ti) {g : Gh} {cs : Array Value} {l : List A} {off : Nat} {x : V} (r : RL g cs.toList l) (hx : partA ti l off = some x) :
    ∃ u, (part t cs off).run P w = .ok u w ∧ RV g u x := by
  unfold partA at hx
  cases hs : seg l off ti.size with
  | none => simp [hs] at hx
  | some c =>
    simp only [hs] at hx
    obtain ⟨r1, hlen, hle⟩ := r.seg hs
    obtain ⟨q1, q2⟩ := r1.ofRV hx
    unfold part
    rw [Sem.run_bind, h.run_isAgg]
    cases ha : isAggD ti.desc with
    | true =>
      refine ⟨_, ?_, q1 ha⟩
      simp only [Result.andThen_ok, if_true, Sem.run_bind, h.run_sizeOf, Sem.run_pure]
      congr 2
      apply Array.ext'
      simp [Array.toList_extract]
    | false =>
      obtain ⟨u, hu, hr⟩ := q2 ha
      refine ⟨u, ?_, hr⟩
      have h0 : cs[off]? = some u := by
        have : ((cs.toList.drop off).take ti.size)[0]? = some u := by rw [hu]; rfl
        rw [List.getElem?_take] at this
        split at this
        · rw [List.getElem?_drop] at this
          simpa using this
        · cases this
      simp [h0]

/-- Where an object lies, and its cells. -/
theorem run_storeVar_var (h : TOk P t ti) {b off : Nat} {cur : Array Value} {e : TypeId} {v : Value} (hg : w.heap[b]? = some (.cells cur e (0, 0)))
    (hs : v.cells.size = ti.size) (hle : off + ti.size ≤ cur.size) (h1 : ∀ u ∈ v.cells.toList, u.oneCell' = true) :
    (storeVar t ⟨b, off, none⟩ v).run P w = .ok () (w.setRow b (setSeg cur.toList off v.cells.toList).toArray) := by
  have hst := run_storeCells_at P b off e v.cells.toList 0 cur w hg (by simp; omega) h1
  unfold storeVar
  rw [Sem.run_bind, h.run_sizeOf]
  simp only [Result.andThen_ok, hs, ne_eq, not_true_eq_false, if_false]
  simp only [Nat.add_zero] at hst
  simpa [setSeg] using hst

end
end Go.Abs
