/- Each operation of the model does what the abstract machine says: structs, slices and arrays that are made, append. -/
import Derived.Test.YtoioflodpmideaaAbs8
import Derived.Laws.Append
import Derived.Laws.AppendOwn
namespace Go.Abs

section
variable {P : Program} {L : Lay} {g : Gh} {st : St} {a : Act} {w : World}

theorem setSeg_cons {α : Type} (l : List α) (k : Nat) (v : α) (vs : List α) (h : k + (v :: vs).length ≤ l.length) : setSeg (l.set k v) (k + 1) vs = setSeg l k (v :: vs) := by
  simp only [List.length_cons] at h
  apply List.ext_getElem?
  intro i
  simp only [setSeg, List.append_assoc, List.getElem?_append, List.length_take, List.length_set, List.getElem?_take, List.getElem?_drop, List.length_cons, List.getElem?_set]
  have e1 : min (k + 1) l.length = k + 1 := by omega
  have e2 : min k l.length = k := by omega
  rw [e1, e2]
  by_cases h1 : i < k
  · have : i < k + 1 := by omega
    have h3 : k ≠ i := by omega
    simp [h1, this, h3]
  · by_cases h2 : i = k
    · subst h2
      simp; omega
    · have h3 : ¬ i < k + 1 := by omega
      have h4 : k ≠ i := by omega
      simp only [h1, h3, if_false]
      have h5 : i - k = (i - (k + 1)) + 1 := by omega
      rw [h5]
      by_cases h6 : i - (k + 1) < vs.length
      · simp [h6]
      · have h7 : ¬ (i - (k + 1) + 1 < vs.length + 1) := by omega
        simp only [h6, h7, if_false]
        have h8 : k ≠ k + 1 + vs.length + (i - (k + 1) - vs.length) := by omega
        simp only [h8, if_false]
        congr 1
        omega

theorem fill_seg (off : Nat) : ∀ (vs : List Value) (k : Nat) (cells : Array Value), off + k + vs.length ≤ cells.size →
    ((vs.zipIdx k).foldl (fun cs (x : Value × Nat) => cs.setIfInBounds (off + x.2) x.1) cells).toList = setSeg cells.toList (off + k) vs := by
  intro vs
  induction vs with
  | nil => intro k cells h; simp [setSeg]
  | cons v vs ih =>
    intro k cells h
    simp only [List.zipIdx_cons, List.foldl_cons]
    rw [ih (k + 1) _ (by simp at h ⊢; omega)]
    simp only [Array.toList_setIfInBounds]
    rw [← Nat.add_assoc]
    exact setSeg_cons _ _ _ _ (by simp at h ⊢; omega)

/-- Parts of a composite, and their values. -/
def RP (g : Gh) (vs : List (Nat × Value)) (ps : List (Nat × V)) : Prop :=
  vs.length = ps.length ∧ ∀ (i : Nat) v p, vs[i]? = some v → ps[i]? = some p → v.1 = p.1 ∧ RV g v.2 p.2

theorem fill_ok (place : Nat → Option (Nat × Nat)) : ∀ (vs : List (Nat × Value)) (ps : List (Nat × V)) (cells : Array Value) (l l' : List A), RP g vs ps → RL g cells.toList l →
    fillA place l ps = some l' → ∃ cells', Instr.fill place cells vs = some cells' ∧ RL g cells'.toList l' := by
  intro vs
  induction vs with
  | nil =>
    intro ps cells l l' hp hr h
    match ps, hp.1 with
    | [], _ => simp only [fillA, Option.some.injEq] at h; subst h; exact ⟨cells, rfl, hr⟩
  | cons x vs ih =>
    intro ps cells l l' hp hr h
    match ps, hp.1 with
    | p :: ps, hl =>
      obtain ⟨i, v⟩ := x
      obtain ⟨i', q⟩ := p
      obtain ⟨rfl, hv⟩ := hp.2 0 _ _ rfl rfl
      simp only [fillA] at h
      split at h
      · rename_i off size cs hpl hcs
        have hcl := hv.cells hcs
        split at h
        · rename_i hc
          have hsz : v.cells.size = cs.length := by simpa using hcl.1
          have hcell : cells.size = l.length := by simpa using hr.1
          simp only [Instr.fill]
          rw [hpl]
          dsimp only
          rw [if_neg (by simp; omega)]
          refine ih ps _ _ l' ⟨by simpa using hl, fun j v p hv hp' => hp.2 (j + 1) v p (by simpa using hv) (by simpa using hp')⟩ ?_ h
          rw [← Array.foldl_toList, Array.toList_zipIdx]
          have := fill_seg off v.cells.toList 0 cells (by simp; omega)
          simp only [Nat.add_zero] at this
          rw [this]
          exact hr.setSeg hcl off
        · cases h
      · cases h

theorem RP_of {f : Nat → Operand → Option V} (hf : ∀ i x v, f i x = some v → RV g (a.eval x) v) : ∀ (parts : List (Nat × Operand)) (ps : List (Nat × V)), mapParts f parts = some ps →
    RP g (parts.map fun x => (x.1, a.eval x.2)) ps := by
  intro parts
  induction parts with
  | nil => intro ps h; simp only [mapParts, Option.some.injEq] at h; subst h; exact ⟨rfl, fun i v p h => by simp at h⟩
  | cons x parts ih =>
    intro ps h
    obtain ⟨i, x⟩ := x
    simp only [mapParts] at h
    split at h
    · rename_i v l hv hl
      simp only [Option.some.injEq] at h
      subst h
      have h1 := ih l hl
      refine ⟨by simpa using h1.1, fun j u p hu hp => ?_⟩
      cases j with
      | zero => simp at hu hp; subst hu; subst hp; exact ⟨rfl, hf i x v hv⟩
      | succ j => simp at hu hp; exact h1.2 j u p (by simpa using hu) hp
    · cases h

theorem run_places (hL : LOk P L) : ∀ (fs : List Field) (pl : List (Nat × Nat)), fieldPlaces L fs = some pl →
    ((fs.mapM fun f => do pure (f.offset, ← sizeOf f.type) : Sem (List (Nat × Nat)))).run P w = .ok pl w := by
  intro fs
  induction fs with
  | nil => intro pl h; simp only [fieldPlaces, Option.some.injEq] at h; subst h; simp
  | cons f fs ih =>
    intro pl h
    simp only [fieldPlaces] at h
    split at h
    · rename_i ti l ht hl
      simp only [Option.some.injEq] at h
      subst h
      have h1 := (hL _ _ ht).run_sizeOf (w := w)
      have h2 := ih l hl
      rw [List.mapM_cons]
      simp only [Sem.run_bind, h1, Result.andThen_ok, Sem.run_pure, h2]
    · cases h

theorem stp_build (hL : LOk P L) (hr : Rel g st a w) {o : Oper} {t : TypeId} {parts : Array (Nat × Operand)} (ho : o.op = .build t parts) {ti : TI} (ht : get L t = some ti) {fs : Array Field} (hd : ti.desc = .struct fs)
    {pl : List (Nat × Nat)} (hpl : fieldPlaces L fs.toList = some pl) {f : Nat → Operand → Option V} (hf : ∀ i x v, f i x = some v → RV g (a.eval x) v) {ps : List (Nat × V)} (hps : mapParts f parts.toList = some ps)
    {cs : List A} (hcs : fillA (fun i => pl[i]?) ti.zs ps = some cs) : ∃ v' w' g' B, Stp P g st a w o { val := .agg cs } v' w' g' B := by
  have hT := hL t ti ht
  have h2 := hT.run_under (w := w)
  rw [hd] at h2
  have h3 := run_places (w := w) hL _ _ hpl
  obtain ⟨cells', h4, h5⟩ := fill_ok (fun i => pl[i]?) _ _ _ _ _ (RP_of hf _ _ hps) (hT.zero g) hcs
  refine Stp.quiet hr (v := .agg cells') ?_ (.agg _ _ (by simpa using h5.1) fun i v b hv hb => h5.2 i v b (by simpa using hv) hb)
  have h6 : ((fs.mapM fun f => do pure (f.offset, ← sizeOf f.type) : Sem (Array (Nat × Nat)))).run P w = .ok pl.toArray w := by
    rw [Array.mapM_eq_mapM_toList]
    simp only [Sem.run_map, h3, Result.andThen_ok]
  have h7 : (parts.map fun x => (x.1, a.eval x.2)).toList = parts.toList.map fun x => (x.1, a.eval x.2) := by simp
  have h8 : (fun (i : Nat) => pl.toArray[i]?) = fun (i : Nat) => pl[i]? := by funext i; simp
  simp only [execOp, ho, Instr.build, Sem.run_bind, hT.run_zero, Result.andThen_ok, h2, h6]
  rw [h8]
  simp only [h7]
  rw [h4]
  simp

theorem stp_buildArr (hL : LOk P L) (hr : Rel g st a w) {o : Oper} {t e : TypeId} {n : Nat} {parts : Array (Nat × Operand)} (ho : o.op = .build t parts) {ti te : TI} (ht : get L t = some ti) (hd : ti.desc = .array n e) (hte : get L e = some te)
    {f : Nat → Operand → Option V} (hf : ∀ i x v, f i x = some v → RV g (a.eval x) v) {ps : List (Nat × V)} (hps : mapParts f parts.toList = some ps)
    {cs : List A} (hcs : fillA (fun i => some (i * te.size, te.size)) ti.zs ps = some cs) : ∃ v' w' g' B, Stp P g st a w o { val := .agg cs } v' w' g' B := by
  have hT := hL t ti ht
  have h2 := hT.run_under (w := w)
  rw [hd] at h2
  have h3 := (hL e te hte).run_sizeOf (w := w)
  obtain ⟨cells', h4, h5⟩ := fill_ok (fun i => some (i * te.size, te.size)) _ _ _ _ _ (RP_of hf _ _ hps) (hT.zero g) hcs
  refine Stp.quiet hr (v := .agg cells') ?_ (.agg _ _ (by simpa using h5.1) fun i v b hv hb => h5.2 i v b (by simpa using hv) hb)
  have h7 : (parts.map fun x => (x.1, a.eval x.2)).toList = parts.toList.map fun x => (x.1, a.eval x.2) := by simp
  simp only [execOp, ho, Instr.build, Sem.run_bind, hT.run_zero, Result.andThen_ok, h2, h3]
  simp only [h7]
  rw [h4]
  simp

/-- cells of a row of data -/
theorem toCs_ok : ∀ {vs : List Value} {l : List A} {xs : List C}, RL g vs l → toCs l = some xs → vs.length = xs.length ∧ ∀ (k : Nat) v c, vs[k]? = some v → xs[k]? = some c → RC g.h v c := by
  intro vs
  induction vs with
  | nil =>
    intro l xs r h
    match l, r.1 with
    | [], _ => simp only [toCs, Option.some.injEq] at h; subst h; exact ⟨rfl, fun k v c h => by simp at h⟩
  | cons v vs ih =>
    intro l xs r h
    match l, r.1 with
    | b :: l, hl =>
      simp only [toCs] at h
      split at h
      · rename_i x ys hx hys
        simp only [Option.some.injEq] at h
        subst h
        have h1 := ih (l := l) (xs := ys) ⟨by simpa using hl, fun i u b hu hb => r.2 (i + 1) u b (by simpa using hu) (by simpa using hb)⟩ hys
        refine ⟨by simpa using h1.1, fun k u c hu hc => ?_⟩
        cases k with
        | succ k => simp at hu hc; exact h1.2 k u c hu hc
        | zero =>
          simp at hu hc
          subst hu; subst hc
          have h2 := r.2 0 _ _ rfl rfl
          cases h2 with
          | c _ _ h => simp [A.toC] at hx; subst hx; exact h
          | nil sz => simp [A.toC] at hx; subst hx; exact .empty _ _ _
          | ptr => simp [A.toC] at hx
          | ownNil => simp [A.toC] at hx; subst hx; exact .empty _ _ _
          | own o b n sz l f h1 h2 _ h3 h4 h5 h6 h7 => simp [A.toC] at hx; subst hx; exact RC.ofRows (by omega) h2 h5 h6 h7
          | fn => simp [A.toC] at hx
          | any => simp [A.toC] at hx
      · cases h

theorem rowsOf_ok {sz : Nat} : ∀ {n : Nat} {xs : List C} {l : List (List C)}, rowsOf sz n xs = some l → l.length = n ∧ l.flatten = xs ∧ ∀ r ∈ l, r.length = sz := by
  intro n
  induction n with
  | zero => intro xs l h; cases xs <;> simp [rowsOf] at h; subst h; simp
  | succ n ih =>
    intro xs l h
    simp only [rowsOf] at h
    split at h
    · rename_i hle
      simp only [Option.map_eq_some_iff] at h
      obtain ⟨m, hm, rfl⟩ := h
      obtain ⟨h1, h2, h3⟩ := ih hm
      refine ⟨by simp [h1], by simp [h2], fun r hr => ?_⟩
      simp only [List.mem_cons] at hr
      rcases hr with rfl | hr
      · simp; omega
      · exact h3 r hr
    · cases h

theorem rep_ok {g : Gh} {vs : List Value} {l : List A} (r : RL g vs l) (hn : 0 < vs.length) : ∀ n, RL g ((List.range (n * vs.length)).map fun i => vs[i % vs.length]!) (rep l n) := by
  intro n
  have key : ∀ (i : Nat), i < n * vs.length → (rep l n)[i]? = l[i % vs.length]? := by
    induction n with
    | zero => intro i h; omega
    | succ n ih =>
      intro i h
      simp only [rep]
      rw [List.getElem?_append]
      split
      · rename_i hlt
        rw [Nat.mod_eq_of_lt (by rw [r.1]; exact hlt)]
      · rename_i hlt
        rw [ih (i - l.length) (by rw [Nat.succ_mul] at h; rw [← r.1] at hlt ⊢; omega)]
        rw [← r.1] at hlt ⊢
        rw [← Nat.mod_eq_sub_mod (by omega)]
  have hlen : ∀ n, (rep l n).length = n * l.length := by
    intro n
    induction n with
    | zero => simp [rep]
    | succ n ih => simp [rep, ih, Nat.succ_mul, Nat.add_comm]
  refine ⟨by simp [hlen, r.1], fun i v b hv hb => ?_⟩
  simp only [List.getElem?_map, Option.map_eq_some_iff] at hv
  obtain ⟨k, hk, rfl⟩ := hv
  obtain ⟨hk1, hk2⟩ := List.getElem?_eq_some_iff.1 hk
  simp at hk1 hk2
  subst hk2
  rw [key i hk1] at hb
  have hlt : i % vs.length < vs.length := Nat.mod_lt _ hn
  refine r.2 (i % vs.length) _ b ?_ hb
  rw [List.getElem!_eq_getElem?_getD]
  simp [hlt]

end
end Go.Abs
