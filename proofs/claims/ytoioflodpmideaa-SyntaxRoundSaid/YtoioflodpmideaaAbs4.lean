/- Lemmas on the relation: growing ghosts, renaming, parts of lists of cells. -/
import Derived.Test.YtoioflodpmideaaAbs3
namespace Go.Abs

/-- g' knows all that g knows. -/
structure Gh.le (g g' : Gh) : Prop where
  μ : ∀ o b, g.μ o = some b → g'.μ o = some b
  cap : ∀ o b, g.μ o = some b → g'.cap o = g.cap o
  h : ∀ b k v, g.h b k = some v → g'.h b k = some v

theorem Gh.le.refl (g : Gh) : g.le g := ⟨fun _ _ h => h, fun _ _ _ => rfl, fun _ _ _ h => h⟩

theorem RC.mono {h h' : Hp} (hh : ∀ b k v, h b k = some v → h' b k = some v) {v : Value} {x : C} (r : RC h v x) : RC h' v x := by
  induction r with
  | lit v h1 => exact .lit v h1
  | str s l h1 => exact .str s l h1
  | empty a cap sz => exact .empty a cap sz
  | sl b off n cap sz l f h0 h1 h2 h3 _ ih => exact .sl b off n cap sz l f h0 h1 h2 (fun k c hc => hh _ _ _ (h3 k c hc)) ih
  | ref b l f h1 _ ih => exact .ref b l f (fun k c hc => hh _ _ _ (h1 k c hc)) ih

theorem RA.mono {g g' : Gh} (hg : g.le g') {v : Value} {a : A} (r : RA g v a) : RA g' v a := by
  induction r with
  | c v x h => exact .c v x (h.mono hg.h)
  | nil sz => exact .nil sz
  | ptr o off b h => exact .ptr o off b (hg.μ _ _ h)
  | ownNil sz o => exact .ownNil sz o
  | own o b n sz l f h1 h2 h20 h3 h4 h5 h6 h7 =>
    have hc := hg.cap _ _ h1
    rw [← hc]
    exact .own o b n sz l f (hg.μ _ _ h1) h2 (by rw [hc]; exact h20) (by rw [hc]; exact h3) (by rw [hc]; exact h4) h5 (fun k c hk => hg.h _ _ _ (h6 k c hk)) (fun k c hk => (h7 k c hk).mono hg.h)
  | fn f fs cs first caps h1 h2 _ _ ih1 ih2 => exact .fn f fs cs first caps h1 h2 ih1 ih2
  | any v h => exact .any v h

theorem RV.mono {g g' : Gh} (hg : g.le g') {v : Value} {a : V} (r : RV g v a) : RV g' v a := by
  induction r with
  | one v a h => exact .one v a (h.mono hg)
  | agg cs l h1 h2 => exact .agg cs l h1 fun i v a hv ha => (h2 i v a hv ha).mono hg
  | tup vs l h1 _ ih => exact .tup vs l h1 ih
  | eptr b off sz i o l f h1 h2 h3 h4 => exact .eptr b off sz i o l f h1 h2 (fun k c hk => hg.h _ _ _ (h3 k c hk)) (fun k c hk => (h4 k c hk).mono hg.h)
  | sdat p l o b f h1 h2 h3 =>
    refine .sdat p l o b f (h1.imp id fun ⟨q1, q2, q3, q4⟩ => ⟨hg.μ _ _ q1, q2, q3, by rw [hg.cap _ _ q1]; exact q4⟩) (fun k c hk => hg.h _ _ _ (h2 k c hk)) (fun k c hk => (h3 k c hk).mono hg.h)
  | any v => exact .any v

theorem RC.oneCell {h : Hp} {v : Value} {x : C} (r : RC h v x) : v.oneCell' = true := by
  cases r <;> first | assumption | rfl

theorem RA.oneCell {g : Gh} {v : Value} {a : A} (r : RA g v a) : v.oneCell' = true := by
  cases r with
  | c v x h => exact h.oneCell
  | any v h => exact h
  | _ => rfl

theorem renAs_eq (m : List (Nat × Nat)) (l : List A) : renAs m l = l.map (A.ren m) := by
  induction l with
  | nil => rfl
  | cons a r ih => simp [renAs, ih]

theorem renVs_eq (m : List (Nat × Nat)) (l : List V) : renVs m l = l.map (V.ren m) := by
  induction l with
  | nil => rfl
  | cons a r ih => simp [renVs, ih]

/-- g' knows, under the new numbers, what g knows. -/
structure Gh.ren (m : List (Nat × Nat)) (g g' : Gh) : Prop where
  μ : ∀ o o' b, get m o = some o' → g.μ o = some b → g'.μ o' = some b
  cap : ∀ o o' b, get m o = some o' → g.μ o = some b → g'.cap o' = g.cap o
  h : ∀ b k v, g.h b k = some v → g'.h b k = some v

theorem RC.ofRows {h : Hp} {b n cap sz : Nat} {l : List (List C)} {f : Nat → Value} (h0 : n ≤ maxLen) (h1 : n = l.length) (h2 : ∀ r ∈ l, r.length = sz)
    (h3 : ∀ k c, l.flatten[k]? = some c → h b k = some (f k)) (h4 : ∀ k c, l.flatten[k]? = some c → RC h (f k) c) :
    RC h (.slice (some ⟨b, 0, none⟩) n cap) (.sl sz l) :=
  .sl b 0 n cap sz l f h0 h1 h2 (fun k c hc => by rw [Nat.zero_add]; exact h3 k c hc) h4

theorem RA.ren {m : List (Nat × Nat)} {g g' : Gh} (hg : g.ren m g') {v : Value} {a : A} (r : RA g v a) : RA g' v (a.ren m) := by
  induction r with
  | c v x h => simp only [A.ren]; exact .c v x (h.mono hg.h)
  | nil sz => simp only [A.ren]; exact .nil sz
  | ptr o off b h =>
    simp only [A.ren]
    cases ho : get m o with
    | none => exact .any _ rfl
    | some o' => exact .ptr o' off b (hg.μ _ _ _ ho h)
  | ownNil sz o =>
    simp only [A.ren]
    cases ho : get m o with
    | none => exact .c _ _ (.empty _ _ _)
    | some o' => exact .ownNil sz o'
  | own o b n sz l f h1 h2 h20 h3 h4 h5 h6 h7 =>
    simp only [A.ren]
    cases ho : get m o with
    | none => exact .c _ _ (RC.ofRows (by omega) h2 h5 (fun k c hk => hg.h _ _ _ (h6 k c hk)) (fun k c hk => (h7 k c hk).mono hg.h))
    | some o' =>
      have hc := hg.cap _ _ _ ho h1
      rw [← hc]
      exact .own o' b n sz l f (hg.μ _ _ _ ho h1) h2 (by rw [hc]; exact h20) (by rw [hc]; exact h3) (by rw [hc]; exact h4) h5 (fun k c hk => hg.h _ _ _ (h6 k c hk)) (fun k c hk => (h7 k c hk).mono hg.h)
  | fn f fs cs first caps h1 h2 _ _ ih1 ih2 =>
    simp only [A.ren, renAs_eq]
    refine .fn f fs cs _ _ (by simpa using h1) (by simpa using h2) (fun i v a hv ha => ?_) (fun i v a hv ha => ?_)
    · simp only [List.getElem?_map, Option.map_eq_some_iff] at ha
      obtain ⟨a', ha', rfl⟩ := ha
      exact ih1 i v a' hv ha'
    · simp only [List.getElem?_map, Option.map_eq_some_iff] at ha
      obtain ⟨a', ha', rfl⟩ := ha
      exact ih2 i v a' hv ha'
  | any v h => exact .any v h

theorem RV.ren {m : List (Nat × Nat)} {g g' : Gh} (hg : g.ren m g') {v : Value} {a : V} (r : RV g v a) : RV g' v (a.ren m) := by
  induction r with
  | one v a h => simp only [V.ren]; exact .one v _ (h.ren hg)
  | agg cs l h1 h2 =>
    simp only [V.ren, renAs_eq]
    refine .agg cs _ (by simpa using h1) fun i v a hv ha => ?_
    simp only [List.getElem?_map, Option.map_eq_some_iff] at ha
    obtain ⟨a', ha', rfl⟩ := ha
    exact (h2 i v a' hv ha').ren hg
  | tup vs l h1 _ ih =>
    simp only [V.ren, renVs_eq]
    refine .tup vs _ (by simpa using h1) fun i v a hv ha => ?_
    simp only [List.getElem?_map, Option.map_eq_some_iff] at ha
    obtain ⟨a', ha', rfl⟩ := ha
    exact ih i v a' hv ha'
  | eptr b off sz i o l f h1 h2 h3 h4 => exact .eptr b off sz i o l f h1 h2 (fun k c hk => hg.h _ _ _ (h3 k c hk)) (fun k c hk => (h4 k c hk).mono hg.h)
  | sdat p l o b f h1 h2 h3 =>
    simp only [V.ren]
    cases ho : get m o with
    | none => exact .any _
    | some o' => exact .sdat p l o' b f (h1.imp id fun ⟨q1, q2, q3, q4⟩ => ⟨hg.μ _ _ _ ho q1, q2, q3, by rw [hg.cap _ _ _ ho q1]; exact q4⟩) (fun k c hk => hg.h _ _ _ (h2 k c hk)) (fun k c hk => (h3 k c hk).mono hg.h)
  | any v => exact .any v

theorem RL.mono {g g' : Gh} (hg : g.le g') {vs : List Value} {l : List A} (r : RL g vs l) : RL g' vs l :=
  ⟨r.1, fun i v a hv ha => (r.2 i v a hv ha).mono hg⟩

theorem RL.ren {m : List (Nat × Nat)} {g g' : Gh} (hg : g.ren m g') {vs : List Value} {l : List A} (r : RL g vs l) : RL g' vs (renAs m l) := by
  refine ⟨by simpa [renAs_eq] using r.1, fun i v a hv ha => ?_⟩
  simp only [renAs_eq, List.getElem?_map, Option.map_eq_some_iff] at ha
  obtain ⟨a', ha', rfl⟩ := ha
  exact (r.2 i v a' hv ha').ren hg

theorem RL.seg {g : Gh} {vs : List Value} {l l' : List A} {off n : Nat} (r : RL g vs l) (h : seg l off n = some l') : RL g ((vs.drop off).take n) l' ∧ l'.length = n ∧ off + n ≤ vs.length := by
  unfold Abs.seg at h
  split at h
  · rename_i hle
    simp only [Option.some.injEq] at h
    subst h
    refine ⟨⟨by simp [r.1], fun i v a hv ha => ?_⟩, by simp; omega, by rw [r.1]; exact hle⟩
    rw [List.getElem?_take] at hv ha
    split at hv
    · rename_i hi
      rw [if_pos hi] at ha
      rw [List.getElem?_drop] at hv ha
      exact r.2 _ v a hv ha
    · cases hv
  · cases h

theorem RL.append {g : Gh} {vs us : List Value} {l m : List A} (r : RL g vs l) (s : RL g us m) : RL g (vs ++ us) (l ++ m) := by
  refine ⟨by simp [r.1, s.1], fun i v a hv ha => ?_⟩
  rw [List.getElem?_append] at hv ha
  rw [r.1] at hv
  split at hv
  · rename_i hi
    rw [if_pos hi] at ha
    exact r.2 i v a hv ha
  · rename_i hi
    rw [if_neg hi] at ha
    exact s.2 _ v a hv ha

theorem RL.take {g : Gh} {vs : List Value} {l : List A} (r : RL g vs l) (n : Nat) : RL g (vs.take n) (l.take n) := by
  refine ⟨by simp [r.1], fun i v a hv ha => ?_⟩
  rw [List.getElem?_take] at hv ha
  split at hv
  · rename_i hi
    rw [if_pos hi] at ha
    exact r.2 i v a hv ha
  · cases hv

theorem RL.drop {g : Gh} {vs : List Value} {l : List A} (r : RL g vs l) (n : Nat) : RL g (vs.drop n) (l.drop n) := by
  refine ⟨by simp [r.1], fun i v a hv ha => ?_⟩
  rw [List.getElem?_drop] at hv ha
  exact r.2 _ v a hv ha

theorem RL.setSeg {g : Gh} {vs us : List Value} {l m : List A} (r : RL g vs l) (s : RL g us m) (off : Nat) : RL g (setSeg vs off us) (setSeg l off m) := by
  unfold Abs.setSeg
  rw [s.1]
  exact ((r.take _).append s).append (r.drop _)

theorem RL.oneCell {g : Gh} {vs : List Value} {l : List A} (r : RL g vs l) : ∀ v ∈ vs, v.oneCell' = true := by
  intro v hv
  obtain ⟨i, hi, rfl⟩ := List.mem_iff_getElem.1 hv
  have hl : i < l.length := by rw [← r.1]; exact hi
  exact (r.2 i vs[i] l[i] (by simp) (by simp)).oneCell

/-- the cells of a value -/
theorem RV.cells {g : Gh} {v : Value} {a : V} {l : List A} (r : RV g v a) (h : a.cells = some l) : RL g v.cells.toList l := by
  cases r with
  | one v x hx =>
    simp only [V.cells, Option.some.injEq] at h
    subst h
    have h1 := hx.oneCell
    have : v.cells = #[v] := by cases v <;> first | rfl | (simp [Value.oneCell'] at h1)
    rw [this]
    refine ⟨rfl, fun i u a hu ha => ?_⟩
    cases i with
    | zero => simp at hu ha; subst hu; subst ha; exact hx
    | succ i => simp at hu
  | agg cs m h1 h2 =>
    simp only [V.cells, Option.some.injEq] at h
    subst h
    exact ⟨by simpa [Value.cells] using h1, fun i u a hu ha => h2 i u a (by simpa [Value.cells] using hu) ha⟩
  | tup => simp [V.cells] at h
  | eptr => simp [V.cells] at h
  | sdat => simp [V.cells] at h
  | any => simp [V.cells] at h

theorem RL.ofRV {g : Gh} {vs : List Value} {l : List A} (r : RL g vs l) {agg : Bool} {x : V} (h : V.ofCells agg l = some x) :
    (agg = true → RV g (.agg vs.toArray) x) ∧ (agg = false → ∃ u, vs = [u] ∧ RV g u x) := by
  unfold V.ofCells at h
  cases agg with
  | true =>
    simp at h
    subst h
    exact ⟨fun _ => .agg _ _ (by simpa using r.1) fun i v a hv ha => r.2 i v a (by simpa using hv) ha, fun h => Bool.noConfusion h⟩
  | false =>
    refine ⟨fun h => Bool.noConfusion h, fun _ => ?_⟩
    match l, h with
    | [a], h =>
      simp at h
      subst h
      have h1 := r.1
      match vs, h1 with
      | [u], _ => exact ⟨u, rfl, .one u a (r.2 0 u a rfl rfl)⟩

end Go.Abs
