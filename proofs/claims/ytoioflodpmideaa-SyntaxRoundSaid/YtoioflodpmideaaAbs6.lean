/- What a change of memory does to the relation of all objects. -/
import Derived.Test.YtoioflodpmideaaAbs5
namespace Go.Abs

theorem get_append {α : Type} (u s : List (Nat × α)) (o : Nat) : get (u ++ s) o = match get u o with | some x => some x | none => get s o := by
  induction u with
  | nil => rfl
  | cons p r ih =>
    obtain ⟨j, x⟩ := p
    simp only [List.cons_append, get]
    cases Nat.beq j o <;> simp [ih]

theorem get_append_some {α : Type} {u s : List (Nat × α)} {o : Nat} {x : α} (h : get u o = some x) : get (u ++ s) o = some x := by rw [get_append, h]
theorem get_append_none {α : Type} {u s : List (Nat × α)} {o : Nat} (h : get u o = none) : get (u ++ s) o = get s o := by rw [get_append, h]

theorem RO.dead_iff {ob : O} : ob.live = false ↔ ob = .dead := by cases ob <;> simp [O.live]

/-- How a step changes memory: B are the blocks that it may write to. -/
structure Chg (g : Gh) (objs : List (Nat × O)) (w : World) (upd : List (Nat × O)) (B : Nat → Prop) (g' : Gh) (w' : World) : Prop where
  os : w'.os = w.os
  tape : w'.tape = w.tape
  output : w'.output = w.output
  size : w.heap.size ≤ w'.heap.size
  heap : ∀ b, b < w.heap.size → ¬ B b → w'.heap[b]? = w.heap[b]?
  le : g.le g'
  μ : ∀ o, get upd o = none → g'.μ o = g.μ o
  cap : ∀ o, get upd o = none → g'.cap o = g.cap o
  other : ∀ o ob b, get objs o = some ob → ob.live = true → get upd o = none → g.μ o = some b → ¬ B b
  hnew : ∀ b k v, g'.h b k = some v → g.h b k = some v ∨ B b ∨ w.heap.size ≤ b
  obj : ∀ o ob, get upd o = some ob → RO g' w' o ob
  at_ : ∀ o ob b, get upd o = some ob → ob.live = true → g'.μ o = some b → B b ∨ w.heap.size ≤ b
  sep : ∀ o o' ob ob' b, get upd o = some ob → get upd o' = some ob' → ob.live = true → ob'.live = true → o ≠ o' → g'.μ o = some b → g'.μ o' ≠ some b
  shut : ∀ b k v, g'.h b k = some v → w'.cell? ⟨b, k, none⟩ = some v
  blk : ∀ o b, get upd o ≠ none → g'.μ o = some b → b < w'.heap.size

theorem Chg.rm {g g' : Gh} {objs upd : List (Nat × O)} {w w' : World} {B : Nat → Prop} (hc : Chg g objs w upd B g' w') (hm : Rm g objs w) : Rm g' (upd ++ objs) w' where
  obj o ob h := by
    rw [get_append] at h
    cases hu : get upd o with
    | some x => rw [hu] at h; simp at h; subst h; exact hc.obj o _ hu
    | none =>
      rw [hu] at h
      simp at h
      have hr := hm.obj o ob h
      cases ob with
      | dead => trivial
      | var e l =>
        obtain ⟨b, cur, h1, h2, h3, h4⟩ := hr
        have hB := hc.other o _ b h rfl hu h1
        have hlt := hm.blk o b h1
        refine ⟨b, cur, by rw [hc.μ o hu]; exact h1, by rw [hc.heap b hlt hB]; exact h2, h3.mono hc.le, fun k => ?_⟩
        cases hk : g'.h b k with
        | none => rfl
        | some v => rcases hc.hnew b k v hk with h' | h' | h'
                    · rw [h4 k] at h'; cases h'
                    · exact absurd h' hB
                    · omega
      | row e sz =>
        intro b h1
        rw [hc.μ o hu] at h1
        obtain ⟨cur, h2, h3, h4⟩ := hr b h1
        have hB := hc.other o _ b h rfl hu h1
        have hlt := hm.blk o b h1
        refine ⟨cur, by rw [hc.heap b hlt hB]; exact h2, by rw [hc.cap o hu]; exact h3, fun k hk' => ?_⟩
        rw [hc.cap o hu] at hk'
        cases hk : g'.h b k with
        | none => rfl
        | some v => rcases hc.hnew b k v hk with h' | h' | h'
                    · rw [h4 k hk'] at h'; cases h'
                    · exact absurd h' hB
                    · omega
  sep o o' ob ob' b h h' hl hl' hne hμ := by
    rw [get_append] at h h'
    cases hu : get upd o with
    | some x =>
      rw [hu] at h; simp at h; subst h
      cases hu' : get upd o' with
      | some y => rw [hu'] at h'; simp at h'; subst h'; exact hc.sep o o' _ _ b hu hu' hl hl' hne hμ
      | none =>
        rw [hu'] at h'; simp at h'
        rw [hc.μ o' hu']
        intro hμ'
        rcases hc.at_ o _ b hu hl hμ with hB | hB
        · exact hc.other o' ob' b h' hl' hu' hμ' hB
        · have := hm.blk o' b hμ'; omega
    | none =>
      rw [hu] at h; simp at h
      rw [hc.μ o hu] at hμ
      cases hu' : get upd o' with
      | some y =>
        rw [hu'] at h'; simp at h'; subst h'
        intro hμ'
        rcases hc.at_ o' _ b hu' hl' hμ' with hB | hB
        · exact hc.other o ob b h hl hu hμ hB
        · have := hm.blk o b hμ; omega
      | none =>
        rw [hu'] at h'; simp at h'
        rw [hc.μ o' hu']
        exact hm.sep o o' ob ob' b h h' hl hl' hne hμ
  shut := hc.shut
  blk o b h := by
    cases hu : get upd o with
    | some x => exact hc.blk o b (by rw [hu]; simp) h
    | none => rw [hc.μ o hu] at h; exact Nat.lt_of_lt_of_le (hm.blk o b h) hc.size

theorem Chg.fr {cx : Cx} {g g' : Gh} {objs upd : List (Nat × O)} {w w' : World} {B : Nat → Prop} (hc : Chg g objs w upd B g' w') (hf : Fr cx g objs w)
    (hB : ∀ b, B b → cx.w.heap.size ≤ b ∨ cx.foot b)
    (hk : ∀ j t l, j < cx.k → get upd j = some (.var t l) → (∃ t' l', get objs j = some (.var t' l')) ∧ g'.μ j = g.μ j ∧ g'.cap j = g.cap j) : Fr cx g' (upd ++ objs) w' where
  os := hc.os.trans hf.os
  tape := hc.tape.trans hf.tape
  output := hc.output.trans hf.output
  size := Nat.le_trans hf.size hc.size
  block b hb hn := by
    rw [hc.heap b (Nat.lt_of_lt_of_le hb hf.size) (fun h => by rcases hB b h with h | h; omega; exact hn h)]
    exact hf.block b hb hn
  h b k v h := hc.le.h _ _ _ (hf.h _ _ _ h)
  hnew b k v h h0 := by
    rcases hc.hnew b k v h with h | h | h
    · exact hf.hnew b k v h h0
    · exact hB b h
    · exact .inl (Nat.le_trans hf.size h)
  own o ob b h hl hμ := by
    rw [get_append] at h
    cases hu : get upd o with
    | some x =>
      rw [hu] at h; simp at h; subst h
      rcases hc.at_ o _ b hu hl hμ with h | h
      · exact hB b h
      · exact .inl (Nat.le_trans hf.size h)
    | none => rw [hu] at h; simp at h; rw [hc.μ o hu] at hμ; exact hf.own o ob b h hl hμ
  keep j t l hj h := by
    rw [get_append] at h
    cases hu : get upd j with
    | some x =>
      rw [hu] at h; simp at h; subst h
      obtain ⟨⟨t', l', hl'⟩, hμ, hc'⟩ := hk j t l hj hu
      rw [hμ, hc']; exact hf.keep j t' l' hj hl'
    | none => rw [hu] at h; simp at h; rw [hc.μ j hu, hc.cap j hu]; exact hf.keep j t l hj h

/-- Nothing is changed. -/
theorem Chg.nothing {g : Gh} {objs : List (Nat × O)} {w : World} (hm : Rm g objs w) : Chg g objs w [] (fun _ => False) g w where
  os := rfl
  tape := rfl
  output := rfl
  size := Nat.le_refl _
  heap _ _ _ := rfl
  le := .refl g
  μ _ _ := rfl
  cap _ _ := rfl
  other _ _ _ _ _ _ _ h := h
  hnew _ _ _ h := .inl h
  obj _ _ h := by simp [get] at h
  at_ _ _ _ h := by simp [get] at h
  sep _ _ _ _ _ h := by simp [get] at h
  shut := hm.shut
  blk _ _ h := by simp [get] at h

theorem get_one {α : Type} {i j : Nat} {x y : α} (h : get [(i, x)] j = some y) : j = i ∧ y = x := by
  simp only [get] at h
  cases hb : Nat.beq i j with
  | true => rw [hb] at h; simp at h; exact ⟨(Nat.eq_of_beq_eq_true hb).symm, h.symm⟩
  | false => rw [hb] at h; simp at h

theorem get_one_none {α : Type} {i j : Nat} {x : α} (h : get [(i, x)] j = none) : j ≠ i := by
  intro e
  subst e
  simp [get] at h

theorem get_one_same {α : Type} (i : Nat) (x : α) : get [(i, x)] i = some x := by
  simp [get]

/-- A variable is written. -/
theorem Chg.store {g : Gh} {objs : List (Nat × O)} {w : World} (hm : Rm g objs w) {o : Nat} {l l' : List A} {b : Nat} {cur : Array Value} {e : TypeId}
    (ho : get objs o = some (.var e l)) (hb : g.μ o = some b) (hg : w.heap[b]? = some (.cells cur e (0, 0))) (hk : ∀ k, g.h b k = none)
    {vs : List Value} (r : RL g vs l') : Chg g objs w [(o, .var e l')] (fun x => x = b) g (w.setRow b vs.toArray) where
  os := rfl
  tape := rfl
  output := rfl
  size := by simp
  heap b' _ h := by
    exact setRow_other w b b' _ h
  le := .refl g
  μ _ _ := rfl
  cap _ _ := rfl
  other o' ob b' h hl hu hμ := by
    intro e; subst e
    exact hm.sep o o' _ _ b' ho h rfl hl (fun h' => get_one_none hu h'.symm) hb hμ
  hnew _ _ _ h := .inl h
  obj o' ob h := by
    obtain ⟨rfl, rfl⟩ := get_one h
    exact ⟨b, vs.toArray, hb, setRow_heap w b cur vs.toArray e _ hg, by simpa using r, hk⟩
  at_ o' ob b' h hl hμ := by
    obtain ⟨rfl, rfl⟩ := get_one h
    rw [hb] at hμ; simp at hμ; exact .inl hμ.symm
  sep o1 o2 ob1 ob2 b' h1 h2 _ _ hne := by
    obtain ⟨rfl, rfl⟩ := get_one h1
    obtain ⟨rfl, rfl⟩ := get_one h2
    exact absurd rfl hne
  shut b' k v h := by
    have hne : b' ≠ b := by intro e; subst e; rw [hk k] at h; cases h
    have h1 := hm.shut b' k v h
    simp only [World.cell?] at h1 ⊢
    rw [setRow_other w b b' _ hne]; exact h1
  blk o' b' _ h := by
    have := hm.blk o' b' h
    simpa using this

/-- A new object. -/
theorem Chg.new {g : Gh} {objs : List (Nat × O)} {w : World} (hm : Rm g objs w) {o : Nat} {ob : O} (ho : g.μ o = none) (hn : get objs o = none) {X : Obj} {cap : Nat × Nat} {f : Hp}
    (hnew : ∀ k v, f w.heap.size k = some v → (w.alloc X).cell? ⟨w.heap.size, k, none⟩ = some v)
    (hold : ∀ b k, b ≠ w.heap.size → f b k = g.h b k)
    (hob : RO ⟨fun i => if i = o then some w.heap.size else g.μ i, fun i => if i = o then cap else g.cap i, f⟩ (w.alloc X) o ob) :
    Chg g objs w [(o, ob)] (fun _ => False) ⟨fun i => if i = o then some w.heap.size else g.μ i, fun i => if i = o then cap else g.cap i, f⟩ (w.alloc X) where
  os := rfl
  tape := rfl
  output := rfl
  size := by simp
  heap b hb _ := heap_alloc_old w X b hb
  le := ⟨fun i b h => by
      have : i ≠ o := by intro e; subst e; rw [ho] at h; cases h
      simp [this, h], fun i b h => by
      have : i ≠ o := by intro e; subst e; rw [ho] at h; cases h
      simp [this], fun b k v h => by
      have h1 := hm.shut b k v h
      have h2 := World.block_lt_of_cell? w _ h1
      have : b ≠ w.heap.size := by simp at h2; omega
      show f b k = some v
      rw [hold b k this]; exact h⟩
  μ i h := by have := get_one_none h; simp [this]
  cap i h := by have := get_one_none h; simp [this]
  other _ _ _ _ _ _ _ h := h
  hnew b k v h := by
    by_cases e : b = w.heap.size
    · exact .inr (.inr (by omega))
    · exact .inl (by rw [← hold b k e]; exact h)
  obj o' ob' h := by
    obtain ⟨rfl, rfl⟩ := get_one h
    exact hob
  at_ o' ob' b h hl hμ := by
    obtain ⟨rfl, rfl⟩ := get_one h
    simp at hμ
    exact .inr (by omega)
  sep o1 o2 ob1 ob2 b' h1 h2 _ _ hne := by
    obtain ⟨rfl, rfl⟩ := get_one h1
    obtain ⟨rfl, rfl⟩ := get_one h2
    exact absurd rfl hne
  shut b k v h := by
    by_cases e : b = w.heap.size
    · subst e; exact hnew k v h
    · have h1 : g.h b k = some v := by rw [← hold b k e]; exact h
      have h2 := hm.shut b k v h1
      have h3 := World.block_lt_of_cell? w _ h2
      simp only [World.cell?] at h2 ⊢
      rw [heap_alloc_old w X b (by simpa using h3)]; exact h2
  blk i b h hμ := by
    by_cases e : i = o
    · subst e; simp at hμ; subst hμ; simp
    · have h1 : g.μ i = some b := by simpa [e] using hμ
      have := hm.blk i b h1
      simp; omega

end Go.Abs
