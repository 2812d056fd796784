/- Each operation of the model does what the abstract machine says: append, min, max. -/
import Derived.Test.YtoioflodpmideaaAbs10
namespace Go.Abs

section
variable {P : Program} {L : Lay} {g : Gh} {st : St} {a : Act} {w : World}

theorem get_two {α : Type} {n o p : Nat} {x y z : α} (h : get [(n, x), (o, y)] p = some z) : (p = n ∧ z = x) ∨ (p = o ∧ z = y ∧ p ≠ n) := by
  simp only [get] at h
  cases hb : Nat.beq n p with
  | true => rw [hb] at h; simp at h; exact .inl ⟨(Nat.eq_of_beq_eq_true hb).symm, h.symm⟩
  | false =>
    rw [hb] at h
    cases hb' : Nat.beq o p with
    | true => rw [hb'] at h; simp at h; exact .inr ⟨(Nat.eq_of_beq_eq_true hb').symm, h.symm, fun e => Nat.ne_of_beq_eq_false hb e.symm⟩
    | false => rw [hb'] at h; simp at h

theorem get_two_none {α : Type} {n o p : Nat} {x y : α} (h : get [(n, x), (o, y)] p = none) : p ≠ n ∧ p ≠ o := by
  simp only [get] at h
  constructor
  · intro e
    subst e
    simp at h
  · intro e
    subst e
    cases hb : Nat.beq n p <;> rw [hb] at h <;> simp at h

/-- A row that grows in its place: under a new number. -/
theorem Chg.grow {objs : List (Nat × O)} (hm : Rm g objs w) {w' : World} {n o b sz : Nat} {e : TypeId} {cur : Array Value} {xs : List Value} (hn : g.μ n = none) (ho : get objs o = some (.row e sz)) (hb : g.μ o = some b)
    (hg : w'.heap[b]? = some (.cells cur e (0, 0))) (hsz : cur.size = (g.cap o).1 * sz) (htake : ∀ (j : Nat) u, xs[j]? = some u → cur[j]? = some u) {k' : Nat} (hk' : xs.length ≤ k' * sz)
    (hold : ∀ j v, g.h b j = some v → xs[j]? = some v) (hos : w'.os = w.os) (htape : w'.tape = w.tape) (hout : w'.output = w.output) (hs : w'.heap.size = w.heap.size) (hheap : ∀ c, c ≠ b → w'.heap[c]? = w.heap[c]?) :
    Chg g objs w [(n, .row e sz), (o, .dead)] (fun x => x = b) ⟨fun i => if i = n then some b else g.μ i, fun i => if i = n then ((g.cap o).1, k') else g.cap i, fun c j => if c = b then xs[j]? else g.h c j⟩ w' where
  os := hos
  tape := htape
  output := hout
  size := by omega
  heap c _ h := hheap c h
  le := ⟨fun i c h => by
      have : i ≠ n := by intro e; subst e; rw [hn] at h; cases h
      simp [this, h], fun i c h => by
      have : i ≠ n := by intro e; subst e; rw [hn] at h; cases h
      simp [this], fun c j v h => by
      show (if c = b then xs[j]? else g.h c j) = some v
      by_cases e : c = b
      · subst e; simp [hold j v h]
      · simp [e, h]⟩
  μ i h := by have := (get_two_none h).1; simp [this]
  cap i h := by have := (get_two_none h).1; simp [this]
  other p ob c h hl hu hμ := by
    intro e
    subst e
    exact hm.sep o p _ ob c ho h rfl hl (fun h' => (get_two_none hu).2 h'.symm) hb hμ
  hnew c j v h := by
    by_cases e : c = b
    · exact .inr (.inl e)
    · exact .inl (by simpa [e] using h)
  obj p ob h := by
    rcases get_two h with ⟨rfl, rfl⟩ | ⟨rfl, rfl, _⟩
    · intro c hc
      simp at hc; subst hc
      refine ⟨cur, hg, by simp [hsz], fun j hj => ?_⟩
      simp only [if_true] at hj ⊢
      rw [List.getElem?_eq_none]; omega
    · trivial
  at_ p ob c h hl hμ := by
    rcases get_two h with ⟨rfl, rfl⟩ | ⟨rfl, rfl, _⟩
    · simp at hμ; exact .inl hμ.symm
    · simp [O.live] at hl
  sep p p' ob ob' c h h' hl hl' hne := by
    rcases get_two h with ⟨rfl, rfl⟩ | ⟨rfl, rfl, _⟩
    · rcases get_two h' with ⟨rfl, rfl⟩ | ⟨rfl, rfl, _⟩
      · exact absurd rfl hne
      · simp [O.live] at hl'
    · simp [O.live] at hl
  shut c j v h := by
    by_cases e : c = b
    · subst e
      simp only [if_true] at h
      rw [cell_of_row _ _ _ _ _ _ hg]
      exact htake j v h
    · have h1 : g.h c j = some v := by simpa [e] using h
      have h2 := hm.shut c j v h1
      simp only [World.cell?] at h2 ⊢
      rw [hheap c e]; exact h2
  blk p c _ hμ := by
    rw [hs]
    by_cases e : p = n
    · subst e; simp at hμ; subst hμ; exact hm.blk o _ hb
    · exact hm.blk p c (by simpa [e] using hμ)

theorem own_of {μ : Nat → Option Nat} {cap : Nat → Nat × Nat} {h : Hp} {n b m sz c : Nat} {l : List (List C)} {xs : List Value} (h0 : μ n = some b) (hc : cap n = (c, m)) (h1 : m = l.length) (h2 : m ≤ c) (h3 : c ≤ maxLen) (h4 : ∀ r ∈ l, r.length = sz)
    (h5 : ∀ (k : Nat) x, l.flatten[k]? = some x → ∃ u, xs[k]? = some u ∧ h b k = some u ∧ RC h u x) : RA ⟨μ, cap, h⟩ (.slice (some ⟨b, 0, none⟩) m c) (.own sz l n) := by
  have hc1 : c = ((⟨μ, cap, h⟩ : Gh).cap n).1 := by simp [hc]
  rw [hc1]
  refine .own (g := ⟨μ, cap, h⟩) n b m sz l (fun k => (xs[k]?).getD default) h0 h1 (by simp [hc]) (by rw [← hc1]; exact h2) (by rw [← hc1]; exact h3) h4 (fun k x hx => ?_) (fun k x hx => ?_)
  · obtain ⟨u, q1, q2, _⟩ := h5 k x hx
    simp [q1, q2]
  · obtain ⟨u, q1, _, q3⟩ := h5 k x hx
    simpa [q1] using q3

theorem stp_append (hL : LOk P L) (hr : Rel g st a w) {o : Oper} {t e : TypeId} {s x : Operand} (ho : o.op = .call { callee := .builtin .append, args := #[s, x], argTypes := #[t, t] }) {te : TI} (he : sliceElem L t = some (e, te))
    {p q : A} (hs : st.val L t s = some (.one p)) (hx : st.val L t x = some (.one q)) {l m : List (List C)} {tok : Option Nat} (hp : p.grows? = some (te.size, l, tok)) (hq : q.rows? = some (te.size, m)) (h0 : 0 < te.size)
    (htok : ∀ i, tok = some i → get st.objs i = some (.row e te.size)) (h63 : l.length + m.length ≤ maxLen) (hby : (l.length + m.length) * te.bytes ≤ 140737488355328) {n : Nat} (hn : get st.objs n = none) (hle : st.next ≤ n) :
    ∃ v' w' g' B, Stp P g st a w o { val := .one (.own te.size (l ++ m) n), upd := (n, .row e te.size) :: (match tok with | some i => [(i, .dead)] | none => []), reads := (match tok with | some i => [i] | none => []) } v' w' g' B := by
  have hμ := hr.fresh n hle hn
  have r1 := (val_ok hr hs).one_inv
  have r2 := (val_ok hr hx).one_inv
  unfold sliceElem at he
  split at he
  rotate_left
  · cases he
  rename_i ti hti
  split at he
  rotate_left
  · cases he
  rename_i e' hd
  cases hte : get L e' with
  | none => simp [hte] at he
  | some te' =>
    simp [hte] at he
    obtain ⟨rfl, rfl⟩ := he
    have hT := hL _ _ hte
    have hTt := hL _ _ hti
    have h3 := hTt.desc
    rw [hd] at h3
    obtain ⟨i, hi, hi1, hi2, hi3⟩ := hT.info
    obtain ⟨ad, cp, news, e2, had, hnl, hcell, h1c, hmr, hmc⟩ := rows_src hr.mem r2 hq
    have hblk : ∀ k, g.h w.heap.size k = none := fun k => by
      cases hk : g.h w.heap.size k with
      | none => rfl
      | some v => have := World.block_lt_of_cell? w _ (hr.mem.shut _ _ _ hk); simp at this
    have hnl' : news.length = m.length * i.size := by rw [hi1]; exact hnl
    have hexec : ∀ v' w', (Builtin.append_ #[t, t] o.type #[a.eval s, a.eval x]).run P w = .ok v' w' → Outs P a o w v' w' := by
      intro v' w' h
      refine .inl ?_
      simp [execOp, ho, resolve, invoke, builtin, h]
    -- a new block
    have grown : ∀ (olds : List Value) (cap : Nat), olds.length = l.length * te'.size → l.length + m.length ≤ cap → cap ≤ maxLen → (∀ r ∈ l, r.length = te'.size) →
        (∀ (k : Nat) c u, l.flatten[k]? = some c → olds[k]? = some u → RC g.h u c) →
        (Builtin.append_ #[t, t] o.type #[a.eval s, a.eval x]).run P w = .ok (.slice (some ⟨w.heap.size, 0, none⟩) (l.length + m.length) cap) (w.drew.alloc (.cells (olds.toArray ++ news.toArray ++ Builtin.zeroCells te'.zero.cells (cap - (l.length + m.length))) e')) →
        ∃ v' w' g' B, Stp P g st a w o { val := .one (.own te'.size (l ++ m) n), upd := (n, .row e' te'.size) :: (match tok with | some i => [(i, .dead)] | none => []), reads := (match tok with | some i => [i] | none => []) } v' w' g' B := by
      intro olds cap hol hcap hmax hlr hlc hrun
      let xs := olds ++ news
      let h' : Hp := fun b k => if b = w.heap.size then xs[k]? else g.h b k
      have hxs : xs.length = (l ++ m).length * te'.size := by simp only [xs, List.length_append, hol, hnl, Nat.add_mul]
      have hle' : ∀ b k v, g.h b k = some v → h' b k = some v := by
        intro b k v h
        by_cases e : b = w.heap.size
        · subst e; rw [hblk k] at h; cases h
        · simp [h', e, h]
      have hc := Chg.new hr.mem.drew (ob := .row e' te'.size) hμ hn (X := .cells (olds.toArray ++ news.toArray ++ Builtin.zeroCells te'.zero.cells (cap - (l.length + m.length))) e') (cap := (cap, (l ++ m).length)) (f := h')
        (fun k v h => by
          have h1 : xs[k]? = some v := by simpa [h'] using h
          have hg := heap_alloc_new w.drew (.cells (olds.toArray ++ news.toArray ++ Builtin.zeroCells te'.zero.cells (cap - (l.length + m.length))) e')
          rw [cell_of_row _ _ _ _ _ _ hg]
          have hlt := (List.getElem?_eq_some_iff.1 h1).1
          rw [Array.getElem?_append_left (by simpa [xs] using hlt)]
          have : (olds.toArray ++ news.toArray) = xs.toArray := by simp [xs]
          rw [this]
          simpa using h1)
        (fun b k hb => by
          have : b ≠ w.heap.size := hb
          simp [h', this])
        (by
          intro b hb
          simp at hb; subst hb
          refine ⟨_, heap_alloc_new w.drew _, ?_, fun k hk => ?_⟩
          · have hz := hT.len
            simp only [Array.size_append, List.size_toArray, size_zeroCells, hol, hnl, if_true, hz]
            rw [← Nat.add_mul, ← Nat.add_mul]
            congr 1
            omega
          · simp only [h', if_true] at hk ⊢
            rw [List.getElem?_eq_none]; omega)
      have hc' := hc.ofDrew
      have hval : RV ⟨fun i => if i = n then some w.drew.heap.size else g.μ i, fun i => if i = n then (cap, (l ++ m).length) else g.cap i, h'⟩ (.slice (some ⟨w.heap.size, 0, none⟩) (l.length + m.length) cap) (.one (.own te'.size (l ++ m) n)) := by
        refine .one _ _ (own_of (xs := xs) (by simp) (by simp) (by simp) (by omega) hmax (fun r hr => ?_) (fun k c hk => ?_))
        · rcases List.mem_append.1 hr with h | h
          · exact hlr r h
          · exact hmr r h
        · have hlt := (List.getElem?_eq_some_iff.1 hk).1
          have hfl : (l ++ m).flatten.length = (l ++ m).length * te'.size := flatten_length fun r hr => by
            rcases List.mem_append.1 hr with h | h
            · exact hlr r h
            · exact hmr r h
          have hkx : k < xs.length := by omega
          refine ⟨xs[k], by simp, ?_, ?_⟩
          · simp [h', hkx]
          · have hu : xs[k]? = some xs[k] := by simp
            rw [List.flatten_append, List.getElem?_append] at hk
            have hfl2 := flatten_length hlr
            by_cases hk1 : k < l.flatten.length
            · rw [if_pos hk1] at hk
              refine (hlc k c _ hk ?_).mono hle'
              rw [← hu]; simp only [xs]
              rw [List.getElem?_append_left (by omega)]
            · rw [if_neg hk1] at hk
              refine (hmc _ c _ hk ?_).mono hle'
              rw [← hu]; simp only [xs]
              rw [List.getElem?_append_right (by omega)]
              congr 1; omega
      refine ⟨_, _, _, _, hexec _ _ hrun, hval, ?_, fun _ (h : False) => h.elim, fun j t' l' h => ?_⟩
      · cases tok with
        | none => exact hc'
        | some i => exact hc'.addDead hr.mem (o := i)
      · exfalso
        cases tok with
        | none => exact absurd (get_one h).2 (by simp)
        | some i => rcases get_two h with ⟨_, h⟩ | ⟨_, h, _⟩ <;> cases h
    rcases grows_inv r1 hp with ⟨e1, rfl⟩ | ⟨i0, b, f, rfl, hb, e1, hlc, hcm, hl2, hlr, hl5, hl6⟩
    · -- onto nil
      by_cases hm0 : m = []
      · subst hm0
        have hne : news = [] := List.eq_nil_of_length_eq_zero (by simpa using hnl)
        have hrun : (Builtin.append_ #[t, t] o.type #[a.eval s, a.eval x]).run P w = .ok (.slice none 0 0) w := by
          rw [e1, e2]
          cases ad <;> simp [Builtin.append_, run_underlying h3, sizeOf, typeInfo, hi, Builtin.lenOf, Builtin.firstCells, loadCells, loadCellsFrom]
        have hnone : Chg g st.objs w [(n, .row e' te'.size)] (fun _ => False) g w := by
          refine ⟨rfl, rfl, rfl, Nat.le_refl _, fun _ _ _ => rfl, .refl g, fun _ _ => rfl, fun _ _ => rfl, fun _ _ _ _ _ _ _ h => h, fun _ _ _ h => .inl h, fun p ob h => ?_, fun p ob c h hl hc => ?_, fun p p' ob ob' c h h' _ _ hne => ?_, hr.mem.shut, fun p c h hc => hr.mem.blk p c hc⟩
          · obtain ⟨rfl, rfl⟩ := get_one h
            intro c hc; rw [hμ] at hc; cases hc
          · obtain ⟨rfl, rfl⟩ := get_one h
            rw [hμ] at hc; cases hc
          · obtain ⟨rfl, _⟩ := get_one h
            obtain ⟨rfl, _⟩ := get_one h'
            exact absurd rfl hne
        refine ⟨_, _, g, fun _ => False, hexec _ _ hrun, .one _ _ (.ownNil _ _), ?_, fun _ (h : False) => h.elim, fun j t' l' h => ?_⟩
        · cases tok with
          | none => exact hnone
          | some i => exact hnone.addDead hr.mem (o := i)
        · exfalso
          cases tok with
          | none => exact absurd (get_one h).2 (by simp)
          | some i => rcases get_two h with ⟨_, h⟩ | ⟨_, h, _⟩ <;> cases h
      · cases ad with
        | none => exact absurd (had rfl) hm0
        | some ad =>
          have hpos : 0 < m.length := List.length_pos_iff.2 hm0
          simp only [List.length_nil, Nat.zero_add] at h63 hby
          have hr' := run_append_nil (P := P) w t o.type e' i te'.zero h3 hi hi3 ad m.length cp news hnl' (hcell ad rfl) hpos (by simp only [maxLen] at h63; omega) (by rw [hi2]; omega)
          rw [← e1, ← e2] at hr'
          refine grown [] (grownCap w m.length 0 e') (by simp) (by simpa using grownCap_ge w m.length 0 e') (grownCap_le_maxLen w m.length 0 e' h63) (by simp) (by simp) ?_
          simpa using hr'
    · -- onto a row
      have hrow := htok i0 rfl
      obtain ⟨cur, hg, hcs, hck⟩ := hr.mem.obj i0 _ hrow b hb
      have hfl := flatten_length hlr
      let olds := (List.range (l.length * te'.size)).map f
      have hol : olds.length = l.length * te'.size := by simp [olds]
      have hog : ∀ (k : Nat) u, olds[k]? = some u → k < l.flatten.length ∧ u = f k := by
        intro k u hu
        simp only [olds, List.getElem?_map, Option.map_eq_some_iff] at hu
        obtain ⟨j, hj, rfl⟩ := hu
        obtain ⟨q1, q2⟩ := List.getElem?_eq_some_iff.1 hj
        simp at q1 q2; subst q2
        exact ⟨by rw [hfl]; exact q1, rfl⟩
      have hoc : ∀ (k : Nat) u, olds[k]? = some u → cur[k]? = some u := by
        intro k u hu
        obtain ⟨q1, rfl⟩ := hog k u hu
        have := hr.mem.shut _ _ _ (hl5 k _ (List.getElem?_eq_getElem q1))
        rw [cell_of_row _ _ _ _ _ _ hg] at this
        exact this
      have holc : ∀ (k : Nat) c u, l.flatten[k]? = some c → olds[k]? = some u → RC g.h u c := by
        intro k c u hc hu
        obtain ⟨_, rfl⟩ := hog k u hu
        exact hl6 k c hc
      -- in place
      have place : ∀ (w' : World) (cur' : Array Value), (Builtin.append_ #[t, t] o.type #[a.eval s, a.eval x]).run P w = .ok (.slice (some ⟨b, 0, none⟩) (l.length + m.length) (g.cap i0).1) w' → l.length + m.length ≤ (g.cap i0).1 →
          w'.heap[b]? = some (.cells cur' e' (0, 0)) → cur'.size = cur.size → (∀ (j : Nat) u, (olds ++ news)[j]? = some u → cur'[j]? = some u) → w'.os = w.os → w'.tape = w.tape → w'.output = w.output → w'.heap.size = w.heap.size → (∀ c, c ≠ b → w'.heap[c]? = w.heap[c]?) →
          ∃ v' w' g' B, Stp P g st a w o { val := .one (.own te'.size (l ++ m) n), upd := [(n, .row e' te'.size), (i0, .dead)], reads := [i0] } v' w' g' B := by
        intro w' cur' hrun hroom hg' hs' ht' q1 q2 q3 q4 q5
        have hold : ∀ (j : Nat) v, g.h b j = some v → (olds ++ news)[j]? = some v := by
          intro j v hv
          have hj : j < l.flatten.length := by
            rcases Nat.lt_or_ge j (l.length * te'.size) with h | h
            · omega
            · rw [hck j (by rw [← hl2]; exact h)] at hv; cases hv
          have h1 := hl5 j _ (List.getElem?_eq_getElem hj)
          rw [hv] at h1
          simp at h1
          rw [List.getElem?_append_left (by omega)]
          simp only [olds]
          rw [List.getElem?_map, List.getElem?_range (by omega)]
          simp [h1]
        have hc := Chg.grow (w' := w') (cur := cur') (xs := olds ++ news) hr.mem hμ hrow hb hg' (by rw [hs', hcs]) ht' (k' := (l ++ m).length) (by simp [hol, hnl, Nat.add_mul]) hold q1 q2 q3 q4 q5
        refine ⟨_, _, _, _, hexec _ _ hrun, .one _ _ (own_of (xs := olds ++ news) (by simp) (by simp) (by simp) hroom hcm (fun r hr => ?_) (fun k c hk => ?_)), hc, fun c h => ⟨i0, _, hrow, rfl, by rw [h]; exact hb⟩, fun j t' l' h => ?_⟩
        · rcases List.mem_append.1 hr with h | h
          · exact hlr r h
          · exact hmr r h
        · have hlt := (List.getElem?_eq_some_iff.1 hk).1
          have hfl' : (l ++ m).flatten.length = (l ++ m).length * te'.size := flatten_length fun r hr => by
            rcases List.mem_append.1 hr with h | h
            · exact hlr r h
            · exact hmr r h
          have hkl : (olds ++ news).length = (l ++ m).length * te'.size := by simp only [List.length_append, hol, hnl, Nat.add_mul]
          have hkx : k < (olds ++ news).length := by omega
          refine ⟨(olds ++ news)[k], by simp, by simp, ?_⟩
          have hu : (olds ++ news)[k]? = some (olds ++ news)[k] := by simp
          rw [List.flatten_append, List.getElem?_append] at hk
          by_cases hk1 : k < l.flatten.length
          · rw [if_pos hk1] at hk
            refine (holc k c _ hk ?_).mono hc.le.h
            rw [← hu, List.getElem?_append_left (by omega)]
          · rw [if_neg hk1] at hk
            refine (hmc _ c _ hk ?_).mono hc.le.h
            rw [← hu, List.getElem?_append_right (by omega)]
            congr 1; omega
        · exfalso
          rcases get_two h with ⟨_, h⟩ | ⟨_, h, _⟩ <;> cases h
      by_cases hroom : l.length + m.length ≤ (g.cap i0).1
      · cases ad with
        | none =>
          have hm0 := had rfl
          subst hm0
          have hne : news = [] := List.eq_nil_of_length_eq_zero (by simpa using hnl)
          subst hne
          refine place w cur ?_ hroom hg rfl (fun j u hu => hoc j u (by simpa using hu)) rfl rfl rfl rfl (fun _ _ => rfl)
          rw [e1, e2]
          simp only [List.length_nil, Nat.add_zero] at hroom ⊢
          simp [Builtin.append_, run_underlying h3, sizeOf, typeInfo, hi, Builtin.lenOf, Builtin.firstCells, hroom, storeCells]
        | some ad =>
          have hfit : l.length * i.size + news.length ≤ cur.size := by rw [hnl', hcs, hi1, ← Nat.add_mul]; exact Nat.mul_le_mul_right _ hroom
          have hr' := run_append_room (P := P) w t o.type e' i h3 hi b l.length (g.cap i0).1 cur hg ad m.length cp news hnl' (hcell ad rfl) h1c hroom hfit
          rw [← e1, ← e2] at hr'
          refine place _ _ hr' hroom (setRow_heap w b cur _ e' _ hg) ?_ ?_ rfl rfl rfl (by simp) (fun c hc => setRow_other w b c _ hc)
          · simp only [List.size_toArray, List.length_append, List.length_take, List.length_drop, Array.length_toList]
            omega
          · intro j u hu
            have htk : cur.toList.take (l.length * i.size) = olds := by
              apply List.ext_getElem?
              intro j
              rw [List.getElem?_take]
              split
              · rename_i hj
                have hj' : j < olds.length := by rw [hol, ← hi1]; exact hj
                have := hoc j _ (List.getElem?_eq_getElem hj')
                rw [List.getElem?_eq_getElem hj']
                simpa using this
              · rename_i hj
                rw [List.getElem?_eq_none]; rw [hol, ← hi1]; omega
            simp only [List.getElem?_toArray]
            rw [htk, List.getElem?_append_left (List.getElem?_eq_some_iff.1 hu).1]
            exact hu
      · cases ad with
        | none => have := had rfl; subst this; simp at hroom; omega
        | some ad =>
          have hr' := run_append_grow (P := P) w t o.type e' i te'.zero h3 hi hi3 ⟨b, 0, none⟩ l.length (g.cap i0).1 olds (by rw [hi1]; exact hol) (fun j v hv => by
              rw [Addr.add_lit, Nat.zero_add, cell_of_row _ _ _ _ _ _ hg]; exact hoc j v hv) ad m.length cp news hnl' (hcell ad rfl) (by omega) (by simp only [maxLen] at h63; omega) (growslice_fits (by omega) (by rw [hi2]; exact hby))
          rw [← e1, ← e2] at hr'
          exact grown olds _ hol (grownCap_ge w _ _ e') (grownCap_le_maxLen w _ _ e' h63) hlr holc hr'

theorem stp_min (hr : Rel g st a w) {o : Oper} {t t' : TypeId} {x y : Operand} {ts : Array TypeId} (ho : o.op = .call { callee := .builtin .min, args := #[x, y], argTypes := ts }) {k : IntKind} {m n : Int} (hx : st.val L t x = some (.int k m)) (hy : st.val L t' y = some (.int k n)) :
    ∃ v' w' g' B, Stp P g st a w o { val := .int k (if n < m then n else m) } v' w' g' B := by
  have h1 := (val_ok hr hx).lit_inv
  have h2 := (val_ok hr hy).lit_inv
  refine Stp.quiet hr (v := .int k (if n < m then n else m)) ?_ (rv_lit rfl)
  simp [execOp, ho, resolve, invoke, builtin, Builtin.min_, Builtin.min2, h1, h2]

theorem stp_max (hr : Rel g st a w) {o : Oper} {t t' : TypeId} {x y : Operand} {ts : Array TypeId} (ho : o.op = .call { callee := .builtin .max, args := #[x, y], argTypes := ts }) {k : IntKind} {m n : Int} (hx : st.val L t x = some (.int k m)) (hy : st.val L t' y = some (.int k n)) :
    ∃ v' w' g' B, Stp P g st a w o { val := .int k (if m < n then n else m) } v' w' g' B := by
  have h1 := (val_ok hr hx).lit_inv
  have h2 := (val_ok hr hy).lit_inv
  refine Stp.quiet hr (v := .int k (if m < n then n else m)) ?_ (rv_lit rfl)
  simp [execOp, ho, resolve, invoke, builtin, Builtin.max_, Builtin.max2, h1, h2]

end
end Go.Abs
