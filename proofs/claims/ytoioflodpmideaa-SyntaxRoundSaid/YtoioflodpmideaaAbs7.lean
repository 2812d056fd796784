/- Each operation of the model does what the abstract machine says: those that leave memory alone, and those that write a variable or make one. -/
import Derived.Test.YtoioflodpmideaaAbs6
namespace Go.Abs

/-- What the run of an operation comes to: a value, a world. -/
def Outs (P : Program) (a : Act) (o : Oper) (w : World) (v : Value) (w' : World) : Prop :=
  (execOp a.eval o).run P w = .ok (.value v) w' ∨ ((execOp a.eval o).run P w = .ok .skip w' ∧ v = undef)

/-- An operation's step. -/
structure Stp (P : Program) (g : Gh) (st : St) (a : Act) (w : World) (o : Oper) (e : Eff) (v : Value) (w' : World) (g' : Gh) (B : Nat → Prop) : Prop where
  run : Outs P a o w v w'
  val : RV g' v e.val
  chg : Chg g st.objs w e.upd B g' w'
  blk : ∀ b, B b → ∃ p ob, get st.objs p = some ob ∧ ob.live = true ∧ g.μ p = some b
  var : ∀ j t l, get e.upd j = some (.var t l) → ((∃ t' l', get st.objs j = some (.var t' l')) ∧ g'.μ j = g.μ j ∧ g'.cap j = g.cap j) ∨ st.next ≤ j

section
variable {P : Program} {L : Lay} {g : Gh} {st : St} {a : Act} {w : World}

theorem constA_ok (g : Gh) (L : Lay) (ty : TypeId) {v : Value} (h : v.oneCell' = true) : RA g v (constA L ty v) := by
  unfold constA
  split
  · (repeat' split) <;> first | exact .nil _ | exact .c _ _ (.lit _ h)
  · cases v <;> first | exact .c _ _ (.lit _ h) | exact .c _ _ (.str _ _ rfl)

theorem val_ok (hr : Rel g st a w) {ty : TypeId} {x : Operand} {v : V} (h : st.val L ty x = some v) : RV g (a.eval x) v := by
  cases x with
  | tmp t => exact (hr.slot t v h).2
  | const u =>
    simp only [St.val] at h
    split at h
    · rename_i h1
      simp only [Option.some.injEq] at h
      subst h
      exact .one _ _ (constA_ok g L ty h1)
    · cases h
  | global n => simp [St.val] at h
  | func f =>
    simp only [St.val, Option.some.injEq] at h
    subst h
    exact .one _ _ (.fn f _ _ [] [] rfl rfl (fun i v b h => by simp at h) (fun i v b h => by simp at h))

theorem Stp.quiet (hr : Rel g st a w) {o : Oper} {v : Value} {x : V} {rs : List Nat} (hrun : (execOp a.eval o).run P w = .ok (.value v) w) (hv : RV g v x) :
    ∃ v w' g' B, Stp P g st a w o { val := x, reads := rs } v w' g' B :=
  ⟨v, w, g, _, .inl hrun, hv, Chg.nothing hr.mem, fun _ h => h.elim, fun _ _ _ h => by simp [get] at h⟩

theorem stp_move (hr : Rel g st a w) {o : Oper} {x : Operand} (ho : o.op = .move x ∨ o.op = .assign x) {v : V} (h : st.val L o.type x = some v) :
    ∃ v' w' g' B, Stp P g st a w o { val := v } v' w' g' B := by
  refine Stp.quiet hr (v := a.eval x) ?_ (val_ok hr h)
  rcases ho with ho | ho <;> simp [execOp, ho]

theorem stp_pick (hr : Rel g st a w) {o : Oper} {c x y : Operand} (ho : o.op = .pick c x y) {t : Bool} (hc : st.val L 0 c = some (.bool t)) {v : V}
    (h : st.val L o.type (cond t x y) = some v) : ∃ v' w' g' B, Stp P g st a w o { val := v } v' w' g' B := by
  have h1 := val_ok hr hc
  refine Stp.quiet hr (v := a.eval (cond t x y)) ?_ (val_ok hr h)
  generalize hq : a.eval c = q at h1
  cases h1 with
  | one _ _ h2 => cases h2 with
    | c _ _ h3 => cases h3 with
      | lit _ _ => cases t <;> simp [execOp, ho, hq, asBool]

theorem stp_alloc (hL : LOk P L) (hr : Rel g st a w) {o : Oper} {t : TypeId} (ho : o.op = .alloc t) {ti : TI} (ht : get L t = some ti) {n : Nat}
    (hn : get st.objs n = none) (hle : st.next ≤ n) : ∃ v' w' g' B, Stp P g st a w o { val := .one (.ptr n 0), upd := [(n, .var t ti.zs)] } v' w' g' B := by
  have hT := hL t ti ht
  have hμ := hr.fresh n hle hn
  have hc := Chg.new hr.mem (ob := .var t ti.zs) hμ hn (X := .cells ti.zero.cells t) (cap := (0, 0)) (f := g.h)
    (fun k v h => by
      have := World.block_lt_of_cell? w _ (hr.mem.shut _ _ _ h)
      simp at this)
    (fun _ _ _ => rfl)
    (by
      refine ⟨w.heap.size, ti.zero.cells, by simp, heap_alloc_new w _, (hT.zero _), fun k => ?_⟩
      cases hk : g.h w.heap.size k with
      | none => rfl
      | some v => have := World.block_lt_of_cell? w _ (hr.mem.shut _ _ _ hk); simp at this)
  refine ⟨.pointer (some ⟨w.heap.size, 0, none⟩), _, _, _, .inl ?_, ?_, hc, fun _ h => h.elim, fun j t l h => .inr ?_⟩
  · simp [execOp, ho, Instr.alloc, hT.run_zero, newVar, newRow]
  · exact .one _ _ (.ptr n 0 _ (by simp))
  · obtain ⟨rfl, _⟩ := get_one h; exact hle

theorem stp_box (hr : Rel g st a w) {o : Oper} {t : TypeId} {x : Operand} (ho : o.op = .box t x) {v : V} (hv : st.val L t x = some v) {cs : List A} (hcs : v.cells = some cs) {n : Nat}
    (hn : get st.objs n = none) (hle : st.next ≤ n) : ∃ v' w' g' B, Stp P g st a w o { val := .one (.ptr n 0), upd := [(n, .var t cs)] } v' w' g' B := by
  have hμ := hr.fresh n hle hn
  have h1 := (val_ok hr hv).cells hcs
  have hc := Chg.new hr.mem (ob := .var t cs) hμ hn (X := .cells (a.eval x).cells t) (cap := (0, 0)) (f := g.h)
    (fun k v h => by
      have := World.block_lt_of_cell? w _ (hr.mem.shut _ _ _ h)
      simp at this)
    (fun _ _ _ => rfl)
    (by
      refine ⟨w.heap.size, (a.eval x).cells, by simp, heap_alloc_new w _, h1.mono ?_, fun k => ?_⟩
      · refine ⟨fun i b h => ?_, fun i b h => ?_, fun _ _ _ h => h⟩
        · have : i ≠ n := by intro e; subst e; rw [hμ] at h; cases h
          simp [this, h]
        · have : i ≠ n := by intro e; subst e; rw [hμ] at h; cases h
          simp [this]
      · cases hk : g.h w.heap.size k with
        | none => rfl
        | some v => have := World.block_lt_of_cell? w _ (hr.mem.shut _ _ _ hk); simp at this)
  refine ⟨.pointer (some ⟨w.heap.size, 0, none⟩), _, _, _, .inl ?_, ?_, hc, fun _ h => h.elim, fun j t l h => .inr ?_⟩
  · simp [execOp, ho, Instr.box, newVar, newRow]
  · exact .one _ _ (.ptr n 0 _ (by simp))
  · obtain ⟨rfl, _⟩ := get_one h; exact hle

theorem RV.ptr_inv {v : Value} {p off : Nat} (h : RV g v (.one (.ptr p off))) : ∃ b, g.μ p = some b ∧ v = .pointer (some ⟨b, off, none⟩) := by
  cases h with
  | one _ _ h => cases h with
    | ptr o off b h => exact ⟨b, h, rfl⟩

theorem RV.lit_inv {v u : Value} (h : RV g v (.one (.c (.lit u)))) : v = u := by
  cases h with
  | one _ _ h => cases h with
    | c _ _ h => cases h with
      | lit _ _ => rfl

theorem RV.str_inv {v : Value} {l : Str} (h : RV g v (.one (.c (.str l)))) : ∃ s : ByteArray, v = .string s ∧ s.data.toList = l := by
  cases h with
  | one _ _ h => cases h with
    | c _ _ h => cases h with
      | str s l h => exact ⟨s, rfl, h⟩

theorem stp_load (hL : LOk P L) (hr : Rel g st a w) {o : Oper} {t : TypeId} {x : Operand} (ho : o.op = .load t x) {ti : TI} (ht : get L t = some ti) {p off : Nat}
    (hx : st.val L 0 x = some (.one (.ptr p off))) {e : TypeId} {l : List A} (hp : get st.objs p = some (.var e l)) {v : V} (hv : partA ti l off = some v) :
    ∃ v' w' g' B, Stp P g st a w o { val := v, reads := [p] } v' w' g' B := by
  obtain ⟨b, hb, he⟩ := (val_ok hr hx).ptr_inv
  obtain ⟨b', cur, hb', hg, hrl, _⟩ := hr.mem.obj p _ hp
  rw [hb] at hb'; simp at hb'; subst hb'
  obtain ⟨u, hu, hru⟩ := run_loadVar_part (P := P) (w := w) (hL t ti ht) (b := b) (k := 0) hrl hv (fun j v hv => by
    rw [Nat.zero_add, cell_of_row w b j cur e (0, 0) hg]; simpa using hv)
  rw [Nat.zero_add] at hu
  exact Stp.quiet hr (v := u) (by simp [execOp, ho, Instr.loadAt, he, Instr.sureAddr, hu]) hru

theorem flatten_at {l : List (List C)} {sz : Nat} (hl : ∀ r ∈ l, r.length = sz) : ∀ {i : Nat} {r : List C}, l[i]? = some r → ∀ (j : Nat) c, r[j]? = some c → l.flatten[i * sz + j]? = some c := by
  induction l with
  | nil => intro i r h; simp at h
  | cons x xs ih =>
    intro i r h j c hj
    have hx : x.length = sz := hl x (by simp)
    cases i with
    | zero =>
      simp at h; subst h
      have : j < x.length := (List.getElem?_eq_some_iff.1 hj).1
      simp only [Nat.zero_mul, Nat.zero_add, List.flatten_cons]
      rw [List.getElem?_append_left this]; exact hj
    | succ i =>
      simp at h
      have h1 := ih (fun r hr => hl r (by simp [hr])) h j c hj
      simp only [List.flatten_cons]
      rw [List.getElem?_append_right (by rw [hx, Nat.succ_mul]; omega)]
      rw [hx]
      have : (i + 1) * sz + j - sz = i * sz + j := by rw [Nat.succ_mul]; omega
      rw [this]; exact h1

/-- The cells of a sealed row. -/
theorem row_cells {h : Hp} {b off sz : Nat} {l : List (List C)} {f : Nat → Value} (h2 : ∀ r ∈ l, r.length = sz)
    (h3 : ∀ k c, l.flatten[k]? = some c → h b (off + k) = some (f k)) (h4 : ∀ k c, l.flatten[k]? = some c → RC h (f k) c) {i : Nat} {r : List C} (hi : l[i]? = some r) :
    ∃ vs : List Value, vs.length = r.length ∧ (∀ (j : Nat) v, vs[j]? = some v → h b (off + i * sz + j) = some v) ∧ (∀ (j : Nat) v c, vs[j]? = some v → r[j]? = some c → RC h v c) := by
  refine ⟨(List.range r.length).map fun j => f (i * sz + j), by simp, fun j v hv => ?_, fun j v c hv hc => ?_⟩
  · simp only [List.getElem?_map, Option.map_eq_some_iff] at hv
    obtain ⟨k, hk, rfl⟩ := hv
    obtain ⟨hk1, hk2⟩ := List.getElem?_eq_some_iff.1 hk
    simp at hk2 hk1
    subst hk2
    have hc : r[j]? = some r[j] := by simp
    have := h3 _ _ (flatten_at h2 hi j _ hc)
    rw [← this, Nat.add_assoc]
  · simp only [List.getElem?_map, Option.map_eq_some_iff] at hv
    obtain ⟨k, hk, rfl⟩ := hv
    obtain ⟨hk1, hk2⟩ := List.getElem?_eq_some_iff.1 hk
    simp at hk2 hk1
    subst hk2
    exact h4 _ _ (flatten_at h2 hi j _ hc)

theorem stp_load_row (hL : LOk P L) (hr : Rel g st a w) {o : Oper} {t : TypeId} {x : Operand} (ho : o.op = .load t x) {ti : TI} (ht : get L t = some ti) {sz : Nat} {l : List (List C)} {i off : Nat}
    (hx : st.val L 0 x = some (.eptr sz l i off)) {r : List C} (hi : l[i]? = some r) {v : V} (hv : partA ti (r.map A.c) off = some v) :
    ∃ v' w' g' B, Stp P g st a w o { val := v } v' w' g' B := by
  have h1 := val_ok hr hx
  generalize hq : a.eval x = q at h1
  cases h1 with
  | eptr b off' _ _ _ _ f h1 h2 h3 h4 =>
    obtain ⟨vs, hl, hv1, hv2⟩ := row_cells h2 h3 h4 hi
    have hrl : RL g vs (r.map A.c) := ⟨by simpa using hl, fun j u c hu hc => by
      simp only [List.getElem?_map, Option.map_eq_some_iff] at hc
      obtain ⟨c', hc', rfl⟩ := hc
      exact .c _ _ (hv2 j u c' hu hc')⟩
    obtain ⟨u, hu, hru⟩ := run_loadVar_part (P := P) (w := w) (hL t ti ht) (b := b) (k := off' + i * sz) hrl hv (fun j v hv => hr.mem.shut _ _ _ (hv1 j v hv))
    exact Stp.quiet hr (v := u) (by simp [execOp, ho, Instr.loadAt, hq, Instr.sureAddr, hu]) hru

theorem stp_load_ref (hL : LOk P L) (hr : Rel g st a w) {o : Oper} {t : TypeId} {x : Operand} (ho : o.op = .load t x) {ti : TI} (ht : get L t = some ti) {l : List C}
    (hx : st.val L 0 x = some (.one (.c (.ref l)))) {v : V} (hv : partA ti (l.map A.c) 0 = some v) :
    ∃ v' w' g' B, Stp P g st a w o { val := v } v' w' g' B := by
  have h1 := val_ok hr hx
  generalize hq : a.eval x = q at h1
  cases h1 with
  | one _ _ h => cases h with
    | c _ _ h => cases h with
      | ref b _ f h1 h2 =>
        have hrl : RL g ((List.range l.length).map f) (l.map A.c) := ⟨by simp, fun j u c hu hc => by
          simp only [List.getElem?_map, Option.map_eq_some_iff] at hc hu
          obtain ⟨c', hc', rfl⟩ := hc
          obtain ⟨k, hk, rfl⟩ := hu
          obtain ⟨hk1, hk2⟩ := List.getElem?_eq_some_iff.1 hk
          simp at hk2 hk1
          subst hk2
          exact .c _ _ (h2 _ _ hc')⟩
        obtain ⟨u, hu, hru⟩ := run_loadVar_part (P := P) (w := w) (hL t ti ht) (b := b) (k := 0) hrl hv (fun j v hv => by
          simp only [List.getElem?_map, Option.map_eq_some_iff] at hv
          obtain ⟨k, hk, rfl⟩ := hv
          obtain ⟨hk1, hk2⟩ := List.getElem?_eq_some_iff.1 hk
          simp at hk2 hk1
          subst hk2
          have := h1 j l[j] (by simp)
          rw [Nat.zero_add]
          exact hr.mem.shut _ _ _ this)
        simp only [Nat.add_zero] at hu
        exact Stp.quiet hr (v := u) (by simp [execOp, ho, Instr.loadAt, hq, Instr.sureAddr, hu]) hru

theorem stp_store (hL : LOk P L) (hr : Rel g st a w) {o : Oper} {t : TypeId} {x y : Operand} (ho : o.op = .store t x y) {ti : TI} (ht : get L t = some ti) {p off : Nat}
    (hx : st.val L 0 x = some (.one (.ptr p off))) {v : V} (hy : st.val L t y = some v) {e : TypeId} {l cs : List A} (hp : get st.objs p = some (.var e l)) (hv : v.cells = some cs)
    (h1 : cs.length = ti.size) (h2 : off + ti.size ≤ l.length) :
    ∃ v' w' g' B, Stp P g st a w o { val := .any, upd := [(p, .var e (setSeg l off cs))], reads := [p] } v' w' g' B := by
  obtain ⟨b, hb, he⟩ := (val_ok hr hx).ptr_inv
  obtain ⟨b', cur, hb', hg, hrl, hk⟩ := hr.mem.obj p _ hp
  rw [hb] at hb'; simp at hb'; subst hb'
  have hcs := (val_ok hr hy).cells hv
  have hsz : (a.eval y).cells.size = ti.size := by have := hcs.1; simp at this; omega
  have hcl : cur.size = l.length := by simpa using hrl.1
  have hrun := run_storeVar_var (P := P) (w := w) (hL t ti ht) (off := off) (v := a.eval y) hg hsz (by omega) hcs.oneCell
  refine ⟨undef, _, g, _, .inr ⟨by simp [execOp, ho, Instr.storeAt, he, Instr.sureAddr, hrun], rfl⟩, .any _, Chg.store hr.mem hp hb hg hk (hrl.setSeg hcs off), fun b' h => ⟨p, _, hp, rfl, by rw [h]; exact hb⟩, fun j t' l' h => .inl ?_⟩
  obtain ⟨rfl, _⟩ := get_one h
  exact ⟨⟨e, l, hp⟩, rfl, rfl⟩

end
end Go.Abs
