/- Each operation of the model does what the abstract machine says: a slice that is made, append. -/
import Derived.Test.YtoioflodpmideaaAbs9
namespace Go.Abs

section
variable {P : Program} {L : Lay} {g : Gh} {st : St} {a : Act} {w : World}

theorem flatten_length {l : List (List C)} {sz : Nat} (h : ∀ r ∈ l, r.length = sz) : l.flatten.length = l.length * sz := by
  induction l with
  | nil => simp
  | cons x xs ih =>
    have := ih fun r hr => h r (by simp [hr])
    simp [this, h x (by simp), Nat.succ_mul, Nat.add_comm]

theorem Chg.ofDrew {objs upd : List (Nat × O)} {B : Nat → Prop} {g' : Gh} {w' : World} (h : Chg g objs w.drew upd B g' w') : Chg g objs w upd B g' w' :=
  ⟨h.os, h.tape, h.output, h.size, h.heap, h.le, h.μ, h.cap, h.other, h.hnew, h.obj, h.at_, h.sep, h.shut, h.blk⟩

theorem Rm.drew {objs : List (Nat × O)} (h : Rm g objs w) : Rm g objs w.drew := ⟨h.obj, h.sep, h.shut, h.blk⟩

theorem Chg.addDead {objs upd : List (Nat × O)} {B : Nat → Prop} {g' : Gh} {w' : World} (hc : Chg g objs w upd B g' w') (hm : Rm g objs w) {o : Nat} :
    Chg g objs w (upd ++ [(o, .dead)]) B g' w' where
  os := hc.os
  tape := hc.tape
  output := hc.output
  size := hc.size
  heap := hc.heap
  le := hc.le
  μ p h := by
    rw [get_append] at h
    cases hu : get upd p with
    | some x => rw [hu] at h; cases h
    | none => exact hc.μ p hu
  cap p h := by
    rw [get_append] at h
    cases hu : get upd p with
    | some x => rw [hu] at h; cases h
    | none => exact hc.cap p hu
  other p ob b h hl hu hμ := by
    rw [get_append] at hu
    cases hu' : get upd p with
    | some x => rw [hu'] at hu; cases hu
    | none => exact hc.other p ob b h hl hu' hμ
  hnew := hc.hnew
  obj p ob h := by
    rw [get_append] at h
    cases hu : get upd p with
    | some x => rw [hu] at h; simp at h; subst h; exact hc.obj p _ hu
    | none =>
      rw [hu] at h
      obtain ⟨_, rfl⟩ := get_one h
      trivial
  at_ p ob b h hl hμ := by
    rw [get_append] at h
    cases hu : get upd p with
    | some x => rw [hu] at h; simp at h; subst h; exact hc.at_ p _ b hu hl hμ
    | none =>
      rw [hu] at h
      obtain ⟨_, rfl⟩ := get_one h
      simp [O.live] at hl
  sep p p' ob ob' b h h' hl hl' := by
    rw [get_append] at h h'
    cases hu : get upd p with
    | none =>
      rw [hu] at h
      obtain ⟨_, rfl⟩ := get_one h
      simp [O.live] at hl
    | some x =>
      rw [hu] at h; simp at h; subst h
      cases hu' : get upd p' with
      | none =>
        rw [hu'] at h'
        obtain ⟨_, rfl⟩ := get_one h'
        simp [O.live] at hl'
      | some y => rw [hu'] at h'; simp at h'; subst h'; exact hc.sep p p' _ _ b hu hu' hl hl'
  shut := hc.shut
  blk p b h hμ := by
    cases hu : get upd p with
    | some x => exact hc.blk p b (by rw [hu]; simp) hμ
    | none => rw [hc.μ p hu] at hμ; exact Nat.lt_of_lt_of_le (hm.blk p b hμ) hc.size

theorem stp_buildSlice (hL : LOk P L) (hr : Rel g st a w) {o : Oper} {t e : TypeId} {len : Nat} {parts : Array (Nat × Operand)} (ho : o.op = .buildSlice t len parts) {te : TI} (he : sliceElem L t = some (e, te))
    {f : Nat → Operand → Option V} (hf : ∀ i x v, f i x = some v → RV g (a.eval x) v) {ps : List (Nat × V)} (hps : mapParts f parts.toList = some ps)
    {cs : List A} (hcs : fillA (fun i => some (i * te.size, te.size)) (rep te.zs len) ps = some cs) {xs : List C} (hxs : toCs cs = some xs) {l : List (List C)} (hl : rowsOf te.size len xs = some l)
    (h0 : te.zs.length = te.size) (h1 : 0 < te.size) (h2 : len * te.size ≤ 16777216) {n : Nat} (hn : get st.objs n = none) (hle : st.next ≤ n) :
    ∃ v' w' g' B, Stp P g st a w o { val := .one (.own te.size l n), upd := [(n, .row e te.size)] } v' w' g' B := by
  unfold sliceElem at he
  split at he
  · rename_i ti hti
    split at he
    · rename_i e' hd
      cases hte : get L e' with
      | none => simp [hte] at he
      | some te' =>
        simp [hte] at he
        obtain ⟨rfl, rfl⟩ := he
        have hT := hL _ _ hte
        have h3 := (hL t ti hti).run_under (w := w)
        rw [hd] at h3
        have h4 := hT.run_sizeOf (w := w)
        have hz := hT.zero g
        have hzl : te'.zero.cells.size = te'.size := hT.len
        have hrep : RL g ((Array.range (len * te'.size)).map (te'.zero.cells[· % te'.zero.cells.size]!)).toList (rep te'.zs len) := by
          have := rep_ok hz (by simp; omega) len
          simp only [Array.length_toList, hzl, Array.getElem!_toList] at this
          rw [hzl]
          simpa only [Array.toList_map, Array.toList_range] using this
        obtain ⟨cells', h5, h6⟩ := fill_ok (fun i => some (i * te'.size, te'.size)) _ _ _ _ _ (RP_of hf _ _ hps) hrep hcs
        obtain ⟨h7, h8⟩ := toCs_ok h6 hxs
        obtain ⟨h9, h10, h11⟩ := rowsOf_ok hl
        have hμ := hr.fresh n hle hn
        have hsz : cells'.size = len * te'.size := by
          have := flatten_length h11
          rw [h10, h9] at this
          have h7' : cells'.size = xs.length := by simpa using h7
          omega
        have hblk : ∀ k, g.h w.heap.size k = none := fun k => by
          cases hk : g.h w.heap.size k with
          | none => rfl
          | some v => have := World.block_lt_of_cell? w _ (hr.mem.shut _ _ _ hk); simp at this
        let h' : Hp := fun b k => if b = w.heap.size then cells'[k]? else g.h b k
        have hle' : ∀ b k v, g.h b k = some v → h' b k = some v := by
          intro b k v h
          by_cases e : b = w.heap.size
          · subst e; rw [hblk k] at h; cases h
          · simp [h', e, h]
        have hmax : len ≤ maxLen := by
          have : len * 1 ≤ len * te'.size := Nat.mul_le_mul_left _ h1
          simp only [maxLen]; omega
        have hrun : (Instr.buildSlice t len (parts.map fun x => (x.1, a.eval x.2))).run P w = .ok (.slice (some ⟨w.heap.size, 0, none⟩) len len) (w.alloc (.cells cells' e')) := by
          have hq : (parts.map fun x => (x.1, a.eval x.2)).toList = parts.toList.map fun x => (x.1, a.eval x.2) := by simp
          have hbig : ¬ (len * te'.size > 16777216) := by omega
          unfold Instr.buildSlice
          simp only [Sem.run_bind, h3, Result.andThen_ok, h4]
          by_cases hlen : len * te'.size = 0
          · have : len = 0 := by
              rcases Nat.mul_eq_zero.1 hlen with h | h
              · exact h
              · omega
            subst this
            have e0 : ∀ z : Array Value, (Array.range (0 * te'.size)).map (fun x => z[x % z.size]!) = #[] := by intro z; simp
            rw [e0] at h5
            have e1 : Array.range 0 = #[] := rfl
            simp [e1, h5, newRow]
          · simp [hlen, hT.run_zero, h5, newRow, hbig]
        have hc := Chg.new hr.mem (ob := .row e' te'.size) hμ hn (X := .cells cells' e') (cap := (len, len)) (f := h')
          (fun k v h => by
            simp only [h', if_true] at h
            have hg := heap_alloc_new w (.cells cells' e')
            rw [cell_of_row _ _ _ _ _ _ hg]; exact h)
          (fun b k hb => by simp [h', hb])
          (by
            intro b hb
            simp at hb; subst hb
            refine ⟨cells', heap_alloc_new w _, by simp [hsz], fun k hk => ?_⟩
            simp only [h', if_true] at hk ⊢
            rw [Array.getElem?_eq_none]; omega)
        refine ⟨.slice (some ⟨w.heap.size, 0, none⟩) len len, _, _, _, .inl ?_, ?_, hc, fun _ h => h.elim, fun j t l h => ?_⟩
        · simp [execOp, ho, hrun]
        · have := RA.own (g := ⟨fun i => if i = n then some w.heap.size else g.μ i, fun i => if i = n then (len, len) else g.cap i, h'⟩) n w.heap.size len te'.size l (fun k => cells'[k]!) (by simp) h9.symm (by simp) (by simp) (by simpa using hmax) h11
            (fun k c hk => by
              simp only [h', if_true]
              rw [h10] at hk
              have : k < cells'.size := by
                have := (List.getElem?_eq_some_iff.1 hk).1
                have h7' : cells'.size = xs.length := by simpa using h7
                omega
              simp [this])
            (fun k c hk => by
              rw [h10] at hk
              have : k < cells'.size := by
                have := (List.getElem?_eq_some_iff.1 hk).1
                have h7' : cells'.size = xs.length := by simpa using h7
                omega
              refine (h8 k _ c ?_ hk).mono hle'
              simp [this])
          simp only [if_true] at this
          exact .one _ _ this
        · exact absurd (get_one h).2 (by simp)
    · cases he
  · cases he

/-- What is appended. -/
theorem rows_src (hm : Rm g st.objs w) {v : Value} {x : A} {sz : Nat} {m : List (List C)} (h : RA g v x) (hx : x.rows? = some (sz, m)) :
    ∃ (ad : Option Addr) (cap : Nat) (news : List Value), v = .slice ad m.length cap ∧ (ad = none → m = []) ∧ news.length = m.length * sz ∧ (∀ q, ad = some q → ∀ (j : Nat) u, news[j]? = some u → w.cell? (q.add j) = some u) ∧
      (∀ u ∈ news, u.oneCell' = true) ∧ (∀ r ∈ m, r.length = sz) ∧ (∀ (k : Nat) c u, m.flatten[k]? = some c → news[k]? = some u → RC g.h u c) := by
  have sealed : ∀ (b off n cap : Nat) (l : List (List C)) (f : Nat → Value), n = l.length → (∀ r ∈ l, r.length = sz) → (∀ (k : Nat) c, l.flatten[k]? = some c → g.h b (off + k) = some (f k)) → (∀ (k : Nat) c, l.flatten[k]? = some c → RC g.h (f k) c) →
      ∃ (ad : Option Addr) (cap' : Nat) (news : List Value), Value.slice (some ⟨b, off, none⟩) n cap = .slice ad l.length cap' ∧ (ad = none → l = []) ∧ news.length = l.length * sz ∧ (∀ q, ad = some q → ∀ (j : Nat) u, news[j]? = some u → w.cell? (q.add j) = some u) ∧
      (∀ u ∈ news, u.oneCell' = true) ∧ (∀ r ∈ l, r.length = sz) ∧ (∀ (k : Nat) c u, l.flatten[k]? = some c → news[k]? = some u → RC g.h u c) := by
    intro b off n cap l f h1 h2 h3 h4
    have hfl := flatten_length h2
    have hget : ∀ (k : Nat) u, ((List.range l.flatten.length).map f)[k]? = some u → k < l.flatten.length ∧ u = f k := by
      intro k u hu
      simp only [List.getElem?_map, Option.map_eq_some_iff] at hu
      obtain ⟨i, hi, rfl⟩ := hu
      obtain ⟨q1, q2⟩ := List.getElem?_eq_some_iff.1 hi
      simp at q1 q2; subst q2
      exact ⟨by simpa using q1, rfl⟩
    refine ⟨some ⟨b, off, none⟩, cap, (List.range l.flatten.length).map f, by rw [h1], by simp, by simpa using hfl, fun q hq j u hu => ?_, fun u hu => ?_, h2, fun k c u hc hu => ?_⟩
    · simp at hq; subst hq
      obtain ⟨q1, rfl⟩ := hget j u hu
      rw [Addr.add_lit]
      exact hm.shut _ _ _ (h3 j _ (List.getElem?_eq_getElem q1))
    · obtain ⟨k, hk, rfl⟩ := List.mem_iff_getElem.1 hu
      simp at hk
      simp only [List.getElem_map, List.getElem_range]
      exact (h4 k _ (List.getElem?_eq_getElem (by simpa using hk))).oneCell
    · obtain ⟨_, rfl⟩ := hget k u hu
      exact h4 k c hc
  cases h with
  | c _ _ h => cases h with
    | lit => simp [A.rows?] at hx
    | str => simp [A.rows?] at hx
    | ref => simp [A.rows?] at hx
    | empty a' cap => simp [A.rows?] at hx; obtain ⟨rfl, rfl⟩ := hx; exact ⟨a', cap, [], by simp, by simp, by simp, by simp, by simp, by simp, by simp⟩
    | sl b off n cap sz' l' f _ h1 h2 h3 h4 => simp [A.rows?] at hx; obtain ⟨rfl, rfl⟩ := hx; exact sealed b off n cap _ f h1 h2 h3 h4
  | nil => simp [A.rows?] at hx; obtain ⟨rfl, rfl⟩ := hx; exact ⟨none, 0, [], by simp, by simp, by simp, by simp, by simp, by simp, by simp⟩
  | ptr => simp [A.rows?] at hx
  | ownNil => simp [A.rows?] at hx; obtain ⟨rfl, rfl⟩ := hx; exact ⟨none, 0, [], by simp, by simp, by simp, by simp, by simp, by simp, by simp⟩
  | own o b n sz' l' f h0 h1 _ h2 h3 h4 h5 h6 => simp [A.rows?] at hx; obtain ⟨rfl, rfl⟩ := hx; exact sealed b 0 n _ _ f h1 h4 (fun k c hk => by rw [Nat.zero_add]; exact h5 k c hk) h6
  | fn => simp [A.rows?] at hx
  | any => simp [A.rows?] at hx

/-- What is appended to. -/
theorem grows_inv {v : Value} {x : A} {sz : Nat} {l : List (List C)} {tok : Option Nat} (h : RA g v x) (hx : x.grows? = some (sz, l, tok)) :
    (v = .slice none 0 0 ∧ l = []) ∨ ∃ (o b : Nat) (f : Nat → Value), tok = some o ∧ g.μ o = some b ∧ v = .slice (some ⟨b, 0, none⟩) l.length (g.cap o).1 ∧ l.length ≤ (g.cap o).1 ∧ (g.cap o).1 ≤ maxLen ∧ l.length = (g.cap o).2 ∧ (∀ r ∈ l, r.length = sz) ∧
      (∀ (k : Nat) c, l.flatten[k]? = some c → g.h b k = some (f k)) ∧ ∀ (k : Nat) c, l.flatten[k]? = some c → RC g.h (f k) c := by
  cases h with
  | c => simp [A.grows?] at hx
  | nil => simp [A.grows?] at hx; exact .inl ⟨rfl, hx.2.1⟩
  | ptr => simp [A.grows?] at hx
  | ownNil => simp [A.grows?] at hx; exact .inl ⟨rfl, hx.2.1⟩
  | own o b n sz' l' f h0 h1 h20 h2 h3 h4 h5 h6 =>
    simp [A.grows?] at hx; obtain ⟨rfl, rfl, rfl⟩ := hx
    subst h1
    exact .inr ⟨o, b, f, rfl, h0, rfl, h2, h3, h20, h4, h5, h6⟩
  | fn => simp [A.grows?] at hx
  | any => simp [A.grows?] at hx

end
end Go.Abs
