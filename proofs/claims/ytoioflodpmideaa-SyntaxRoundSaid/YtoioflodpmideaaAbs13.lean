/- Every operation of the model does what the abstract machine says. -/
import Derived.Test.YtoioflodpmideaaAbs12
namespace Go.Abs

section
variable {P : Program} {L : Lay} {cx : Cx} {g : Gh} {st : St} {a : Act} {w : World}

/-- What an operation comes to, by the relation. -/
def OpTo (P : Program) (cx : Cx) (g : Gh) (st : St) (a : Act) (w : World) (o : Oper) (e : Eff) : Prop :=
  ∀ (K : Act → World → Prop) (Q : Exit → Act → World → Prop), (∀ v w' g', Beh cx g st e v g' w' → K (a.put o.dst v) w') → o.wp P a w K Q

theorem RA.data {v : Value} {b : A} (h : RA g v b) : RA g v b.data := by
  cases h with
  | c v x h => exact .c v x h
  | nil sz => exact .c _ _ (.empty _ _ _)
  | ptr o off b h => exact .ptr o off b h
  | ownNil sz o => exact .c _ _ (.empty _ _ _)
  | own o b n sz l f h1 h2 _ h3 h4 h5 h6 h7 => exact .c _ _ (RC.ofRows (by omega) h2 h5 h6 h7)
  | fn f fs cs first caps h1 h2 h3 h4 => exact .fn f fs cs first caps h1 h2 h3 h4
  | any v h => exact .any v h

theorem RV.data {v : Value} {b : V} (h : RV g v b) : RV g v b.data := by
  have agg : ∀ (cs : Array Value) (l : List A), cs.size = l.length → (∀ (i : Nat) v a, cs[i]? = some v → l[i]? = some a → RA g v a) → RV g (.agg cs) (.agg (l.map A.data)) := by
    intro cs l h1 h2
    refine .agg cs _ (by simpa using h1) fun i v a hv ha => ?_
    simp only [List.getElem?_map, Option.map_eq_some_iff] at ha
    obtain ⟨a', ha', rfl⟩ := ha
    exact (h2 i v a' hv ha').data
  cases h with
  | one v a h => exact .one v _ h.data
  | agg cs l h1 h2 => exact agg cs l h1 h2
  | tup vs l h1 h2 =>
    refine .tup vs _ (by simpa using h1) fun i v a hv ha => ?_
    simp only [List.getElem?_map, Option.map_eq_some_iff] at ha
    obtain ⟨a', ha', rfl⟩ := ha
    have h3 := h2 i v a' hv ha'
    cases h3 with
    | one v a h => exact .one v _ h.data
    | agg cs l h1 h2 => exact agg cs l h1 h2
    | tup vs l h1 h2 => exact .tup vs l h1 h2
    | eptr b off sz i o l f h1 h2 h3 h4 => exact .eptr b off sz i o l f h1 h2 h3 h4
    | sdat p l o b f h1 h2 h3 => exact .sdat p l o b f h1 h2 h3
    | any v => exact .any v
  | eptr b off sz i o l f h1 h2 h3 h4 => exact .eptr b off sz i o l f h1 h2 h3 h4
  | sdat p l o b f h1 h2 h3 => exact .sdat p l o b f h1 h2 h3
  | any v => exact .any v

theorem OpTo.data {o : Oper} {e : Eff} (h : OpTo P cx g st a w o e) : OpTo P cx g st a w o { e with val := e.val.data } :=
  fun K Q hK => h K Q fun v w' g' hb => hK v w' g' ⟨hb.le, hb.val.data, hb.mem, hb.fr, hb.μ⟩

theorem OpTo.ofStp {o : Oper} {e : Eff} (hr : Rel g st a w) (hf : Fr cx g st.objs w) (hk : cx.k ≤ st.next) (h : ∃ v w' g' B, Stp P g st a w o e v w' g' B) : OpTo P cx g st a w o e := by
  obtain ⟨v, w', g', B, hs⟩ := h
  intro K Q hK
  unfold Oper.wp
  rcases hs.run with h | ⟨h, rfl⟩ <;> rw [h]
  · rw [Oper.upon_value]; exact hK _ _ _ (hs.beh hr hf hk)
  · rw [Oper.upon_skip]; exact hK _ _ _ (hs.beh hr hf hk)

theorem valAll_ok (hr : Rel g st a w) : ∀ {l : List (TypeId × Operand)} {vs : List V}, valAll (fun t x => st.val L t x) l = some vs → vs.length = l.length ∧ ∀ (i : Nat) t x v, l[i]? = some (t, x) → vs[i]? = some v → RV g (a.eval x) v := by
  intro l
  induction l with
  | nil => intro vs h; simp only [valAll, Option.some.injEq] at h; subst h; simp
  | cons p r ih =>
    intro vs h
    obtain ⟨t, x⟩ := p
    simp only [valAll] at h
    split at h
    · rename_i v l hv hl
      simp only [Option.some.injEq] at h
      subst h
      obtain ⟨h1, h2⟩ := ih hl
      refine ⟨by simp [h1], fun i t' x' v' hp hv' => ?_⟩
      cases i with
      | zero => simp at hp hv'; obtain ⟨rfl, rfl⟩ := hp; subst hv'; exact val_ok hr hv
      | succ i => simp at hp hv'; exact h2 i t' x' v' (by simpa using hp) hv'
    · cases h

theorem oneAll_ok : ∀ {vs : List V} {as : List A}, oneAll vs = some as → vs = as.map V.one := by
  intro vs
  induction vs with
  | nil => intro as h; simp only [oneAll, Option.some.injEq] at h; subst h; rfl
  | cons v r ih =>
    intro as h
    cases v <;> simp only [oneAll, Option.map_eq_some_iff] at h <;> try (cases h; done)
    obtain ⟨l, hl, rfl⟩ := h
    simp [ih hl]

theorem freshOk_ok {base i : Nat} {e : Eff} (h : freshOk base i st e = true) {j : Nat} {x : O} (hj : (j, x) ∈ e.upd) : (base + 16 * i ≤ j ∧ j < base + 16 * i + 16 ∧ get st.objs j = none) ∨ j ∈ e.reads := by
  unfold freshOk at h
  rw [List.all_eq_true] at h
  have := h _ hj
  dsimp only at this
  cases hc : (Nat.ble (base + 16 * i) j && Nat.blt j (base + 16 * i + 16)) with
  | true =>
    rw [hc] at this
    simp only [Bool.and_eq_true] at hc
    exact .inl ⟨Nat.le_of_ble_eq_true hc.1, Nat.le_of_ble_eq_true hc.2, by simpa using this⟩
  | false =>
    rw [hc] at this
    exact .inr (memB_iff.1 this)

theorem freshOk_none {base i : Nat} {e : Eff} (h : freshOk base i st e = true) {x : O} (hj : (base + 16 * i, x) ∈ e.upd) : get st.objs (base + 16 * i) = none := by
  unfold freshOk at h
  rw [List.all_eq_true] at h
  have := h _ hj
  dsimp only at this
  have hc : (Nat.ble (base + 16 * i) (base + 16 * i) && Nat.blt (base + 16 * i) (base + 16 * i + 16)) = true := by
    simp [Nat.blt_eq]
  rw [hc] at this
  simpa using this

theorem map_some {α β : Type} {x : Option α} {f : α → β} {y : β} (h : x.map f = some y) : ∃ z, x = some z ∧ f z = y := Option.map_eq_some_iff.1 h

theorem zip_get {α β : Type} : ∀ {l : List α} {m : List β} {i : Nat} {y : β}, m[i]? = some y → l.length = m.length → ∃ x, (l.zip m)[i]? = some (x, y) := by
  intro l
  induction l with
  | nil => intro m i y h hl; cases m with | nil => simp at h | cons => simp at hl
  | cons x r ih =>
    intro m i y h hl
    cases m with
    | nil => simp at h
    | cons z m =>
      cases i with
      | zero => simp at h; subst h; exact ⟨x, rfl⟩
      | succ i => simp at h hl; simpa using ih h hl

theorem zip_one {α β : Type} {l : List α} {m : List β} {x : α} {y : β} (h : l.zip m = [(x, y)]) (hl : l.length = m.length) : l = [x] ∧ m = [y] := by
  match l, m, h, hl with
  | [a], [b], h, _ => simpa using h
  | a :: b :: l, c :: d :: m, h, _ => simp at h

theorem zip_two {α β : Type} {l : List α} {m : List β} {x x' : α} {y y' : β} (h : l.zip m = [(x, y), (x', y')]) (hl : l.length = m.length) : l = [x, x'] ∧ m = [y, y'] := by
  match l, m, h, hl with
  | [a, a'], [b, b'], h, _ => simp at h; simp [h]
  | [a], [b], h, _ => simp at h
  | a :: b :: c :: l, a' :: b' :: c' :: m, h, _ => simp at h

/-- An operation, but for calls of functions. -/
theorem opB_wp (hL : LOk P L) (hr : Rel g st a w) (hf : Fr cx g st.objs w) (hk : cx.k ≤ st.next) {i base : Nat} (hb : st.next ≤ base) {orc : Option Orc} {o : Oper} {e : Eff} {ps : List Prop}
    (hx : opB (Has P) L (base + 16 * i) orc st o = some (e, ps)) (hp : AllP ps) (hok : freshOk base i st e = true) : OpTo P cx g st a w o e := by
  have hle : st.next ≤ base + 16 * i := by omega
  have S := fun h => OpTo.ofStp (P := P) (cx := cx) (o := o) (e := e) hr hf hk h
  cases hop : o.op with
  | move x =>
    simp only [opB, hop] at hx
    obtain ⟨v, h1, h2⟩ := map_some hx
    simp only [Prod.mk.injEq] at h2; obtain ⟨rfl, rfl⟩ := h2
    exact S (stp_move hr (.inl hop) h1)
  | assign x =>
    simp only [opB, hop] at hx
    obtain ⟨v, h1, h2⟩ := map_some hx
    simp only [Prod.mk.injEq] at h2; obtain ⟨rfl, rfl⟩ := h2
    exact S (stp_move hr (.inr hop) h1)
  | pick c x y =>
    simp only [opB, hop] at hx
    split at hx
    · rename_i t hc
      obtain ⟨v, h1, h2⟩ := map_some hx
      simp only [Prod.mk.injEq] at h2; obtain ⟨rfl, rfl⟩ := h2
      exact S (stp_pick hr hop hc h1)
    · cases hx
  | alloc t =>
    simp only [opB, hop] at hx
    split at hx
    · rename_i ti ht
      simp only [Option.some.injEq, Prod.mk.injEq] at hx; obtain ⟨rfl, rfl⟩ := hx
      exact S (stp_alloc hL hr hop ht (freshOk_none hok (List.mem_cons_self ..)) hle)
    · cases hx
  | box t x =>
    simp only [opB, hop] at hx
    split at hx
    · rename_i v hv
      split at hx
      · rename_i cs hcs
        simp only [Option.some.injEq, Prod.mk.injEq] at hx; obtain ⟨rfl, rfl⟩ := hx
        exact S (stp_box hr hop hv hcs (freshOk_none hok (List.mem_cons_self ..)) hle)
      · cases hx
    · cases hx
  | build t parts =>
    simp only [opB, hop] at hx
    split at hx
    · rename_i ti ht
      split at hx
      · rename_i fs hd
        split at hx
        · rename_i pl ps' hpl hps
          split at hx
          · rename_i cs hcs
            simp only [Option.some.injEq, Prod.mk.injEq] at hx; obtain ⟨rfl, rfl⟩ := hx
            exact S (stp_build hL hr hop ht hd hpl (fun _ _ _ h => val_ok hr h) hps hcs)
          · cases hx
        · cases hx
      · rename_i n e' hd
        split at hx
        · rename_i te ps' hte hps
          split at hx
          · rename_i cs hcs
            simp only [Option.some.injEq, Prod.mk.injEq] at hx; obtain ⟨rfl, rfl⟩ := hx
            exact S (stp_buildArr hL hr hop ht hd hte (fun _ _ _ h => val_ok hr h) hps hcs)
          · cases hx
        · cases hx
      · cases hx
    · cases hx
  | buildSlice t len parts =>
    simp only [opB, hop] at hx
    split at hx
    · rename_i e' te he
      split at hx
      · rename_i ps' hps
        split at hx
        · rename_i cs hcs
          split at hx
          · rename_i xs hxs
            split at hx
            · rename_i l hl
              split at hx
              · rename_i hc
                simp only [Option.some.injEq, Prod.mk.injEq] at hx; obtain ⟨rfl, rfl⟩ := hx
                exact S (stp_buildSlice hL hr hop he (fun _ _ _ h => val_ok hr h) hps hcs hxs hl hc.1 hc.2.1 hc.2.2 (freshOk_none hok (List.mem_cons_self ..)) hle)
              · cases hx
            · cases hx
          · cases hx
        · cases hx
      · cases hx
    · cases hx
  | load t x =>
    simp only [opB, hop] at hx
    split at hx
    · rename_i p off ti hv ht
      split at hx
      · rename_i l hp'
        obtain ⟨v, h1, h2⟩ := map_some hx
        simp only [Prod.mk.injEq] at h2; obtain ⟨rfl, rfl⟩ := h2
        exact S (stp_load hL hr hop ht hv hp' h1)
      · cases hx
    · rename_i sz l i' off ti hv ht
      split at hx
      · rename_i r
        split at hx
        · obtain ⟨v, h1, h2⟩ := map_some hx
          simp only [Prod.mk.injEq] at h2; obtain ⟨rfl, rfl⟩ := h2
          exact S (stp_load_row hL hr hop ht hv hp.1 h1)
        · cases hx
      · cases hx
    · rename_i l ti hv ht
      obtain ⟨v, h1, h2⟩ := map_some hx
      simp only [Prod.mk.injEq] at h2; obtain ⟨rfl, rfl⟩ := h2
      exact S (stp_load_ref hL hr hop ht hv h1)
    · cases hx
  | store t x y =>
    simp only [opB, hop] at hx
    split at hx
    · rename_i p off ti v hv ht hy
      split at hx
      · rename_i l cs hp' hcs
        split at hx
        · rename_i hc
          simp only [Option.some.injEq, Prod.mk.injEq] at hx; obtain ⟨rfl, rfl⟩ := hx
          exact S (stp_store hL hr hop ht hv hy hp' hcs hc.1 hc.2)
        · cases hx
      · cases hx
    · cases hx
  | nilCheck x =>
    simp only [opB, hop] at hx
    split at hx
    · rename_i p off hv
      simp only [Option.some.injEq, Prod.mk.injEq] at hx; obtain ⟨rfl, rfl⟩ := hx
      exact S (stp_nilCheck hr hop hv (.inl ⟨p, off, rfl⟩))
    · rename_i l hv
      simp only [Option.some.injEq, Prod.mk.injEq] at hx; obtain ⟨rfl, rfl⟩ := hx
      exact S (stp_nilCheck hr hop hv (.inr (.inl ⟨l, rfl⟩)))
    · rename_i sz l i' off hv
      simp only [Option.some.injEq, Prod.mk.injEq] at hx; obtain ⟨rfl, rfl⟩ := hx
      exact S (stp_nilCheck hr hop hv (.inr (.inr (.inl ⟨sz, l, i', off, rfl⟩))))
    · rename_i f b c hv
      simp only [Option.some.injEq, Prod.mk.injEq] at hx; obtain ⟨rfl, rfl⟩ := hx
      exact S (stp_nilCheck hr hop hv (.inr (.inr (.inr ⟨f, b, c, rfl⟩))))
    · cases hx
  | binOp op t x y yt =>
    simp only [opB, hop] at hx
    split at hx
    · rename_i v u hv hu
      split at hx
      · rename_i r p hb'
        simp only [Option.some.injEq, Prod.mk.injEq] at hx; obtain ⟨rfl, rfl⟩ := hx
        exact S (stp_binOp hL hr hop hv hu hb' (owesB_ok hb' hp))
      · cases hx
    · cases hx
  | unOp op t x =>
    simp only [opB, hop] at hx
    split at hx
    · rename_i b hv
      simp only [Option.some.injEq, Prod.mk.injEq] at hx; obtain ⟨rfl, rfl⟩ := hx
      exact S (stp_not hr hop hv)
    · rename_i k n hv
      simp only [Option.some.injEq, Prod.mk.injEq] at hx; obtain ⟨rfl, rfl⟩ := hx
      exact S (stp_neg hr hop hv)
    · cases hx
  | convert src dst x =>
    simp only [opB, hop] at hx
    split at hx
    · rename_i ts td v hs hd hv
      split at hx
      · rename_i k k' n hk'
        simp only [Option.some.injEq, Prod.mk.injEq] at hx; obtain ⟨rfl, rfl⟩ := hx
        exact S (stp_convInt hL hr hop hs hd (by assumption) hv)
      · simp only [Option.some.injEq, Prod.mk.injEq] at hx; obtain ⟨rfl, rfl⟩ := hx
        exact S (stp_convStr hL hr hop hs hd (by assumption) (by assumption) hv)
      · cases hx
    · cases hx
  | makeFunc fn first caps =>
    cases fn with
    | func f =>
      simp only [opB, hop] at hx
      split at hx
      · rename_i fs cs hfs hcs
        split at hx
        · rename_i fa ca hfa hca
          simp only [Option.some.injEq, Prod.mk.injEq] at hx; obtain ⟨rfl, rfl⟩ := hx
          obtain ⟨q1, q2⟩ := valAll_ok hr hfs
          obtain ⟨q3, q4⟩ := valAll_ok hr hcs
          have q5 := oneAll_ok hfa
          have q6 := oneAll_ok hca
          subst q5; subst q6
          refine S (stp_makeFunc hr hop (fun i x hx => ?_) (by simpa using q1.symm) (fun i x hx => ?_) (by simpa using q3.symm))
          · have hi : i < fa.length := by have := (Array.getElem?_eq_some_iff.1 hx).1; simp at q1; omega
            exact ⟨fa[i], by simp, q2 i 0 x _ (by simp [hx]) (by simp [hi])⟩
          · have hi : i < ca.length := by have := (Array.getElem?_eq_some_iff.1 hx).1; simp at q3; omega
            exact ⟨ca[i], by simp, q4 i 0 x _ (by simp [hx]) (by simp [hi])⟩
        · cases hx
      · cases hx
    | _ => simp [opB, hop] at hx
  | slice t x lo hi mx =>
    cases mx with
    | some m => simp [opB, hop] at hx
    | none =>
      simp only [opB, hop] at hx
      split at hx
      · rename_i s ti hv ht
        split at hx
        · rename_i hd
          split at hx
          · rename_i l h hl hh
            simp only [Option.some.injEq, Prod.mk.injEq] at hx; obtain ⟨rfl, rfl⟩ := hx
            exact S (stp_slice hL hr hop ht hd hv hl hh hp.1)
          · cases hx
        · cases hx
      · cases hx
  | fieldAddr s x f =>
    simp only [opB, hop] at hx
    split at hx
    · rename_i ti hs
      split at hx
      · rename_i fs hd
        split at hx
        · rename_i fd hfd
          split at hx
          · rename_i tf htf
            split at hx
            · cases hx
            · rename_i hz
              split at hx
              · rename_i p off hv
                simp only [Option.some.injEq, Prod.mk.injEq] at hx; obtain ⟨rfl, rfl⟩ := hx
                exact S (stp_fieldAddr hL hr hop hs hd hfd htf hz (.inl ⟨p, off, hv, rfl⟩))
              · rename_i sz l i' off hv
                simp only [Option.some.injEq, Prod.mk.injEq] at hx; obtain ⟨rfl, rfl⟩ := hx
                exact S (stp_fieldAddr hL hr hop hs hd hfd htf hz (.inr ⟨sz, l, i', off, hv, rfl⟩))
              · cases hx
          · cases hx
        · cases hx
      · cases hx
    · cases hx
  | field t x f =>
    simp only [opB, hop] at hx
    split at hx
    · rename_i ti hs
      split at hx
      · rename_i fs hd
        split at hx
        · rename_i fd hfd
          split at hx
          · rename_i tf l htf hv
            obtain ⟨v, h1, h2⟩ := map_some hx
            simp only [Prod.mk.injEq] at h2; obtain ⟨rfl, rfl⟩ := h2
            exact S (stp_field hL hr hop hs hd hfd htf hv h1)
          · cases hx
        · cases hx
      · cases hx
    · cases hx
  | indexAddr t x ix =>
    simp only [opB, hop] at hx
    split at hx
    · rename_i n hi
      split at hx
      · rename_i e' te he
        split at hx
        · rename_i b hv
          split at hx
          · rename_i sz l hrow
            split at hx
            · rename_i hsz
              simp only [Option.some.injEq, Prod.mk.injEq] at hx; obtain ⟨rfl, rfl⟩ := hx
              subst hsz
              exact S (stp_indexAddr hL hr hop hi he hv hrow hp.1)
            · cases hx
          · cases hx
        · cases hx
      · cases hx
    · cases hx
  | index t x ix =>
    simp only [opB, hop] at hx
    split at hx
    · rename_i k n s ti hi hv ht
      split at hx
      · rename_i hd
        simp only [Option.some.injEq, Prod.mk.injEq] at hx; obtain ⟨rfl, rfl⟩ := hx
        exact S (stp_index hL hr hop ht hd hi hv hp.1)
      · cases hx
    · rename_i k n l ti hi hv ht
      split at hx
      · rename_i len e' hd
        split at hx
        · rename_i te hte
          obtain ⟨v, h1, h2⟩ := map_some hx
          simp only [Prod.mk.injEq] at h2; obtain ⟨rfl, rfl⟩ := h2
          exact S (stp_indexArr hL hr hop hi ht hd hte hv h1 hp.1)
        · cases hx
      · cases hx
    · cases hx
  | extract x i' =>
    simp only [opB, hop] at hx
    split at hx
    · rename_i l hv
      obtain ⟨v, h1, h2⟩ := map_some hx
      simp only [Prod.mk.injEq] at h2; obtain ⟨rfl, rfl⟩ := h2
      exact S (stp_extract hr hop hv h1)
    · cases hx
  | call c =>
    obtain ⟨callee, args, ats⟩ := c
    simp only [opB, hop] at hx
    split at hx
    · rename_i b
      obtain ⟨args⟩ := args
      obtain ⟨ats⟩ := ats
      dsimp only at hx
      split at hx
      rotate_left
      · cases hx
      rename_i hsz
      unfold builtinA at hx
      split at hx
      · rename_i t x hz
        obtain ⟨rfl, rfl⟩ := zip_one hz (by simpa using hsz.symm)
        split at hx
        · rename_i s ti hv ht
          split at hx
          · rename_i hd
            simp only [Option.some.injEq, Prod.mk.injEq] at hx; obtain ⟨rfl, rfl⟩ := hx
            exact S (stp_len hL hr hop ht (.inl ⟨hd, s, hv, rfl⟩))
          · cases hx
        · rename_i q ti _ hv ht
          split at hx
          · rename_i e' sz l hd hrow
            simp only [Option.some.injEq, Prod.mk.injEq] at hx; obtain ⟨rfl, rfl⟩ := hx
            exact S (stp_len hL hr hop ht (.inr ⟨⟨e', hd⟩, q, sz, l, hv, hrow, rfl⟩))
          · cases hx
        · cases hx
      · rename_i t s t' x hz
        obtain ⟨rfl, rfl⟩ := zip_two hz (by simpa using hsz.symm)
        split at hx
        rotate_left
        · cases hx
        rename_i htt
        subst htt
        split at hx
        rotate_left
        · cases hx
        rename_i p q e' te hs hq he
        split at hx
        rotate_left
        · cases hx
        rename_i sz l tok sz' m hg hrow
        split at hx
        rotate_left
        · cases hx
        rename_i hc
        simp only [Option.some.injEq, Prod.mk.injEq] at hx; obtain ⟨rfl, rfl⟩ := hx
        obtain ⟨rfl, rfl, h0, htk⟩ := hc
        refine S (stp_append hL hr hop he hs hq hg hrow h0 (fun i' hi => ?_) hp.1 hp.2.1 (freshOk_none hok (List.mem_cons_self ..)) hle)
        subst hi
        simp only [tokOk] at htk
        split at htk
        · rename_i e1 sz1 hg1
          simp only [Bool.and_eq_true] at htk
          rw [hg1, Nat.eq_of_beq_eq_true htk.1, Nat.eq_of_beq_eq_true htk.2]
        · cases htk
      · rename_i t x t' y hz
        obtain ⟨rfl, rfl⟩ := zip_two hz (by simpa using hsz.symm)
        split at hx
        · rename_i k m k' n hm hn
          split at hx
          · rename_i hk'
            subst hk'
            simp only [Option.some.injEq, Prod.mk.injEq] at hx; obtain ⟨rfl, rfl⟩ := hx
            exact S (stp_min hr hop hm hn)
          · cases hx
        · cases hx
      · rename_i t x t' y hz
        obtain ⟨rfl, rfl⟩ := zip_two hz (by simpa using hsz.symm)
        split at hx
        · rename_i k m k' n hm hn
          split at hx
          · rename_i hk'
            subst hk'
            simp only [Option.some.injEq, Prod.mk.injEq] at hx; obtain ⟨rfl, rfl⟩ := hx
            exact S (stp_max hr hop hm hn)
          · cases hx
        · cases hx
      · cases hx
    · rename_i f
      split at hx
      · rename_i fid fs cs as hf' hargs
        split at hx
        · rename_i hsz
          obtain ⟨q1, q2⟩ := valAll_ok hr hargs
          have hfv := val_ok hr hf'
          intro K Q hK
          have hfun : ∃ (F1 C1 : Array Value), a.eval f = .func (.func fid) F1 C1 ∧ F1.size = fs.length ∧ C1.size = cs.length ∧ (∀ (i : Nat) v b, F1[i]? = some v → fs[i]? = some b → RA g v b) ∧ (∀ (i : Nat) v b, C1[i]? = some v → cs[i]? = some b → RA g v b) := by
            generalize a.eval f = q at hfv
            cases hfv with
            | one _ _ h => cases h with
              | fn _ F1 C1 _ _ h1 h2 h3 h4 => exact ⟨F1, C1, rfl, h1, h2, h3, h4⟩
          obtain ⟨F1, C1, he, hF1, hC1, hF2, hC2⟩ := hfun
          have hcalls := call_ok (P := P) (cx := cx) hr hf hk hle (vs := F1 ++ args.map a.eval ++ C1) (args := fs.map .one ++ as ++ cs.map .one)
            (by simp [hF1, hC1, q1, hsz]) (fun i v b hv hb => by
              have hal : as.length = args.size := by simp [q1, hsz]
              rw [List.getElem?_append] at hb
              rw [Array.getElem?_append] at hv
              simp only [Array.size_append, Array.size_map, List.length_append, List.length_map, hF1, hal] at hv hb
              split at hv
              · rename_i h1
                rw [if_pos h1] at hb
                rw [List.getElem?_append] at hb
                rw [Array.getElem?_append] at hv
                simp only [List.length_map, hF1] at hv hb
                split at hv
                · rename_i h2
                  rw [if_pos h2] at hb
                  simp only [List.getElem?_map, Option.map_eq_some_iff] at hb
                  obtain ⟨b', hb', rfl⟩ := hb
                  exact .one _ _ (hF2 i v b' hv hb')
                · rename_i h2
                  rw [if_neg h2] at hb
                  simp only [Array.getElem?_map, Option.map_eq_some_iff] at hv
                  obtain ⟨x, hx', rfl⟩ := hv
                  obtain ⟨t, ht⟩ := zip_get (l := ats.toList) (m := args.toList) (i := i - fs.length) (y := x) (by simpa using hx') (by simp [hsz])
                  exact q2 _ t x b ht hb
              · rename_i h1
                rw [if_neg h1] at hb
                simp only [List.getElem?_map, Option.map_eq_some_iff] at hb
                obtain ⟨b', hb', rfl⟩ := hb
                exact .one _ _ (hC2 _ v b' hv hb')) hx hp
          rcases hcalls with ⟨⟨fn, hfn, hbody, hname⟩, hcalls⟩ | ⟨v, w', hrun0, v', g', hv, hb'⟩
          rotate_left
          · cases hv
            have hrun : (execOp a.eval o).run P w = .ok (.value v) w' := by
              rw [Array.append_assoc] at hrun0
              simp [execOp, hop, resolve, he, Deferred.ofValue, invoke, hrun0]
            unfold Oper.wp
            rw [hrun, Oper.upon_value]
            exact hK v w' g' hb'
          have hrun : (execOp a.eval o).run P w = .ok (.enter fid (F1 ++ args.map a.eval ++ C1)) w := by
            have n1 : fn.name ≠ "runtime.NumGoroutine" := by simpa using hname
            have n2 : fn.body ≠ none := by intro e; rw [e] at hbody; simp at hbody
            simp [execOp, hop, resolve, he, Deferred.ofValue, invoke, callFunc, hfn, n1, n2]
          unfold Oper.wp
          rw [hrun, Oper.upon_enter]
          refine hcalls.mono ?_
          rintro x w' ⟨v, g', rfl, hb'⟩
          exact hK v w' g' hb'
        · cases hx
      · cases hx
    · cases hx
  | _ => simp [opB, hop] at hx

end
end Go.Abs
