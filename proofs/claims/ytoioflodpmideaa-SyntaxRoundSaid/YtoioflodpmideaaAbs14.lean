/- A region, in the order of its text; other words for a state. -/
import Derived.Test.YtoioflodpmideaaAbs13b
namespace Go.Abs

theorem AllP.append : ∀ {l m : List Prop}, AllP (l ++ m) ↔ AllP l ∧ AllP m := by
  intro l
  induction l with
  | nil => intro m; simp [AllP]
  | cons p r ih => intro m; simp [AllP, ih, and_assoc]

section
variable {P : Program} {L : Lay} {cx : Cx} {g : Gh} {st : St} {a : Act} {w : World}

theorem get_cons {α : Type} (j : Nat) (x : α) (l : List (Nat × α)) (i : Nat) : get ((j, x) :: l) i = if j = i then some x else get l i := by
  simp only [get]
  by_cases h : j = i
  · subst h; simp
  · rw [if_neg h]
    cases hb : Nat.beq j i with
    | true => exact absurd (Nat.eq_of_beq_eq_true hb) h
    | false => rfl

theorem In.put (h : In cx g st a w) {o : Oper} {e : Eff} {v : Value} {g' : Gh} {w' : World} (hb : Beh cx g st e v g' w') (hd : dstOk st o.dst = true) : In cx g' (st.put o.dst e) (a.put o.dst v) w' where
  fr := hb.fr
  k := h.k
  le := h.le
  rel := {
    slot := by
      intro i x hi
      unfold St.put at hi
      cases hdst : o.dst with
      | none =>
        rw [hdst] at hi
        obtain ⟨h1, h2⟩ := h.rel.slot i x hi
        exact ⟨h1, h2.mono hb.le⟩
      | some d =>
        rw [hdst] at hi hd
        have hds : d < st.size := Nat.le_of_ble_eq_true hd
        rw [← h.rel.size] at hds
        rw [get_cons] at hi
        split at hi
        · rename_i e'
          subst e'
          simp at hi; subst hi
          refine ⟨by simp [Act.put, hds], ?_⟩
          simp only [Act.put]
          rw [Array.getD_eq_getD_getElem?, Array.getElem?_setIfInBounds]
          simp [hds]
          exact hb.val
        · rename_i hne
          obtain ⟨h1, h2⟩ := h.rel.slot i x hi
          refine ⟨by simp [Act.put, h1], ?_⟩
          simp only [Act.put]
          rw [Array.getD_eq_getD_getElem?, Array.getElem?_setIfInBounds, if_neg hne, ← Array.getD_eq_getD_getElem?]
          exact h2.mono hb.le
    mem := hb.mem
    fresh := by
      intro p hp hn
      have hn' : get (e.upd ++ st.objs) p = none := hn
      rw [get_append] at hn'
      cases hu : get e.upd p with
      | some x => rw [hu] at hn'; cases hn'
      | none => rw [hu] at hn'; rw [hb.μ p hu]; exact h.rel.fresh p hp hn'
    defers := by cases hdst : o.dst <;> simp [Act.put, h.rel.defers]
    size := by cases hdst : o.dst <;> simp [Act.put, h.rel.size, St.put] }

theorem Beh.nothing (h : In cx g st a w) : Beh cx g st { val := .tup [] } undef g w where
  le := .refl g
  val := .tup _ _ rfl fun i v a hv _ => by simp at hv
  mem := by simpa using h.rel.mem
  fr := by simpa using h.fr
  μ _ _ := rfl

theorem wanted_ok (h : In cx g st a w) {ops : Array Oper} {o : Oper} {b : Bool} (hw : wantedA st ops.toList o = some b) : Region.wanted o (yielded ops a.tmps) = b := by
  unfold wantedA at hw
  unfold Region.wanted
  split at hw
  · rename_i hg
    simp at hw; subst hw
    rw [hg]
  · rename_i j want hg
    rw [hg]
    split at hw
    · rename_i oj hj
      split at hw
      · rename_i d hd
        split at hw
        · rename_i q hq
          simp at hw; subst hw
          obtain ⟨h1, h2⟩ := h.rel.slot d _ hq
          have h3 := h2.lit_inv
          have hj' : ops[j]? = some oj := by simpa using hj
          have h4 : a.tmps[d]? = some (.bool q) := by
            rw [Array.getD_eq_getD_getElem?] at h3
            rw [Array.getElem?_eq_getElem h1] at h3 ⊢
            simpa using h3
          simp [yielded, hj', hd, h4]
        · rename_i q hq
          simp at hw; subst hw
          obtain ⟨h1, h2⟩ := h.rel.slot d _ hq
          have hj' : ops[j]? = some oj := by simpa using hj
          cases h2' : a.tmps.getD d undef with
          | tuple vs =>
            have h4 : a.tmps[d]? = some (.tuple vs) := by
              rw [Array.getD_eq_getD_getElem?] at h2'
              rw [Array.getElem?_eq_getElem h1] at h2' ⊢
              simpa using h2'
            simp [yielded, hj', hd, h4]
          | _ => rw [h2'] at h2; cases h2
        · cases hw
      · cases hw
    · cases hw

/-- One operation of a region. -/
theorem step_wp (hL : LOk P L) (h : In cx g st a w) {i base : Nat} (hb : st.next ≤ base) {tbl : List (Nat × Orc)} {reps : List (Nat × V)} {ops : Array Oper} {o : Oper} (ho : ops[i]? = some o) {e : Eff} {ps : List Prop}
    (hx : stepA (Has P) L base tbl reps ops.toList i o st = some (e, ps)) (hp : AllP ps) (hok : freshOk base i st e = true) (hd : dstOk st o.dst = true) {K : Act → World → Prop} {Q : Exit → Act → World → Prop}
    (hK : ∀ g' a' w', In cx g' (st.put o.dst e) a' w' → K a' w') : wpOp P ops Q i K a w := by
  unfold wpOp
  rw [ho]
  dsimp only
  unfold stepA at hx
  split at hx
  · rename_i hw
    rw [wanted_ok h hw]
    simp only [if_true]
    refine .inl ?_
    split at hx
    · rename_i e' p hop
      have key : OpTo P cx g st a w o e := by
        split at hx
        · rename_i v hv
          simp only [Option.some.injEq, Prod.mk.injEq] at hx; obtain ⟨rfl, rfl⟩ := hx
          obtain ⟨h1, h2⟩ := hp
          have he : ({ e' with val := v } : Eff) = e' := by rw [← h1]
          rw [he] at hok ⊢
          exact op_wp hL h.rel h.fr (by rw [h.k]; exact h.le) hb hop h2 hok
        · simp only [Option.some.injEq, Prod.mk.injEq] at hx; obtain ⟨rfl, rfl⟩ := hx
          cases hdat : Orc.isDat (get tbl i) with
          | false =>
            rw [hdat] at hok
            exact op_wp hL h.rel h.fr (by rw [h.k]; exact h.le) hb hop hp hok
          | true =>
            rw [hdat] at hok
            exact (op_wp hL h.rel h.fr (by rw [h.k]; exact h.le) hb hop hp hok).data
      exact key K Q fun v w' g' hbeh => hK g' _ w' (h.put hbeh hd)
    · cases hx
  · rename_i hw
    rw [wanted_ok h hw]
    simp only [Bool.false_eq_true, if_false]
    simp only [Option.some.injEq, Prod.mk.injEq] at hx; obtain ⟨rfl, rfl⟩ := hx
    exact hK g _ w (h.put (Beh.nothing h) hd)
  · cases hx

theorem run_ok (hL : LOk P L) {base : Nat} {tbl : List (Nat × Orc)} {reps : List (Nat × V)} {ops : Array Oper} {Q : Exit → Act → World → Prop} {st' : St} (hQ : ∀ g' a' w', In cx g' st' a' w' → Q .normal a' w') :
    ∀ (l : List Oper) (i : Nat) (st : St) (g : Gh) (a : Act) (w : World) (ps : List Prop) (fs : List Foot), (∀ (k : Nat) o, l[k]? = some o → ops[i + k]? = some o) → st.next ≤ base →
      runA (Has P) L base tbl reps ops.toList i l st = some (st', ps, fs) → AllP ps → In cx g st a w → wpOps P ops Q (List.range' i l.length) a w := by
  intro l
  induction l with
  | nil =>
    intro i st g a w ps fs _ _ hx _ h
    simp only [runA, Option.some.injEq, Prod.mk.injEq] at hx
    obtain ⟨rfl, _, _⟩ := hx
    exact hQ g a w h
  | cons o r ih =>
    intro i st g a w ps fs hops hb hx hp h
    simp only [runA] at hx
    split at hx
    · rename_i e p hs
      split at hx
      · rename_i hc
        simp only [Bool.and_eq_true] at hc
        split at hx
        · rename_i st1 ps1 fs1 hr
          simp only [Option.some.injEq, Prod.mk.injEq] at hx
          obtain ⟨rfl, rfl, rfl⟩ := hx
          obtain ⟨hp1, hp2⟩ := AllP.append.1 hp
          simp only [List.length_cons, List.range'_succ]
          rw [wpOps_cons]
          refine step_wp hL h hb (hops 0 o rfl) hs hp1 hc.1 hc.2 fun g' a' w' h' => ?_
          exact ih (i + 1) (st.put o.dst e) g' a' w' _ _ (fun k o' hk => by have := hops (k + 1) o' (by simpa using hk); rw [← this]; congr 1; omega) hb hr hp2 h'
        · cases hx
      · cases hx
    · cases hx

theorem set_get {α : Type} : ∀ {l l' : List (Nat × α)} {i : Nat} {x : α}, Abs.set l i x = some l' → ∀ j, get l' j = if i = j then some x else get l j := by
  intro l
  induction l with
  | nil => intro l' i x h; simp [Abs.set] at h
  | cons p r ih =>
    intro l' i x h j
    obtain ⟨k, y⟩ := p
    simp only [Abs.set] at h
    cases hb : Nat.beq k i with
    | true =>
      rw [hb] at h; simp at h; subst h
      have := Nat.eq_of_beq_eq_true hb
      subst this
      rw [get_cons, get_cons]
      by_cases e : k = j <;> simp [e]
    | false =>
      have hne := Nat.ne_of_beq_eq_false hb
      rw [hb] at h
      simp only [cond_false] at h
      split at h
      · rename_i l hl
        simp at h; subst h
        rw [get_cons, ih hl j, get_cons]
        by_cases e : k = j
        · subst e
          have hne' : ¬ i = k := fun e => hne e.symm
          simp [hne']
        · simp [e]
      · cases h

/-- a slot says less -/
theorem In.slot (h : In cx g st a w) {i : Nat} {v v' : V} (hv : get st.slots i = some v) (hr : ∀ u, RV g u v → RV g u v') {s : List (Nat × V)} (hs : Abs.set st.slots i v' = some s) : In cx g { st with slots := s } a w where
  fr := h.fr
  k := h.k
  le := h.le
  rel := {
    slot := by
      intro j x hj
      rw [set_get hs] at hj
      split at hj
      · rename_i e; subst e
        simp at hj; subst hj
        obtain ⟨h1, h2⟩ := h.rel.slot i v hv
        exact ⟨h1, hr _ h2⟩
      · exact h.rel.slot j x hj
    mem := h.rel.mem
    fresh := h.rel.fresh
    defers := h.rel.defers
    size := h.rel.size }

/-- an object's cells say less -/
theorem In.cells (h : In cx g st a w) {o : Nat} {e : TypeId} {l l' : List A} (ho : get st.objs o = some (.var e l)) (hr : ∀ vs, RL g vs l → RL g vs l') {s : List (Nat × O)} (hs : Abs.set st.objs o (.var e l') = some s) : In cx g { st with objs := s } a w := by
  have hg := set_get hs
  have hcase : ∀ p ob, get s p = some ob → (p = o ∧ ob = .var e l') ∨ (p ≠ o ∧ get st.objs p = some ob) := by
    intro p ob hp
    rw [hg] at hp
    split at hp
    · rename_i e; simp at hp; exact .inl ⟨e.symm, hp.symm⟩
    · rename_i e; exact .inr ⟨fun e' => e e'.symm, hp⟩
  have hlive : ∀ p ob, get s p = some ob → ob.live = true → ∃ ob', get st.objs p = some ob' ∧ ob'.live = true := by
    intro p ob hp hl
    rcases hcase p ob hp with ⟨rfl, _⟩ | ⟨_, hp'⟩
    · exact ⟨_, ho, rfl⟩
    · exact ⟨ob, hp', hl⟩
  refine ⟨⟨h.rel.slot, ⟨fun p ob hp => ?_, fun p p' ob ob' b hp hp' hl hl' hne hμ => ?_, h.rel.mem.shut, h.rel.mem.blk⟩, fun p hp hn => h.rel.fresh p hp ?_, h.rel.defers, h.rel.size⟩, ⟨h.fr.os, h.fr.tape, h.fr.output, h.fr.size, h.fr.block, h.fr.h, h.fr.hnew, fun p ob b hp hl hμ => ?_, fun j t m hj hp => ?_⟩, h.k, h.le⟩
  · rcases hcase p ob hp with ⟨rfl, rfl⟩ | ⟨_, hp'⟩
    · obtain ⟨b, cur, q1, q2, q3, q4⟩ := h.rel.mem.obj p _ ho
      exact ⟨b, cur, q1, q2, hr _ q3, q4⟩
    · exact h.rel.mem.obj p ob hp'
  · obtain ⟨x, hx, hxl⟩ := hlive p ob hp hl
    obtain ⟨x', hx', hxl'⟩ := hlive p' ob' hp' hl'
    exact h.rel.mem.sep p p' x x' b hx hx' hxl hxl' hne hμ
  · have hn' : get s p = none := hn
    rw [hg] at hn'
    split at hn'
    · cases hn'
    · exact hn'
  · obtain ⟨x, hx, hxl⟩ := hlive p ob hp hl
    exact h.fr.own p x b hx hxl hμ
  · rcases hcase j _ hp with ⟨rfl, _⟩ | ⟨_, hp'⟩
    · exact h.fr.keep j _ l hj ho
    · exact h.fr.keep j t m hj hp'

/-- a row that nothing lies in yet -/
theorem In.row (h : In cx g st a w) {id : Nat} {e : TypeId} {sz : Nat} (hn : get st.objs id = none) (hle : st.next ≤ id) : In cx g { st with objs := (id, .row e sz) :: st.objs } a w := by
  have hμ := h.rel.fresh id hle hn
  have hcase : ∀ p ob, get ((id, O.row e sz) :: st.objs) p = some ob → (p = id ∧ ob = .row e sz) ∨ get st.objs p = some ob := by
    intro p ob hp
    rw [get_cons] at hp
    split at hp
    · rename_i e'; simp at hp; exact .inl ⟨e'.symm, hp.symm⟩
    · exact .inr hp
  refine ⟨⟨h.rel.slot, ⟨fun p ob hp => ?_, fun p p' ob ob' b hp hp' hl hl' hne hμp => ?_, h.rel.mem.shut, h.rel.mem.blk⟩, fun p hp hnp => h.rel.fresh p hp ?_, h.rel.defers, h.rel.size⟩, ⟨h.fr.os, h.fr.tape, h.fr.output, h.fr.size, h.fr.block, h.fr.h, h.fr.hnew, fun p ob b hp hl hμp => ?_, fun j t m hj hp => ?_⟩, h.k, h.le⟩
  · rcases hcase p ob hp with ⟨rfl, rfl⟩ | hp'
    · intro b hb; rw [hμ] at hb; cases hb
    · exact h.rel.mem.obj p ob hp'
  · rcases hcase p ob hp with ⟨rfl, rfl⟩ | hp1
    · rw [hμ] at hμp; cases hμp
    · rcases hcase p' ob' hp' with ⟨rfl, rfl⟩ | hp2
      · rw [hμ]; simp
      · exact h.rel.mem.sep p p' ob ob' b hp1 hp2 hl hl' hne hμp
  · have hnp' : get ((id, O.row e sz) :: st.objs) p = none := hnp
    rw [get_cons] at hnp'
    split at hnp'
    · cases hnp'
    · exact hnp'
  · rcases hcase p ob hp with ⟨rfl, rfl⟩ | hp1
    · rw [hμ] at hμp; cases hμp
    · exact h.fr.own p ob b hp1 hl hμp
  · rcases hcase j _ hp with ⟨rfl, h'⟩ | hp1
    · cases h'
    · exact h.fr.keep j t m hj hp1

/-- a row that is not needed -/
theorem In.kill (h : In cx g st a w) {o : Nat} {e : TypeId} {sz : Nat} (_ho : get st.objs o = some (.row e sz)) {s : List (Nat × O)} (hs : Abs.set st.objs o .dead = some s) : In cx g { st with objs := s } a w := by
  have hg := set_get hs
  have hcase : ∀ p ob, get s p = some ob → (p = o ∧ ob = .dead) ∨ (p ≠ o ∧ get st.objs p = some ob) := by
    intro p ob hp
    rw [hg] at hp
    split at hp
    · rename_i e; simp at hp; exact .inl ⟨e.symm, hp.symm⟩
    · rename_i e; exact .inr ⟨fun e' => e e'.symm, hp⟩
  have hlive : ∀ p ob, get s p = some ob → ob.live = true → get st.objs p = some ob := by
    intro p ob hp hl
    rcases hcase p ob hp with ⟨_, rfl⟩ | ⟨_, hp'⟩
    · simp [O.live] at hl
    · exact hp'
  refine ⟨⟨h.rel.slot, ⟨fun p ob hp => ?_, fun p p' ob ob' b hp hp' hl hl' hne hμ => ?_, h.rel.mem.shut, h.rel.mem.blk⟩, fun p hp hn => h.rel.fresh p hp ?_, h.rel.defers, h.rel.size⟩, ⟨h.fr.os, h.fr.tape, h.fr.output, h.fr.size, h.fr.block, h.fr.h, h.fr.hnew, fun p ob b hp hl hμ => ?_, fun j t m hj hp => ?_⟩, h.k, h.le⟩
  · rcases hcase p ob hp with ⟨_, rfl⟩ | ⟨_, hp'⟩
    · trivial
    · exact h.rel.mem.obj p ob hp'
  · exact h.rel.mem.sep p p' ob ob' b (hlive p ob hp hl) (hlive p' ob' hp' hl') hl hl' hne hμ
  · have hn' : get s p = none := hn
    rw [hg] at hn'
    split at hn'
    · cases hn'
    · exact hn'
  · exact h.fr.own p ob b (hlive p ob hp hl) hl hμ
  · exact h.fr.keep j t m hj (hlive j _ hp rfl)

theorem RL.set {vs : List Value} {l : List A} (h : RL g vs l) {i : Nat} {b b' : A} (hi : l[i]? = some b) (hb : ∀ v, RA g v b → RA g v b') : RL g vs (l.set i b') := by
  refine ⟨by simpa using h.1, fun j v x hv hx => ?_⟩
  rw [List.getElem?_set] at hx
  split at hx
  · rename_i e; subst e
    split at hx
    · simp at hx; subst hx
      exact hb v (h.2 i v b hv hi)
    · cases hx
  · exact h.2 j v x hv hx

theorem co_ok (h : In cx g st a w) {c : Co} {st' : St} (hc : c.run st = some st') : In cx g st' a w := by
  cases c with
  | slot i =>
    simp only [Co.run] at hc
    split at hc
    · rename_i v hv
      obtain ⟨s, hs, rfl⟩ := map_some hc
      exact h.slot hv (fun _ => RV.data) hs
    · cases hc
  | cell o off =>
    simp only [Co.run] at hc
    split at hc
    · rename_i l ho
      split at hc
      · rename_i b hb
        obtain ⟨s, hs, rfl⟩ := map_some hc
        exact h.cells ho (fun _ hr => hr.set hb fun _ => RA.data) hs
      · cases hc
    · cases hc
  | slotOwn i id e =>
    simp only [Co.run] at hc
    split at hc
    · rename_i sz hv
      split at hc
      · rename_i hck
        simp only [Bool.and_eq_true, Option.isNone_iff_eq_none] at hck
        obtain ⟨s, hs, rfl⟩ := map_some hc
        have h1 := h.row (id := id) (e := e) (sz := sz) hck.1 (Nat.le_of_ble_eq_true hck.2)
        exact h1.slot (i := i) (v := .one (.nil sz)) (v' := .one (.own sz [] id)) hv (fun u hu => by
          have := hu.one_inv
          cases this
          exact .one _ _ (.ownNil _ _)) hs
      · cases hc
    · cases hc
  | cellOwn o off id e =>
    simp only [Co.run] at hc
    split at hc
    · rename_i l ho
      split at hc
      · rename_i sz hb
        split at hc
        · rename_i hck
          simp only [Bool.and_eq_true, Option.isNone_iff_eq_none] at hck
          obtain ⟨s, hs, rfl⟩ := map_some hc
          have h1 := h.cells ho (l' := l.set off (.own sz [] id)) (fun _ hr => hr.set hb fun v hv => by cases hv; exact .ownNil _ _) hs
          refine h1.row (id := id) (e := e) (sz := sz) ?_ (Nat.le_of_ble_eq_true hck.2)
          show get s id = none
          rw [set_get hs]
          split
          · rename_i e'; subst e'; rw [ho] at hck; simp at hck
          · exact hck.1
        · cases hc
      · cases hc
    · cases hc
  | kill o =>
    simp only [Co.run] at hc
    split at hc
    · rename_i e sz ho
      obtain ⟨s, hs, rfl⟩ := map_some hc
      exact h.kill ho hs
    · cases hc

theorem coes_ok : ∀ {cs : List Co} {st : St}, In cx g st a w → ∀ {st' : St}, coes cs st = some st' → In cx g st' a w := by
  intro cs
  induction cs with
  | nil => intro st h st' hc; simp only [coes, Option.some.injEq] at hc; subst hc; exact h
  | cons c r ih =>
    intro st h st' hc
    simp only [coes] at hc
    split at hc
    · rename_i s hs
      exact ih (co_ok h hs) hc
    · cases hc

theorem pickS_ok {m : List (Nat × Nat)} {s : List (Nat × V)} : ∀ {live : List Nat} {s' : List (Nat × V)}, pickS m s live = some s' → ∀ i v, get s' i = some v → ∃ v', get s i = some v' ∧ v = v'.ren m := by
  intro live
  induction live with
  | nil => intro s' h i v hi; simp only [pickS, Option.some.injEq] at h; subst h; simp [get] at hi
  | cons j r ih =>
    intro s' h i v hi
    simp only [pickS] at h
    split at h
    · rename_i v' l hv hl
      simp at h; subst h
      rw [get_cons] at hi
      split at hi
      · rename_i e; subst e; simp at hi; exact ⟨v', hv, hi.symm⟩
      · exact ih hl i v hi
    · cases h

theorem pickO_ok {m : List (Nat × Nat)} {s : List (Nat × O)} : ∀ {l : List (Nat × Nat)} {s' : List (Nat × O)}, pickO m s l = some s' → ∀ n ob, get s' n = some ob → ∃ o ob', (o, n) ∈ l ∧ get s o = some ob' ∧ ob = ob'.ren m := by
  intro l
  induction l with
  | nil => intro s' h n ob hi; simp only [pickO, Option.some.injEq] at h; subst h; simp [get] at hi
  | cons p r ih =>
    intro s' h n ob hi
    obtain ⟨o, k⟩ := p
    simp only [pickO] at h
    split at h
    · rename_i v' l hv hl
      simp at h; subst h
      rw [get_cons] at hi
      split at hi
      · rename_i e; subst e; simp at hi; exact ⟨o, v', by simp, hv, hi.symm⟩
      · obtain ⟨o', ob', q1, q2⟩ := ih hl n ob hi
        exact ⟨o', ob', List.mem_cons_of_mem _ q1, q2⟩
    · cases h

theorem normOk_ok {k next : Nat} {s : List (Nat × O)} : ∀ {l : List (Nat × Nat)}, normOk k next s l = true → ∀ o n, (o, n) ∈ l → n < next ∧ (n < k → ∀ t x, get s o = some (.var t x) → o = n) := by
  intro l
  induction l with
  | nil => intro _ o n h; simp at h
  | cons p r ih =>
    intro h o n hm
    obtain ⟨o', n'⟩ := p
    simp only [normOk, Bool.and_eq_true] at h
    simp only [List.mem_cons, Prod.mk.injEq] at hm
    rcases hm with ⟨rfl, rfl⟩ | hm
    · refine ⟨Nat.le_of_ble_eq_true h.1.1, fun hk t x hx => ?_⟩
      have h2 := h.1.2
      have : Nat.blt n k = true := by simpa [Nat.blt_eq] using hk
      rw [this, hx] at h2
      exact Nat.eq_of_beq_eq_true h2
    · exact ih h.2 o n hm

theorem get_of_mem : ∀ {l : List (Nat × Nat)} {o n : Nat}, nodupB (l.map (·.1)) = true → (o, n) ∈ l → get l o = some n := by
  intro l
  induction l with
  | nil => intro o n _ h; simp at h
  | cons p r ih =>
    intro o n hd hm
    obtain ⟨o', n'⟩ := p
    simp only [List.map_cons, nodupB, Bool.and_eq_true, Bool.not_eq_true'] at hd
    rw [get_cons]
    simp only [List.mem_cons, Prod.mk.injEq] at hm
    rcases hm with ⟨rfl, rfl⟩ | hm
    · simp
    · have : o' ≠ o := by
        intro e; subst e
        have : memB o' (r.map (·.1)) = true := memB_iff.2 (List.mem_map.2 ⟨(o', n), hm, rfl⟩)
        rw [this] at hd; cases hd.1
      rw [if_neg this]
      exact ih hd.2 hm

theorem norm_ok (h : In cx g st a w) {live : List Nat} {m : List (Nat × Nat)} {next : Nat} {st' : St} (hn : st.norm live m next = some st') : ∃ g', g.ren m g' ∧ (∀ o, next ≤ o → g'.μ o = none) ∧ In cx g' st' a w := by
  unfold St.norm at hn
  split at hn
  · rename_i s os hs hos
    split at hn
    · rename_i hc
      simp at hn; subst hn
      simp only [Bool.and_eq_true] at hc
      obtain ⟨⟨⟨hd1, hd2⟩, hno⟩, hkn⟩ := hc
      let sw := m.map fun p => (p.2, p.1)
      have hd2' : nodupB (sw.map (·.1)) = true := by simpa [sw, Function.comp_def] using hd2
      have hsw : ∀ o n, (o, n) ∈ m → get sw n = some o := fun o n hm => get_of_mem hd2' (List.mem_map.2 ⟨(o, n), hm, rfl⟩)
      let g' : Gh := ⟨fun n => (get sw n).bind g.μ, fun n => match get sw n with | some o => g.cap o | none => (0, 0), g.h⟩
      have hg : ∀ o n, (o, n) ∈ m → g'.μ n = g.μ o ∧ g'.cap n = g.cap o := fun o n hm => by simp [g', hsw o n hm]
      have hren : g.ren m g' := ⟨fun o n b ho hb => by rw [(hg o n (get_mem ho)).1]; exact hb, fun o n b ho _ => (hg o n (get_mem ho)).2, fun _ _ _ h => h⟩
      have hob : ∀ n ob, get os n = some ob → ∃ o ob', (o, n) ∈ m ∧ get st.objs o = some ob' ∧ ob = ob'.ren m := fun n ob hn => pickO_ok hos n ob hn
      have hlive : ∀ (x : O), (x.ren m).live = x.live := fun x => by cases x <;> rfl
      have hno' := normOk_ok hno
      have hnone : ∀ n, next ≤ n → g'.μ n = none := by
        intro n hn
        show (get sw n).bind g.μ = none
        cases hq : get sw n with
        | none => rfl
        | some o =>
          exfalso
          have := get_mem hq
          simp only [sw, List.mem_map, Prod.mk.injEq] at this
          obtain ⟨⟨o', n'⟩, q1, rfl, rfl⟩ := this
          have := (hno' o' n' q1).1
          omega
      refine ⟨g', hren, hnone, ⟨⟨fun i v hi => ?_, ⟨fun n ob hn => ?_, fun n n' ob ob' b hn hn' hl hl' hne hμ => ?_, h.rel.mem.shut, fun n b hn => ?_⟩, fun n hn _ => hnone n hn, h.rel.defers, h.rel.size⟩, ⟨h.fr.os, h.fr.tape, h.fr.output, h.fr.size, h.fr.block, h.fr.h, h.fr.hnew, fun n ob b hn hl hμ => ?_, fun j t l hj hn => ?_⟩, h.k, Nat.le_of_ble_eq_true hkn⟩⟩
      · obtain ⟨v', hv', rfl⟩ := pickS_ok hs i v hi
        obtain ⟨h1, h2⟩ := h.rel.slot i v' hv'
        exact ⟨h1, h2.ren hren⟩
      · obtain ⟨o, x, h1, h2, rfl⟩ := hob n ob hn
        have hro := h.rel.mem.obj o x h2
        cases x with
        | dead => trivial
        | var e l =>
          obtain ⟨b, cur, q1, q2, q3, q4⟩ := hro
          exact ⟨b, cur, by rw [(hg o n h1).1]; exact q1, q2, q3.ren hren, q4⟩
        | row e sz =>
          intro b hb
          rw [(hg o n h1).1] at hb
          obtain ⟨cur, q1, q2, q3⟩ := hro b hb
          exact ⟨cur, q1, by rw [(hg o n h1).2]; exact q2, by rw [(hg o n h1).2]; exact q3⟩
      · obtain ⟨o, x, h1, h2, rfl⟩ := hob n ob hn
        obtain ⟨o', x', h1', h2', rfl⟩ := hob n' ob' hn'
        rw [hlive] at hl hl'
        rw [(hg o n h1).1] at hμ
        rw [(hg o' n' h1').1]
        refine h.rel.mem.sep o o' x x' b h2 h2' hl hl' (fun e => hne ?_) hμ
        subst e
        have q1 := get_of_mem hd1 h1
        have q2 := get_of_mem hd1 h1'
        rw [q1] at q2; simpa using q2
      · cases hq : get sw n with
        | none => simp [g', hq] at hn
        | some o => simp only [g', hq, Option.bind_some] at hn; exact h.rel.mem.blk o b hn
      · obtain ⟨o, x, h1, h2, rfl⟩ := hob n ob hn
        rw [hlive] at hl
        rw [(hg o n h1).1] at hμ
        exact h.fr.own o x b h2 hl hμ
      · obtain ⟨o, x, h1, h2, h3⟩ := hob j _ hn
        cases x with
        | var t' l' =>
          have := (hno' o j h1).2 (by rw [← h.k]; exact hj) t' l' h2
          subst this
          have hk := h.fr.keep o t' l' hj h2
          rw [(hg o o h1).1, (hg o o h1).2]
          exact hk
        | dead => cases h3
        | row => cases h3
    · cases hn
  · cases hn

theorem fin_ok (h : In cx g st a w) {cs : List Co} {live : List Nat} {m : List (Nat × Nat)} {next : Nat} {st' : St} (hn : st.fin cs live m next = some st') : ∃ g', g.ren m g' ∧ (∀ o, next ≤ o → g'.μ o = none) ∧ In cx g' st' a w := by
  unfold St.fin at hn
  split at hn
  · rename_i s hs
    exact norm_ok (coes_ok h hs) hn
  · cases hn

end
end Go.Abs
