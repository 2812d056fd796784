/- A call of a function does what its contract says; all operations together. -/
import Derived.Test.YtoioflodpmideaaAbs11
namespace Go.Abs

theorem get_bkMap {fresh : Nat} {is : List Nat} {os : List O} : ∀ (n j i : Nat), get (bkMap fresh is os j n) i = if j ≤ i ∧ i < j + n then some (tgt fresh is os i) else none := by
  intro n
  induction n with
  | zero => intro j i; rw [if_neg (by omega)]; rfl
  | succ n ih =>
    intro j i
    simp only [bkMap, get]
    cases hb : Nat.beq j i with
    | true =>
      have := Nat.eq_of_beq_eq_true hb
      subst this
      rw [if_pos (by omega)]; rfl
    | false =>
      have := Nat.ne_of_beq_eq_false hb
      simp only [cond_false, ih]
      by_cases h : j + 1 ≤ i ∧ i < j + 1 + n
      · rw [if_pos h, if_pos (by omega)]
      · rw [if_neg h, if_neg (by omega)]

theorem get_inMap : ∀ (is : List Nat) (j : Nat) (o o' : Nat), get (inMap is j) o = some o' → j ≤ o' ∧ is[o' - j]? = some o := by
  intro is
  induction is with
  | nil => intro j o o' h; simp [inMap, get] at h
  | cons i r ih =>
    intro j o o' h
    simp only [inMap, get] at h
    cases hb : Nat.beq i o with
    | true =>
      rw [hb] at h; simp at h; subst h
      simp [Nat.eq_of_beq_eq_true hb]
    | false =>
      rw [hb] at h
      obtain ⟨h1, h2⟩ := ih (j + 1) o o' h
      refine ⟨by omega, ?_⟩
      have : o' - j = (o' - (j + 1)) + 1 := by omega
      rw [this]; simpa using h2

theorem get_number {α : Type} : ∀ (l : List α) (j i : Nat), get (number l j) i = if j ≤ i then l[i - j]? else none := by
  intro l
  induction l with
  | nil => intro j i; simp [number, get]
  | cons x r ih =>
    intro j i
    simp only [number, get]
    cases hb : Nat.beq j i with
    | true =>
      have := Nat.eq_of_beq_eq_true hb
      subst this
      simp
    | false =>
      have := Nat.ne_of_beq_eq_false hb
      simp only [cond_false, ih]
      by_cases h : j + 1 ≤ i
      · rw [if_pos h, if_pos (by omega)]
        have : i - j = (i - (j + 1)) + 1 := by omega
        rw [this]; simp
      · rw [if_neg h, if_neg (by omega)]

theorem get_mem {α : Type} : ∀ {l : List (Nat × α)} {o : Nat} {x : α}, get l o = some x → (o, x) ∈ l := by
  intro l
  induction l with
  | nil => intro o x h; simp [get] at h
  | cons p r ih =>
    intro o x h
    obtain ⟨j, y⟩ := p
    simp only [get] at h
    cases hb : Nat.beq j o with
    | true => rw [hb] at h; simp at h; subst h; simp [Nat.eq_of_beq_eq_true hb]
    | false => rw [hb] at h; exact List.mem_cons_of_mem _ (ih h)

theorem get_none_mem {α : Type} : ∀ {l : List (Nat × α)} {o : Nat}, get l o = none → ∀ x, (o, x) ∉ l := by
  intro l
  induction l with
  | nil => intro o _ x h; simp at h
  | cons p r ih =>
    intro o h x hx
    obtain ⟨j, y⟩ := p
    simp only [get] at h
    cases hb : Nat.beq j o with
    | true => rw [hb] at h; simp at h
    | false =>
      rw [hb] at h
      simp only [List.mem_cons, Prod.mk.injEq] at hx
      rcases hx with ⟨rfl, _⟩ | hx
      · exact Nat.ne_of_beq_eq_false hb rfl
      · exact ih h x hx

theorem mem_updBack {m : List (Nat × Nat)} : ∀ {objs : List O} {j o : Nat} {ob : O}, (o, ob) ∈ updBack m objs j → ∃ i x, objs[i]? = some x ∧ get m (j + i) = some o ∧ ob = x.ren m := by
  intro objs
  induction objs with
  | nil => intro j o ob h; simp [updBack] at h
  | cons x r ih =>
    intro j o ob h
    simp only [updBack] at h
    split at h
    · rename_i t ht
      simp only [List.mem_cons, Prod.mk.injEq] at h
      rcases h with ⟨rfl, rfl⟩ | h
      · exact ⟨0, x, rfl, ht, rfl⟩
      · obtain ⟨i, y, h1, h2, h3⟩ := ih h
        exact ⟨i + 1, y, by simpa using h1, by rw [← h2]; congr 1; omega, h3⟩
    · obtain ⟨i, y, h1, h2, h3⟩ := ih h
      exact ⟨i + 1, y, by simpa using h1, by rw [← h2]; congr 1; omega, h3⟩

theorem updBack_mem {m : List (Nat × Nat)} : ∀ {objs : List O} {j i o : Nat} {x : O}, objs[i]? = some x → get m (j + i) = some o → (o, x.ren m) ∈ updBack m objs j := by
  intro objs
  induction objs with
  | nil => intro j i o x h; simp at h
  | cons y r ih =>
    intro j i o x h hm
    simp only [updBack]
    cases i with
    | zero =>
      simp at h; subst h
      simp only [Nat.add_zero] at hm
      rw [hm]; simp
    | succ i =>
      simp at h
      have := ih (j := j + 1) (i := i) (o := o) h (by rw [← hm]; congr 1; omega)
      split
      · exact List.mem_cons_of_mem _ this
      · exact this

theorem mem_deadRows : ∀ {is : List Nat} {os : List O} {o : Nat} {ob : O}, (o, ob) ∈ deadRows is os → ob = .dead := by
  intro is
  induction is with
  | nil => intro os o ob h; simp [deadRows] at h
  | cons i is ih =>
    intro os o ob h
    cases os with
    | nil => simp [deadRows] at h
    | cons x os =>
      simp only [deadRows] at h
      cases hv : x.isVar <;> rw [hv] at h
      · simp only [cond_false, List.mem_cons, Prod.mk.injEq] at h
        rcases h with ⟨_, rfl⟩ | h
        · rfl
        · exact ih h
      · exact ih h

theorem mem_deadRows' : ∀ {is : List Nat} {os : List O} {o : Nat} {ob : O}, (o, ob) ∈ deadRows is os → ∃ (j : Nat) (x : O), is[j]? = some o ∧ os[j]? = some x ∧ x.isVar = false := by
  intro is
  induction is with
  | nil => intro os o ob h; simp [deadRows] at h
  | cons i is ih =>
    intro os o ob h
    cases os with
    | nil => simp [deadRows] at h
    | cons x os =>
      simp only [deadRows] at h
      cases hv : x.isVar <;> rw [hv] at h
      · simp only [cond_false, List.mem_cons, Prod.mk.injEq] at h
        rcases h with ⟨rfl, _⟩ | h
        · exact ⟨0, x, rfl, rfl, hv⟩
        · obtain ⟨j, y, h1, h2, h3⟩ := ih h; exact ⟨j + 1, y, by simpa using h1, by simpa using h2, h3⟩
      · obtain ⟨j, y, h1, h2, h3⟩ := ih h; exact ⟨j + 1, y, by simpa using h1, by simpa using h2, h3⟩

theorem keepVars_ok {os : List O} : ∀ {ks : List Nat}, keepVars os ks = true → ∀ j ∈ ks, ∃ t l, os[j]? = some (.var t l) := by
  intro ks
  induction ks with
  | nil => intro _ j h; simp at h
  | cons k r ih =>
    intro h j hj
    simp only [keepVars, Bool.and_eq_true] at h
    rcases List.mem_cons.1 hj with rfl | hj
    · cases ho : os[j]? with
      | none => rw [ho] at h; simp at h
      | some o => rw [ho] at h; cases o <;> simp [O.isVar] at h ⊢
    · exact ih h.2 j hj

theorem keepP_ok {bk : List (Nat × Nat)} {objs os : List O} : ∀ {ks : List Nat}, AllP (keepP bk objs os ks) → ∀ j ∈ ks, (objs[j]?).map (·.ren bk) = os[j]? := by
  intro ks
  induction ks with
  | nil => intro _ j h; simp at h
  | cons k r ih =>
    intro h j hj
    obtain ⟨h1, h2⟩ := h
    rcases List.mem_cons.1 hj with rfl | hj
    · exact h1
    · exact ih h2 j hj

theorem get_cons12 {α : Type} {i o : Nat} {x : α} {r : List (Nat × α)} : get ((i, x) :: r) o = if i = o then some x else get r o := by
  simp only [get]
  cases hb : Nat.beq i o with
  | true => rw [if_pos (Nat.eq_of_beq_eq_true hb)]; rfl
  | false => rw [if_neg (Nat.ne_of_beq_eq_false hb)]; rfl

theorem get_dropK {is ks : List Nat} : ∀ {full : List (Nat × O)} {o : Nat}, get (dropK is ks full) o = if (∃ j ∈ ks, is[j]? = some o) then none else get full o := by
  intro full
  induction full with
  | nil => intro o; simp [dropK, get]
  | cons p r ih =>
    intro o
    obtain ⟨i, x⟩ := p
    have key : (ks.any fun j => match is[j]? with | some i' => Nat.beq i' i | none => false) = true ↔ ∃ j ∈ ks, is[j]? = some i := by
      rw [List.any_eq_true]
      constructor
      · rintro ⟨j, hj, h⟩
        cases hi : is[j]? with
        | none => rw [hi] at h; cases h
        | some i' => rw [hi] at h; exact ⟨j, hj, by rw [hi, Nat.eq_of_beq_eq_true h]⟩
      · rintro ⟨j, hj, h⟩
        exact ⟨j, hj, by rw [h]; simp⟩
    simp only [dropK]
    cases hb : (ks.any fun j => match is[j]? with | some i' => Nat.beq i' i | none => false) with
    | true =>
      simp only [cond_true, ih]
      have := key.1 hb
      by_cases ho : ∃ j ∈ ks, is[j]? = some o
      · rw [if_pos ho, if_pos ho]
      · rw [if_neg ho, if_neg ho, get_cons12, if_neg (fun (e : i = o) => ho (by rw [← e]; exact this))]
    | false =>
      have hn : ¬ ∃ j ∈ ks, is[j]? = some i := fun h => by rw [key.2 h] at hb; cases hb
      simp only [cond_false, get_cons12, ih]
      by_cases e : i = o
      · subst e; rw [if_pos rfl, if_neg hn, if_pos rfl]
      · rw [if_neg e, if_neg e]

theorem dropK_ok {st : St} {is ks : List Nat} {full : List (Nat × O)} (h : ∀ j i, j ∈ ks → is[j]? = some i → get full i = get st.objs i) :
    (∀ o, get (dropK is ks full ++ st.objs) o = get (full ++ st.objs) o) ∧ ∀ o, get (dropK is ks full) o = none → get full o = none ∨ ∃ x, get st.objs o = some x := by
  constructor
  · intro o
    rw [get_append, get_append, get_dropK]
    by_cases ho : ∃ j ∈ ks, is[j]? = some o
    · rw [if_pos ho]
      obtain ⟨j, hj, hi⟩ := ho
      have := h j o hj hi
      rw [this]
      cases get st.objs o <;> rfl
    · rw [if_neg ho]
  · intro o ho
    rw [get_dropK] at ho
    by_cases hk : ∃ j ∈ ks, is[j]? = some o
    · obtain ⟨j, hj, hi⟩ := hk
      have := h j o hj hi
      cases hs : get st.objs o with
      | none => rw [hs] at this; exact .inl this
      | some x => exact .inr ⟨x, rfl⟩
    · rw [if_neg hk] at ho; exact .inl ho

theorem deadRows_mem : ∀ {is : List Nat} {os : List O} {j o : Nat} {x : O}, is[j]? = some o → os[j]? = some x → x.isVar = false → (o, .dead) ∈ deadRows is os := by
  intro is
  induction is with
  | nil => intro os j o x h; simp at h
  | cons i is ih =>
    intro os j o x h h' hv
    cases os with
    | nil => simp at h'
    | cons y os =>
      simp only [deadRows]
      cases j with
      | zero => simp at h h'; subst h; subst h'; rw [hv]; simp
      | succ j =>
        simp at h h'
        have := ih h h' hv
        cases y.isVar
        · exact List.mem_cons_of_mem _ this
        · exact this

theorem getAll_ok {l : List (Nat × O)} : ∀ {is : List Nat} {os : List O}, getAll l is = some os → os.length = is.length ∧ ∀ (j i : Nat), is[j]? = some i → ∃ x, os[j]? = some x ∧ get l i = some x := by
  intro is
  induction is with
  | nil => intro os h; simp only [getAll, Option.some.injEq] at h; subst h; simp
  | cons i r ih =>
    intro os h
    simp only [getAll] at h
    split at h
    · rename_i o m ho hm
      simp only [Option.some.injEq] at h
      subst h
      obtain ⟨h1, h2⟩ := ih hm
      refine ⟨by simp [h1], fun j i' hj => ?_⟩
      cases j with
      | zero => simp at hj; subst hj; exact ⟨o, rfl, ho⟩
      | succ j => simp at hj; exact h2 j i' hj
    · cases h

theorem memB_iff {i : Nat} : ∀ {l : List Nat}, memB i l = true ↔ i ∈ l := by
  intro l
  induction l with
  | nil => simp [memB]
  | cons j r ih => simp [memB, ih]

theorem nodupB_ok : ∀ {l : List Nat}, nodupB l = true → ∀ (j j' i : Nat), l[j]? = some i → l[j']? = some i → j = j' := by
  intro l
  induction l with
  | nil => intro _ j j' i h; simp at h
  | cons x r ih =>
    intro h j j' i hj hj'
    simp only [nodupB, Bool.and_eq_true, Bool.not_eq_true'] at h
    have hx : x ∉ r := fun hm => by rw [memB_iff.2 hm] at h; cases h.1
    cases j with
    | zero =>
      cases j' with
      | zero => rfl
      | succ j' => simp at hj hj'; subst hj; exact absurd (List.mem_of_getElem? hj') hx
    | succ j =>
      cases j' with
      | zero => simp at hj hj'; subst hj'; exact absurd (List.mem_of_getElem? hj) hx
      | succ j' => simp at hj hj'; rw [ih h.2 j j' i hj hj']

theorem kindsOk_ok : ∀ {os os' : List O}, kindsOk os os' = true → os.length ≤ os'.length ∧ ∀ (j : Nat) x, os[j]? = some x → x.live = true ∧ (x.isVar = true → ∃ y, os'[j]? = some y ∧ y.isVar = true) := by
  intro os
  induction os with
  | nil => intro os' _; simp
  | cons x r ih =>
    intro os' h
    cases os' with
    | nil => simp [kindsOk] at h
    | cons y r' =>
      simp only [kindsOk, Bool.and_eq_true, Bool.or_eq_true, Bool.not_eq_true'] at h
      obtain ⟨⟨h1, h2⟩, h3⟩ := h
      obtain ⟨h4, h5⟩ := ih h3
      refine ⟨by simp; omega, fun j z hz => ?_⟩
      cases j with
      | zero =>
        simp at hz; subst hz
        exact ⟨h1, fun hv => ⟨y, rfl, by rcases h2 with h | h; rw [hv] at h; cases h; exact h⟩⟩
      | succ j => simp at hz; simpa using h5 j z hz

theorem allFresh_ok {α : Type} {l : List (Nat × α)} : ∀ {n i : Nat}, allFresh l i n = true → ∀ j, j < n → get l (i + j) = none := by
  intro n
  induction n with
  | zero => intro i _ j h; omega
  | succ n ih =>
    intro i h j hj
    simp only [allFresh, Bool.and_eq_true, Option.isNone_iff_eq_none] at h
    cases j with
    | zero => exact h.1
    | succ j => have := ih h.2 j (by omega); rw [← this]; congr 1; omega

section
variable {P : Program} {L : Lay} {cx : Cx} {g : Gh} {st : St} {a : Act} {w : World}

/-- What a call leaves behind. -/
structure Beh (cx : Cx) (g : Gh) (st : St) (e : Eff) (v : Value) (g' : Gh) (w' : World) : Prop where
  le : g.le g'
  val : RV g' v e.val
  mem : Rm g' (e.upd ++ st.objs) w'
  fr : Fr cx g' (e.upd ++ st.objs) w'
  μ : ∀ o, get e.upd o = none → g'.μ o = g.μ o

theorem Stp.beh {o : Oper} {e : Eff} {v : Value} {w' : World} {g' : Gh} {B : Nat → Prop} (hs : Stp P g st a w o e v w' g' B) (hr : Rel g st a w) (hf : Fr cx g st.objs w) (hk : cx.k ≤ st.next) : Beh cx g st e v g' w' where
  le := hs.chg.le
  val := hs.val
  mem := hs.chg.rm hr.mem
  fr := hs.chg.fr hf (fun b hb => by
    obtain ⟨p, ob, h1, h2, h3⟩ := hs.blk b hb
    exact hf.own p ob b h1 h2 h3) (fun j t l hj h => by
    rcases hs.var j t l h with h | h
    · exact h
    · omega)
  μ := hs.chg.μ

theorem call_ok (hr : Rel g st a w) (hf : Fr cx g st.objs w) (hk : cx.k ≤ st.next) {fresh : Nat} (hfr : st.next ≤ fresh) {orc : Option Orc} {f : FuncId} {args : List V} {vs : Array Value} (hvs : vs.size = args.length) (hva : ∀ (i : Nat) v b, vs[i]? = some v → args[i]? = some b → RV g v b)
    {e : Eff} {ps : List Prop} (hx : callA (Has P) fresh orc st f args = some (e, ps)) (hp : AllP ps) :
    Does P f vs w fun x w' => ∃ v g', x = .returned v ∧ Beh cx g st e v g' w' := by
  unfold callA at hx
  split at hx
  rotate_left
  · cases hx
  rename_i is objs r ks
  split at hx
  rotate_left
  · cases hx
  rename_i os hos
  dsimp only at hx
  split at hx
  rotate_left
  · cases hx
  rename_i hchk
  simp only [Bool.and_eq_true] at hchk
  obtain ⟨⟨⟨⟨hnd, hkinds⟩, _⟩, hkv⟩, hfresh⟩ := hchk
  simp only [Option.some.injEq, Prod.mk.injEq] at hx
  obtain ⟨rfl, rfl⟩ := hx
  obtain ⟨hp, hkp⟩ := hp
  have hcall := hp
  obtain ⟨hol, hoi⟩ := getAll_ok hos
  have hnd := nodupB_ok hnd
  obtain ⟨hlen, hkinds⟩ := kindsOk_ok hkinds
  have hfresh := allFresh_ok hfresh
  have hnew : ∀ j, j < objs.length → g.μ (fresh + j) = none := fun j hj => hr.fresh _ (by omega) (hfresh j hj)
  let gc : Gh := ⟨fun j => (is[j]?).bind g.μ, fun j => match is[j]? with | some i => g.cap i | none => (0, 0), g.h⟩
  have hgc : ∀ (j i : Nat), is[j]? = some i → gc.μ j = g.μ i ∧ gc.cap j = g.cap i := fun j i h => by simp [gc, h]
  have hren : g.ren (inMap is 0) gc := by
    refine ⟨fun o o' b h hb => ?_, fun o o' b h hb => ?_, fun _ _ _ h => h⟩
    · have := (get_inMap is 0 o o' h).2
      simp only [Nat.sub_zero] at this
      rw [(hgc _ _ this).1]; exact hb
    · have := (get_inMap is 0 o o' h).2
      simp only [Nat.sub_zero] at this
      exact (hgc _ _ this).2
  have hget : ∀ j x, get (number (os.map (·.ren (inMap is 0))) 0) j = some x → ∃ i y, is[j]? = some i ∧ os[j]? = some y ∧ get st.objs i = some y ∧ x = y.ren (inMap is 0) := by
    intro j x h
    rw [get_number] at h
    simp only [Nat.zero_le, if_true, Nat.sub_zero, List.getElem?_map, Option.map_eq_some_iff] at h
    obtain ⟨y, hy, rfl⟩ := h
    have hj : j < is.length := by rw [← hol]; exact (List.getElem?_eq_some_iff.1 hy).1
    obtain ⟨y', h1, h2⟩ := hoi j is[j] (by simp)
    rw [hy] at h1; simp at h1; subst h1
    exact ⟨is[j], y, by simp, hy, h2, rfl⟩
  have hlive : ∀ (x : O) m, (x.ren m).live = x.live := fun x m => by cases x <;> rfl
  refine (hcall gc w vs (by simpa [renVs_eq] using hvs) (fun i v b hv hb => ?_) ⟨fun j x h => ?_, fun j j' x x' b h h' hl hl' hne hμ => ?_, hr.mem.shut, fun j b h => ?_⟩ (fun j hj => ?_)).mono ?_
  · simp only [renVs_eq, List.getElem?_map, Option.map_eq_some_iff] at hb
    obtain ⟨b', hb', rfl⟩ := hb
    exact (hva i v b' hv hb').ren hren
  · obtain ⟨i, y, h1, h2, h3, rfl⟩ := hget j x h
    have hro := hr.mem.obj i y h3
    cases y with
    | dead => trivial
    | var e l =>
      obtain ⟨b, cur, q1, q2, q3, q4⟩ := hro
      exact ⟨b, cur, by rw [(hgc j i h1).1]; exact q1, q2, q3.ren hren, q4⟩
    | row e sz =>
      intro b hb
      rw [(hgc j i h1).1] at hb
      obtain ⟨cur, q1, q2, q3⟩ := hro b hb
      exact ⟨cur, q1, by rw [(hgc j i h1).2]; exact q2, by rw [(hgc j i h1).2]; exact q3⟩
  · obtain ⟨i, y, h1, h2, h3, rfl⟩ := hget j x h
    obtain ⟨i', y', h1', h2', h3', rfl⟩ := hget j' x' h'
    rw [hlive] at hl hl'
    rw [(hgc j i h1).1] at hμ
    rw [(hgc j' i' h1').1]
    refine hr.mem.sep i i' y y' b h3 h3' hl hl' (fun e => hne ?_) hμ
    subst e
    exact hnd j j' i h1 h1'
  · cases hi : is[j]? with
    | none => simp [gc, hi] at h
    | some i => rw [(hgc j i hi).1] at h; exact hr.mem.blk i b h
  · have : is[j]? = none := by rw [List.getElem?_eq_none]; simp at hj; omega
    simp [gc, this]
  · rintro x w' ⟨v, g', objs', r', rfl, ⟨rfl, rfl⟩, hv, hm, hfr', hlen', hF⟩
    -- the caller's numbers
    let bk := bkMap fresh is os 0 objs'.length
    have hbk : ∀ j o, get bk j = some o ↔ j < objs'.length ∧ o = tgt fresh is os j := by
      intro j o
      simp only [bk, get_bkMap]
      by_cases h : j < objs'.length
      · rw [if_pos (by omega)]; simp [h, eq_comm]
      · rw [if_neg (by omega)]; simp [h]
    have htgt : ∀ j, (∃ (i : Nat) (l : TypeId × List A), is[j]? = some i ∧ os[j]? = some (.var l.1 l.2) ∧ get st.objs i = some (.var l.1 l.2) ∧ tgt fresh is os j = i) ∨ (tgt fresh is os j = fresh + j ∧ ∀ t l, os[j]? ≠ some (.var t l)) := by
      intro j
      unfold tgt
      cases hi : is[j]? with
      | none =>
        refine .inr ⟨rfl, fun t l h => ?_⟩
        have := (List.getElem?_eq_some_iff.1 h).1
        have h2 := List.getElem?_eq_none_iff.1 hi
        omega
      | some i =>
        obtain ⟨x, hx, hx'⟩ := hoi j i hi
        rw [hx]
        cases x with
        | var t l => exact .inl ⟨i, (t, l), rfl, rfl, hx', rfl⟩
        | dead => exact .inr ⟨rfl, by simp⟩
        | row => exact .inr ⟨rfl, by simp⟩
    let μ2 : Nat → Option Nat := fun o => if fresh ≤ o ∧ get bk (o - fresh) = some o then g'.μ (o - fresh) else g.μ o
    let cap2 : Nat → Nat × Nat := fun o => if fresh ≤ o ∧ get bk (o - fresh) = some o then g'.cap (o - fresh) else g.cap o
    let g2 : Gh := ⟨μ2, cap2, g'.h⟩
    have hcond : ∀ o, (fresh ≤ o ∧ get bk (o - fresh) = some o) → ∃ j, j < objs'.length ∧ o = fresh + j := by
      rintro o ⟨h1, h2⟩
      exact ⟨o - fresh, ((hbk _ _).1 h2).1, by omega⟩
    have hkeep : ∀ (j i : Nat) (l : TypeId × List A), is[j]? = some i → os[j]? = some (.var l.1 l.2) → g'.μ j = g.μ i ∧ g'.cap j = g.cap i := by
      intro j i l hi ho
      have hj : j < os.length := (List.getElem?_eq_some_iff.1 ho).1
      obtain ⟨_, hvv⟩ := hkinds j _ ho
      obtain ⟨y, hy, hyv⟩ := hvv rfl
      cases y with
      | var t' l' =>
        have := hF.keep j t' l' (by simpa using hj) (by rw [get_number]; simpa using hy)
        simp only at this
        rw [this.1, this.2]
        exact hgc j i hi
      | dead => simp [O.isVar] at hyv
      | row => simp [O.isVar] at hyv
    have hold : ∀ i x, get st.objs i = some x → ¬ (fresh ≤ i ∧ get bk (i - fresh) = some i) := by
      intro i x hi hc
      obtain ⟨j, hj, rfl⟩ := hcond i hc
      rw [hfresh j hj] at hi; cases hi
    have hbkren : g'.ren bk g2 := by
      refine ⟨fun j o b h hb => ?_, fun j o b h hb => ?_, fun _ _ _ h => h⟩
      · obtain ⟨hj, rfl⟩ := (hbk j o).1 h
        rcases htgt j with ⟨i, l, h1, h2, h3, h4⟩ | ⟨h4, h5⟩
        · rw [h4]
          show μ2 i = some b
          simp only [μ2]
          rw [if_neg (hold i _ h3), ← (hkeep j i l h1 h2).1]; exact hb
        · rw [h4]
          show μ2 (fresh + j) = some b
          simp only [μ2]
          have e : fresh + j - fresh = j := by omega
          rw [if_pos ⟨by omega, by rw [e, ← h4]; exact h⟩, e]; exact hb
      · obtain ⟨hj, rfl⟩ := (hbk j o).1 h
        rcases htgt j with ⟨i, l, h1, h2, h3, h4⟩ | ⟨h4, h5⟩
        · rw [h4]
          show cap2 i = _
          simp only [cap2]
          rw [if_neg (hold i _ h3), ← (hkeep j i l h1 h2).2]
        · rw [h4]
          show cap2 (fresh + j) = _
          simp only [cap2]
          have e : fresh + j - fresh = j := by omega
          rw [if_pos ⟨by omega, by rw [e, ← h4]; exact h⟩, e]
    have hmemU : ∀ j o, get bk j = some o → get (updBack bk objs' 0 ++ deadRows is os) o ≠ none := by
      intro j o h hn
      obtain ⟨hj, _⟩ := (hbk j o).1 h
      have := updBack_mem (m := bk) (objs := objs') (j := 0) (i := j) (o := o) (x := objs'[j]) (by simp) (by simpa using h)
      exact get_none_mem hn _ (List.mem_append_left _ this)
    have hmemD : ∀ (j i : Nat) x, is[j]? = some i → os[j]? = some x → get (updBack bk objs' 0 ++ deadRows is os) i ≠ none := by
      intro j i x hi hx hn
      cases hv : x.isVar with
      | false => exact get_none_mem hn _ (List.mem_append_right _ (deadRows_mem hi hx hv))
      | true =>
        cases x with
        | var t l =>
          have hj : j < objs'.length := by have := (List.getElem?_eq_some_iff.1 hx).1; omega
          refine hmemU j i ?_ hn
          refine (hbk j i).2 ⟨hj, ?_⟩
          simp [tgt, hi, hx]
        | dead => simp [O.isVar] at hv
        | row => simp [O.isVar] at hv
    have hupd : ∀ o ob, get (updBack bk objs' 0 ++ deadRows is os) o = some ob → (∃ (j : Nat) (x : O), objs'[j]? = some x ∧ get bk j = some o ∧ ob = x.ren bk) ∨ ob = .dead := by
      intro o ob h
      rcases List.mem_append.1 (get_mem h) with h | h
      · obtain ⟨j, x, h1, h2, h3⟩ := mem_updBack h
        exact .inl ⟨j, x, h1, by simpa using h2, h3⟩
      · exact .inr (mem_deadRows h)
    have hgn : ∀ (j : Nat) x, objs'[j]? = some x → get (number objs' 0) j = some x := fun j x h => by rw [get_number]; simpa using h
    have hμj : ∀ j o, get bk j = some o → g2.μ o = g'.μ j ∧ g2.cap o = g'.cap j := by
      intro j o h
      obtain ⟨hj, rfl⟩ := (hbk j o).1 h
      rcases htgt j with ⟨i, l, h1, h2, h3, h4⟩ | ⟨h4, h5⟩
      · rw [h4]
        refine ⟨?_, ?_⟩
        · show μ2 i = _
          simp only [μ2]
          rw [if_neg (hold i _ h3), ← (hkeep j i l h1 h2).1]
        · show cap2 i = _
          simp only [cap2]
          rw [if_neg (hold i _ h3), ← (hkeep j i l h1 h2).2]
      · rw [h4]
        have e : fresh + j - fresh = j := by omega
        refine ⟨?_, ?_⟩
        · show μ2 (fresh + j) = _
          simp only [μ2]
          rw [if_pos ⟨by omega, by rw [e, ← h4]; exact h⟩, e]
        · show cap2 (fresh + j) = _
          simp only [cap2]
          rw [if_pos ⟨by omega, by rw [e, ← h4]; exact h⟩, e]
    have hfoot : ∀ b, Cx.foot ⟨gc, w, (os.map (·.ren (inMap is 0))).length⟩ b ↔ ∃ (j i : Nat), is[j]? = some i ∧ g.μ i = some b := by
      intro b
      constructor
      · rintro ⟨j, hj, hb⟩
        simp only at hj hb
        have hj' : j < is.length := by simp at hj; omega
        exact ⟨j, is[j], by simp, by rw [← (hgc j is[j] (by simp)).1]; exact hb⟩
      · rintro ⟨j, i, hi, hb⟩
        exact ⟨j, by have := (List.getElem?_eq_some_iff.1 hi).1; simp; omega, by rw [(hgc j i hi).1]; exact hb⟩
    have hle : g.le g2 := by
      refine ⟨fun o b h => ?_, fun o b h => ?_, hF.h⟩
      · show μ2 o = some b
        simp only [μ2]
        rw [if_neg (fun hc => by obtain ⟨j, hj, rfl⟩ := hcond o hc; rw [hnew j hj] at h; cases h)]; exact h
      · show cap2 o = _
        simp only [cap2]
        rw [if_neg (fun hc => by obtain ⟨j, hj, rfl⟩ := hcond o hc; rw [hnew j hj] at h; cases h)]
    have hμn : ∀ o, get (updBack bk objs' 0 ++ deadRows is os) o = none → g2.μ o = g.μ o ∧ g2.cap o = g.cap o := by
      intro o h
      have : ¬ (fresh ≤ o ∧ get bk (o - fresh) = some o) := fun hc => hmemU _ _ hc.2 h
      exact ⟨by show μ2 o = _; simp only [μ2]; rw [if_neg this], by show cap2 o = _; simp only [cap2]; rw [if_neg this]⟩
    have hchg : Chg g st.objs w (updBack bk objs' 0 ++ deadRows is os) (fun b => ∃ (j i : Nat), is[j]? = some i ∧ g.μ i = some b) g2 w' := by
      refine ⟨hF.os, hF.tape, hF.output, hF.size, fun b hb hB => hF.block b hb (fun h => hB ((hfoot b).1 h)), hle, fun o h => (hμn o h).1, fun o h => (hμn o h).2, fun o ob b h hl hu hμ => ?_, fun b k v h => ?_, fun o ob h => ?_, fun o ob b h hl hμ => ?_, fun o o' ob ob' b h h' hl hl' hne hμ => ?_, hm.shut, fun o b h hμ => ?_⟩
      · rintro ⟨j, i, hi, hb⟩
        obtain ⟨x, hx, hx'⟩ := hoi j i hi
        have hne : i ≠ o := fun e => by subst e; exact hmemD j i x hi hx hu
        exact hr.mem.sep i o x ob b hx' h (hkinds j x hx).1 hl hne hb hμ
      · cases hg0 : g.h b k with
        | some v' => exact .inl (by rw [← hF.h b k v' hg0]; exact h)
        | none =>
          rcases hF.hnew b k v h hg0 with h | h
          · exact .inr (.inr h)
          · exact .inr (.inl ((hfoot b).1 h))
      · rcases hupd o ob h with ⟨j, x, h1, h2, rfl⟩ | rfl
        · have hro := hm.obj j x (hgn j x h1)
          cases x with
          | dead => trivial
          | var e l =>
            obtain ⟨b, cur, q1, q2, q3, q4⟩ := hro
            exact ⟨b, cur, by rw [(hμj j o h2).1]; exact q1, q2, q3.ren hbkren, q4⟩
          | row e sz =>
            intro b hb
            rw [(hμj j o h2).1] at hb
            obtain ⟨cur, q1, q2, q3⟩ := hro b hb
            exact ⟨cur, q1, by rw [(hμj j o h2).2]; exact q2, by rw [(hμj j o h2).2]; exact q3⟩
        · trivial
      · rcases hupd o ob h with ⟨j, x, h1, h2, rfl⟩ | rfl
        · rw [hlive] at hl
          rw [(hμj j o h2).1] at hμ
          rcases hF.own j x b (hgn j x h1) hl hμ with h | h
          · exact .inr h
          · exact .inl ((hfoot b).1 h)
        · simp [O.live] at hl
      · rcases hupd o ob h with ⟨j, x, h1, h2, rfl⟩ | rfl
        · rcases hupd o' ob' h' with ⟨j', x', h1', h2', rfl⟩ | rfl
          · rw [hlive] at hl hl'
            rw [(hμj j o h2).1] at hμ
            rw [(hμj j' o' h2').1]
            refine hm.sep j j' x x' b (hgn j x h1) (hgn j' x' h1') hl hl' (fun e => hne ?_) hμ
            subst e
            rw [h2] at h2'; simpa using h2'
          · simp [O.live] at hl'
        · simp [O.live] at hl
      · by_cases hc : fresh ≤ o ∧ get bk (o - fresh) = some o
        · have : g'.μ (o - fresh) = some b := by rw [← (hμj _ o hc.2).1]; exact hμ
          exact hm.blk _ b this
        · have : g.μ o = some b := by
            have h2 : g2.μ o = g.μ o := by show μ2 o = _; simp only [μ2]; rw [if_neg hc]
            rw [← h2]; exact hμ
          exact Nat.lt_of_lt_of_le (hr.mem.blk o b this) hF.size
    have hdrop := dropK_ok (st := st) (is := is) (ks := ks) (full := updBack bk objs' 0 ++ deadRows is os) (fun j i hj hi => by
      obtain ⟨t, l, hl⟩ := keepVars_ok hkv j hj
      obtain ⟨y, hy, hy'⟩ := hoi j i hi
      rw [hl] at hy; simp at hy; subst hy
      have hbkj : get bk j = some i := (hbk j i).2 ⟨by have := (List.getElem?_eq_some_iff.1 hl).1; omega, by simp [tgt, hi, hl]⟩
      have hkj := keepP_ok hkp j hj
      cases hg : get (updBack bk objs' 0 ++ deadRows is os) i with
      | none => exact absurd hg (hmemU j i hbkj)
      | some ob =>
        have hj' : ∀ j', get bk j' = some i → j' = j := fun j' h' => by
          obtain ⟨hlt, e⟩ := (hbk j' i).1 h'
          rcases htgt j' with ⟨i', l', q1, q2, q3, q4⟩ | ⟨q4, _⟩
          · rw [q4] at e; subst e; exact hnd j' j _ q1 hi
          · rw [q4] at e; subst e; rw [hfresh j' hlt] at hy'; cases hy'
        rw [hy']
        rcases List.mem_append.1 (get_mem hg) with h | h
        · obtain ⟨j', x, h1, h2, h3⟩ := mem_updBack h
          have := hj' j' (by simpa using h2)
          subst this
          rw [h1, hl] at hkj
          simp at hkj
          rw [h3, hkj]
        · obtain ⟨j', x, h1, h2, h3⟩ := mem_deadRows' h
          have := hnd j' j i h1 hi
          subst this
          rw [hl] at h2; simp at h2; subst h2; simp [O.isVar] at h3)
    have hfull : Beh cx g st { val := r'.ren bk, upd := updBack bk objs' 0 ++ deadRows is os, reads := is } v g2 w' := by
      refine ⟨hle, hv.ren hbkren, hchg.rm hr.mem, hchg.fr hf (fun b hb => ?_) (fun o t l ho h => ?_), fun o h => (hμn o h).1⟩
      · obtain ⟨j, i, hi, hb⟩ := hb
        obtain ⟨x, hx, hx'⟩ := hoi j i hi
        exact hf.own i x b hx' (hkinds j x hx).1 hb
      · rcases hupd o _ h with ⟨j, x, h1, h2, h3⟩ | h3
        · obtain ⟨hj, rfl⟩ := (hbk j o).1 h2
          rcases htgt j with ⟨i, l', q1, q2, q3, q4⟩ | ⟨q4, _⟩
          · rw [q4] at h2 ⊢
            refine ⟨⟨_, _, q3⟩, ?_, ?_⟩
            · rw [(hμj j i h2).1, (hkeep j i l' q1 q2).1]
            · rw [(hμj j i h2).2, (hkeep j i l' q1 q2).2]
          · rw [q4] at ho; omega
        · cases h3
    refine ⟨v, g2, rfl, hfull.le, hfull.val, ⟨fun o ob h => hfull.mem.obj o ob (by rw [← hdrop.1]; exact h), fun o o' ob ob' b h h' => hfull.mem.sep o o' ob ob' b (by rw [← hdrop.1]; exact h) (by rw [← hdrop.1]; exact h'), hfull.mem.shut, hfull.mem.blk⟩,
      ⟨hfull.fr.os, hfull.fr.tape, hfull.fr.output, hfull.fr.size, hfull.fr.block, hfull.fr.h, hfull.fr.hnew, fun o ob b h => hfull.fr.own o ob b (by rw [← hdrop.1]; exact h), fun j t l hj h => hfull.fr.keep j t l hj (by rw [← hdrop.1]; exact h)⟩, fun o h => ?_⟩
    rcases hdrop.2 o h with h | ⟨x, h⟩
    · exact (hμn o h).1
    · show μ2 o = _
      simp only [μ2]
      rw [if_neg (hold o x h)]

end
end Go.Abs
