/- A region that draws its order: if what is not put in order does not meet, every order comes to the same. -/
import Derived.Test.YtoioflodpmideaaAbs16
namespace Go.Abs

/-- A step of a region's run. -/
structure Sp where
  o : Oper
  e : Eff
  ps : List Prop

def foldE (D : Nat → Bool) : Nat → List Sp → St → St
  | _, [], s => s
  | i, x :: r, s => foldE D (i + 1) r (if D i then s.put x.o.dst x.e else s)

inductive Loc where
  | slot (t : Nat)
  | obj (o : Nat)

def look (s : St) : Loc → Option (V ⊕ O)
  | .slot t => (get s.slots t).map .inl
  | .obj o => (get s.objs o).map .inr

def Sp.writes (x : Sp) : Loc → Prop
  | .slot t => x.o.dst = some t
  | .obj o => o ∈ x.e.upd.map (·.1)

theorem get_some_of_mem {α : Type} : ∀ {l : List (Nat × α)} {o : Nat}, o ∈ l.map (·.1) → ∃ x, get l o = some x := by
  intro l
  induction l with
  | nil => intro o h; simp at h
  | cons p r ih =>
    intro o h
    obtain ⟨j, y⟩ := p
    rw [get_cons]
    by_cases e : j = o
    · exact ⟨y, by rw [if_pos e]⟩
    · rw [if_neg e]
      simp only [List.map_cons, List.mem_cons] at h
      rcases h with h | h
      · exact absurd h.symm e
      · exact ih h

theorem get_none_of_not_mem {α : Type} {l : List (Nat × α)} {o : Nat} (h : o ∉ l.map (·.1)) : get l o = none := by
  cases hg : get l o with
  | none => rfl
  | some x => exact absurd (List.mem_map.2 ⟨(o, x), get_mem hg, rfl⟩) h

theorem look_put_not {x : Sp} {s : St} {c : Loc} (h : ¬ x.writes c) : look (s.put x.o.dst x.e) c = look s c := by
  cases c with
  | slot t =>
    simp only [look, St.put]
    cases hd : x.o.dst with
    | none => rfl
    | some d =>
      have : d ≠ t := fun e => h (by simp [Sp.writes, hd, e])
      dsimp only
      rw [get_cons, if_neg this]
  | obj o =>
    simp only [look, St.put]
    rw [get_append_none (get_none_of_not_mem h)]

theorem look_put {x : Sp} {s s' : St} {c : Loc} (h : x.writes c) : look (s.put x.o.dst x.e) c = look (s'.put x.o.dst x.e) c := by
  cases c with
  | slot t =>
    simp only [Sp.writes] at h
    simp only [look, St.put, h]
    rw [get_cons, get_cons]; simp
  | obj o =>
    obtain ⟨y, hy⟩ := get_some_of_mem h
    simp only [look, St.put]
    rw [get_append_some hy, get_append_some hy]

theorem foldE_agree {c : Loc} {D D' : Nat → Bool} : ∀ (E : List Sp) (i : Nat) (s s' : St), (∀ (k : Nat) x, E[k]? = some x → x.writes c → D (i + k) = D' (i + k)) → look s c = look s' c → look (foldE D i E s) c = look (foldE D' i E s') c := by
  intro E
  induction E with
  | nil => intro i s s' _ h; exact h
  | cons x r ih =>
    intro i s s' hD h
    simp only [foldE]
    refine ih (i + 1) _ _ (fun k y hk hw => by have := hD (k + 1) y (by simpa using hk) hw; rw [show i + 1 + k = i + (k + 1) by omega]; exact this) ?_
    by_cases hw : x.writes c
    · have e := hD 0 x rfl hw
      rw [Nat.add_zero] at e
      rw [← e]
      cases D i
      · exact h
      · exact look_put hw
    · have h1 : ∀ b : Bool, look (if b = true then s.put x.o.dst x.e else s) c = look s c := fun b => by cases b; rfl; exact look_put_not hw
      have h2 : ∀ b : Bool, look (if b = true then s'.put x.o.dst x.e else s') c = look s' c := fun b => by cases b; rfl; exact look_put_not hw
      rw [h1, h2, h]

theorem foldE_none {D : Nat → Bool} : ∀ (E : List Sp) (i : Nat) (s : St), (∀ k, k < E.length → D (i + k) = false) → foldE D i E s = s := by
  intro E
  induction E with
  | nil => intro i s _; rfl
  | cons x r ih =>
    intro i s h
    simp only [foldE]
    have := h 0 (by simp)
    rw [Nat.add_zero] at this
    rw [this]
    exact ih (i + 1) s fun k hk => by rw [show i + 1 + k = i + (k + 1) by omega]; exact h (k + 1) (by simp; omega)

/-- The last that writes. -/
theorem foldE_last {c : Loc} {D : Nat → Bool} : ∀ (E : List Sp) (i : Nat) (s t : St) (k : Nat) (x : Sp), E[k]? = some x → x.writes c → D (i + k) = true → (∀ (j : Nat) y, k < j → E[j]? = some y → D (i + j) = true → ¬ y.writes c) →
    look (foldE D i E s) c = look (t.put x.o.dst x.e) c := by
  intro E
  induction E with
  | nil => intro i s t k x h; simp at h
  | cons z r ih =>
    intro i s t k x h hw hD hl
    simp only [foldE]
    cases k with
    | zero =>
      simp at h; subst h
      rw [Nat.add_zero] at hD
      rw [hD]
      simp only [if_true]
      have : look (foldE D (i + 1) r (s.put z.o.dst z.e)) c = look (foldE (fun _ => false) (i + 1) r (s.put z.o.dst z.e)) c := by
        refine foldE_agree r (i + 1) _ _ (fun j y hj hy => ?_) rfl
        cases hd : D (i + 1 + j) with
        | false => rfl
        | true => exact absurd hy (hl (j + 1) y (by omega) (by simpa using hj) (by rw [← hd]; congr 1; omega))
      rw [this, foldE_none r (i + 1) _ (fun _ _ => rfl)]
      exact look_put hw
    | succ k =>
      simp at h
      exact ih (i + 1) _ t k x h hw (by rw [← hD]; congr 1; omega) (fun j y hj hy hd => hl (j + 1) y (by omega) (by simpa using hy) (by rw [← hd]; congr 1; omega))

theorem foldE_meta {D : Nat → Bool} : ∀ (E : List Sp) (i : Nat) (s : St), (foldE D i E s).next = s.next ∧ (foldE D i E s).size = s.size ∧ (foldE D i E s).k = s.k := by
  intro E
  induction E with
  | nil => intro i s; exact ⟨rfl, rfl, rfl⟩
  | cons x r ih =>
    intro i s
    simp only [foldE]
    have := ih (i + 1) (if D i = true then s.put x.o.dst x.e else s)
    cases hd : D i <;> simp only [hd] at this ⊢ <;> exact this

section
variable {P : Program} {L : Lay} {cx : Cx}

theorem In.congr {g : Gh} {s s' : St} {a : Act} {w : World} (h : In cx g s a w) (hl : ∀ c, look s' c = look s c) (hn : s'.next = s.next) (hsz : s'.size = s.size) (hk : s'.k = s.k) : In cx g s' a w := by
  have hs : ∀ t, get s'.slots t = get s.slots t := fun t => by
    have := hl (.slot t)
    simp only [look] at this
    cases h1 : get s'.slots t <;> cases h2 : get s.slots t <;> simp [h1, h2] at this ⊢
    exact this
  have ho : ∀ t, get s'.objs t = get s.objs t := fun t => by
    have := hl (.obj t)
    simp only [look] at this
    cases h1 : get s'.objs t <;> cases h2 : get s.objs t <;> simp [h1, h2] at this ⊢
    exact this
  have hr := h.rel
  have hf := h.fr
  exact ⟨⟨fun i v hv => hr.slot i v (by rw [← hs]; exact hv), ⟨fun o ob hv => hr.mem.obj o ob (by rw [← ho]; exact hv), fun o o' ob ob' b h1 h2 => hr.mem.sep o o' ob ob' b (by rw [← ho]; exact h1) (by rw [← ho]; exact h2), hr.mem.shut, hr.mem.blk⟩,
    fun o h1 h2 => hr.fresh o (by rw [← hn]; exact h1) (by rw [← ho]; exact h2), hr.defers, by rw [hsz]; exact hr.size⟩,
    ⟨hf.os, hf.tape, hf.output, hf.size, hf.block, hf.h, hf.hnew, fun o ob b h1 => hf.own o ob b (by rw [← ho]; exact h1), fun j t l hj h1 => hf.keep j t l hj (by rw [← ho]; exact h1)⟩, by rw [hk]; exact h.k, by rw [hk, hn]; exact h.le⟩

/-- What a run in the text's order was. -/
theorem runA_steps {H : Ctr} {base : Nat} {tbl : List (Nat × Orc)} {reps : List (Nat × V)} {all : List Oper} : ∀ (l : List Oper) (i : Nat) (st st' : St) (ps : List Prop) (fs : List Foot),
    runA H L base tbl reps all i l st = some (st', ps, fs) → ∃ E : List Sp, E.map (·.o) = l ∧ st' = foldE (fun _ => true) i E st ∧ (AllP ps → ∀ x ∈ E, AllP x.ps) ∧ fs.length = l.length ∧
      ∀ (k : Nat) x, E[k]? = some x → stepA H L base tbl reps all (i + k) x.o (foldE (fun j => decide (j < i + k)) i E st) = some (x.e, x.ps) ∧ freshOk base (i + k) (foldE (fun j => decide (j < i + k)) i E st) x.e = true ∧ dstOk st x.o.dst = true ∧
        fs[k]? = some ⟨i + k, x.o.dst, slotsRead all x.o, x.e.reads, x.e.upd.map (·.1)⟩ := by
  intro l
  induction l with
  | nil =>
    intro i st st' ps fs h
    simp only [runA, Option.some.injEq, Prod.mk.injEq] at h
    obtain ⟨rfl, rfl, rfl⟩ := h
    exact ⟨[], rfl, rfl, by simp, rfl, fun k x h => by simp at h⟩
  | cons o r ih =>
    intro i st st' ps fs h
    simp only [runA] at h
    split at h
    · rename_i e p hs
      split at h
      · rename_i hc
        simp only [Bool.and_eq_true] at hc
        split at h
        · rename_i st1 ps1 fs1 hr
          simp only [Option.some.injEq, Prod.mk.injEq] at h
          obtain ⟨rfl, rfl, rfl⟩ := h
          obtain ⟨E, h1, h2, h3, h4, h5⟩ := ih (i + 1) _ _ _ _ hr
          refine ⟨⟨o, e, p⟩ :: E, by simp [h1], by simp only [foldE, if_true]; exact h2, fun hp x hx => ?_, by simp [h4], fun k x hx => ?_⟩
          · obtain ⟨q1, q2⟩ := AllP.append.1 hp
            simp only [List.mem_cons] at hx
            rcases hx with rfl | hx
            · exact q1
            · exact h3 q2 x hx
          · cases k with
            | zero =>
              simp at hx; subst hx
              have e0 : foldE (fun j => decide (j < i + 0)) i (⟨o, e, p⟩ :: E) st = st := foldE_none _ _ _ fun k hk => by simp
              rw [e0]
              exact ⟨hs, hc.1, hc.2, by simp⟩
            | succ k =>
              simp at hx
              obtain ⟨q1, q2, q3, q4⟩ := h5 k x hx
              have e1 : i + 1 + k = i + (k + 1) := by omega
              have e0 : foldE (fun j => decide (j < i + (k + 1))) i (⟨o, e, p⟩ :: E) st = foldE (fun j => decide (j < i + (k + 1))) (i + 1) E (st.put o.dst e) := by
                simp only [foldE]
                rw [if_pos (by simp)]
              rw [e0]
              rw [e1] at q1 q2 q4
              exact ⟨q1, q2, q3, by simpa using q4⟩
        · cases h
      · cases h
    · cases h

/-- the operations that an operation waits for -/
def edgesOn (o : Oper) : List Nat := o.after.toList.filterMap fun e => if Region.binds .any e then some e.on else none

def predsGo : List Oper → List (List Nat) → List (List Nat)
  | [], acc => acc
  | o :: r, acc => predsGo r (acc ++ [edgesOn o ++ (edgesOn o).flatMap fun j => acc.getD j []])

theorem predsGo_length : ∀ (l : List Oper) (acc : List (List Nat)), (predsGo l acc).length = acc.length + l.length := by
  intro l
  induction l with
  | nil => intro acc; rfl
  | cons o r ih => intro acc; simp only [predsGo, ih]; simp; omega

theorem predsGo_old : ∀ (l : List Oper) (acc : List (List Nat)) (k : Nat), k < acc.length → (predsGo l acc)[k]? = acc[k]? := by
  intro l
  induction l with
  | nil => intro acc k _; rfl
  | cons o r ih =>
    intro acc k hk
    simp only [predsGo]
    rw [ih _ k (by simp; omega), List.getElem?_append_left hk]

theorem predsGo_new : ∀ (l : List Oper) (acc : List (List Nat)) (k : Nat) (o : Oper), l[k]? = some o → (predsGo l acc)[acc.length + k]? = some (edgesOn o ++ (edgesOn o).flatMap fun j => ((predsGo l acc).take (acc.length + k)).getD j []) := by
  intro l
  induction l with
  | nil => intro acc k o h; simp at h
  | cons x r ih =>
    intro acc k o h
    simp only [predsGo]
    cases k with
    | zero =>
      simp at h; subst h
      rw [Nat.add_zero, predsGo_old _ _ _ (by simp), List.getElem?_append_right (Nat.le_refl _)]
      simp only [Nat.sub_self, List.getElem?_cons_zero, Option.some.injEq]
      congr 1
      congr 1
      funext j
      have : (predsGo r (acc ++ [edgesOn x ++ (edgesOn x).flatMap fun j => acc.getD j []])).take acc.length = acc := by
        apply List.ext_getElem?
        intro i
        rw [List.getElem?_take]
        by_cases hi : i < acc.length
        · rw [if_pos hi, predsGo_old _ _ _ (by simp; omega), List.getElem?_append_left hi]
        · rw [if_neg hi, List.getElem?_eq_none (by omega)]
      rw [this]
    | succ k =>
      simp at h
      have := ih (acc ++ [edgesOn x ++ (edgesOn x).flatMap fun j => acc.getD j []]) k o h
      simp only [List.length_append, List.length_cons, List.length_nil, Nat.zero_add] at this
      rw [show acc.length + (k + 1) = acc.length + 1 + k by omega]
      exact this

/-- Whatever an operation waits for, by however many steps, has been done. -/
theorem preds_done {ops : List Oper} {D : Nat → Bool} (hD : ∀ (k : Nat) o, ops[k]? = some o → D k = true → ∀ j ∈ edgesOn o, D j = true) :
    ∀ (k : Nat) (o : Oper) (p : List Nat), ops[k]? = some o → (∀ j ∈ edgesOn o, D j = true) → (predsGo ops [])[k]? = some p → ∀ j ∈ p, D j = true := by
  intro k
  induction k using Nat.strongRecOn with
  | _ k ih =>
    intro o p ho he hp j hj
    have := predsGo_new ops [] k o ho
    simp only [List.length_nil, Nat.zero_add] at this
    rw [this] at hp
    simp only [Option.some.injEq] at hp
    subst hp
    rcases List.mem_append.1 hj with h | h
    · exact he j h
    · obtain ⟨d, hd, hj'⟩ := List.mem_flatMap.1 h
      rw [List.getD_eq_getElem?_getD, List.getElem?_take] at hj'
      split at hj'
      · rename_i hdk
        cases hpd : (predsGo ops [])[d]? with
        | none => rw [hpd] at hj'; simp at hj'
        | some p' =>
          rw [hpd] at hj'
          simp at hj'
          have hdl : d < ops.length := by
            have := (List.getElem?_eq_some_iff.1 hpd).1
            rw [predsGo_length] at this; simpa using this
          exact ih d hdk ops[d] p' (by simp) (hD d _ (by simp) (he d hd)) hpd j hj'
      · simp at hj'

def disj : List Nat → List Nat → Bool
  | [], _ => true
  | i :: r, l => !memB i l && disj r l

theorem disj_ok : ∀ {l m : List Nat}, disj l m = true → ∀ i, i ∈ l → i ∉ m := by
  intro l
  induction l with
  | nil => intro m _ i h; simp at h
  | cons j r ih =>
    intro m h i hi hm
    simp only [disj, Bool.and_eq_true, Bool.not_eq_true'] at h
    simp only [List.mem_cons] at hi
    rcases hi with rfl | hi
    · rw [memB_iff.2 hm] at h; cases h.1
    · exact ih h.2 i hi hm

/-- Two operations' steps do not meet. -/
def apartF (f g : Foot) : Bool :=
  disj f.dst.toList g.slots && disj f.dst.toList g.dst.toList && disj g.dst.toList f.slots && disj f.wo g.ro && disj f.wo g.wo && disj g.wo f.ro

/-- no number of the one's own range is written by the other -/
def outOf (base : Nat) (f g : Foot) : Bool := g.wo.all fun j => !(Nat.ble (base + 16 * f.idx) j && Nat.blt j (base + 16 * f.idx + 16))

def rowOk (base : Nat) (f : Foot) : List Foot → List (List Nat) → Bool
  | g :: fs, p :: ps => (memB f.idx p || (apartF f g && outOf base f g)) && outOf base g f && rowOk base f fs ps
  | _, _ => true

/-- Whatever is not put in order does not meet. -/
def drawOk (base : Nat) : List Foot → List (List Nat) → Bool
  | f :: fs, _ :: ps => rowOk base f fs ps && drawOk base fs ps
  | _, _ => true

theorem rowOk_ok {base : Nat} {f : Foot} : ∀ {fs : List Foot} {ps : List (List Nat)}, rowOk base f fs ps = true → ∀ (k : Nat) g p, fs[k]? = some g → ps[k]? = some p → (f.idx ∈ p ∨ (apartF f g = true ∧ outOf base f g = true)) ∧ outOf base g f = true := by
  intro fs
  induction fs with
  | nil => intro ps _ k g p h; simp at h
  | cons g fs ih =>
    intro ps h k g' p' hg hp
    cases ps with
    | nil => simp at hp
    | cons p ps =>
      simp only [rowOk, Bool.and_eq_true, Bool.or_eq_true] at h
      cases k with
      | zero =>
        simp at hg hp; subst hg; subst hp
        refine ⟨?_, h.1.2⟩
        rcases h.1.1 with h | h
        · exact .inl (memB_iff.1 h)
        · exact .inr h
      | succ k => simp at hg hp; exact ih h.2 k g' p' hg hp

theorem drawOk_ok {base : Nat} : ∀ {fs : List Foot} {ps : List (List Nat)}, drawOk base fs ps = true → ∀ (i k : Nat) f g p, i < k → fs[i]? = some f → fs[k]? = some g → ps[k]? = some p → (f.idx ∈ p ∨ (apartF f g = true ∧ outOf base f g = true)) ∧ outOf base g f = true := by
  intro fs
  induction fs with
  | nil => intro ps _ i k f g p _ h; simp at h
  | cons f fs ih =>
    intro ps h i k f' g' p' hik hf hg hp
    cases ps with
    | nil => simp at hp
    | cons p ps =>
      simp only [drawOk, Bool.and_eq_true] at h
      cases k with
      | zero => omega
      | succ k =>
        simp at hg hp
        cases i with
        | zero => simp at hf; subst hf; exact rowOk_ok h.1 k g' p' hg hp
        | succ i => simp at hf; exact ih h.2 i k f' g' p' (by omega) hf hg hp

end
end Go.Abs
