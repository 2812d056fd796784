/- A region that draws its order: the rule. -/
import Derived.Test.YtoioflodpmideaaAbs17
namespace Go.Abs

section
variable {P : Program} {L : Lay} {cx : Cx}

theorem In.drew {g : Gh} {s : St} {a : Act} {w : World} (h : In cx g s a w) : In cx g s a { w with drawn := w.drawn + 1 } :=
  ⟨⟨h.rel.slot, ⟨h.rel.mem.obj, h.rel.mem.sep, h.rel.mem.shut, h.rel.mem.blk⟩, h.rel.fresh, h.rel.defers, h.rel.size⟩,
    ⟨h.fr.os, h.fr.tape, h.fr.output, h.fr.size, h.fr.block, h.fr.h, h.fr.hnew, h.fr.own, h.fr.keep⟩, h.k, h.le⟩

/-- how many are not yet listed -/
def left (l : List Bool) : Nat := (l.filter fun b => !b).length

theorem left_set : ∀ {l : List Bool} {i : Nat}, l[i]? = some false → left (l.set i true) + 1 = left l := by
  intro l
  induction l with
  | nil => intro i h; simp at h
  | cons b r ih =>
    intro i h
    cases i with
    | zero => simp at h; subst h; simp [left]
    | succ i =>
      simp at h
      have := ih h
      cases b <;> simp [left] at this ⊢ <;> omega

theorem left_zero : ∀ {l : List Bool}, left l = 0 → ∀ (i : Nat) b, l[i]? = some b → b = true := by
  intro l
  induction l with
  | nil => intro _ i b h; simp at h
  | cons c r ih =>
    intro h i b hb
    cases c with
    | false => simp [left] at h
    | true =>
      cases i with
      | zero => simp at hb; exact hb
      | succ i => simp at hb; exact ih (by simpa [left] using h) i b hb

theorem stepA_congr {H : Ctr} {base : Nat} {tbl : List (Nat × Orc)} {reps : List (Nat × V)} {all : List Oper} {i : Nat} {o : Oper} {s s' : St} {e : Eff} {ps : List Prop} (hx : stepA H L base tbl reps all i o s = some (e, ps))
    (hs : ∀ t, t ∈ slotsRead all o → get s'.slots t = get s.slots t) (ho : ∀ p, p ∈ e.reads → get s'.objs p = get s.objs p) (hn : ∀ j, j < 16 → get s.objs (base + 16 * i + j) = none → get s'.objs (base + 16 * i + j) = none) :
    stepA H L base tbl reps all i o s' = some (e, ps) := by
  have hw : wantedA s' all o = wantedA s all o := by
    unfold wantedA
    cases hg : o.guard with
    | none => rfl
    | some jw =>
      obtain ⟨j, want⟩ := jw
      dsimp only
      cases hj : all[j]? with
      | none => rfl
      | some oj =>
        dsimp only
        cases hd : oj.dst with
        | none => rfl
        | some d =>
          dsimp only
          rw [hs d (by simp [slotsRead, hg, hj, hd])]
  have hv : ∀ ty x, x ∈ o.op.operands.toList → s'.val L ty x = s.val L ty x := by
    intro ty x hx
    cases x with
    | tmp t =>
      simp only [St.val]
      refine hs t ?_
      simp only [slotsRead, tmpsOf, List.mem_append, List.mem_filterMap]
      exact .inl ⟨.tmp t, hx, rfl⟩
    | _ => rfl
  unfold stepA at hx ⊢
  rw [hw]
  split at hx
  · split at hx
    · rename_i e' p hop
      have hr : e'.reads = e.reads := by
        split at hx
        · simp only [Option.some.injEq, Prod.mk.injEq] at hx; rw [← hx.1]
        · simp only [Option.some.injEq, Prod.mk.injEq] at hx; rw [← hx.1]; cases Orc.isDat (get tbl i) <;> rfl
      rw [opA_congr hop ⟨hv, fun p hp => ho p (by rw [← hr]; exact hp), hn⟩]
      exact hx
    · cases hx
  · exact hx
  · cases hx

theorem freshOk_congr {base i : Nat} {s s' : St} {e : Eff} (h : freshOk base i s e = true) (hn : ∀ j, j < 16 → get s.objs (base + 16 * i + j) = none → get s'.objs (base + 16 * i + j) = none) : freshOk base i s' e = true := by
  unfold freshOk at h ⊢
  rw [List.all_eq_true] at h ⊢
  intro x hx
  have := h x hx
  dsimp only at this ⊢
  cases hc : (Nat.ble (base + 16 * i) x.1 && Nat.blt x.1 (base + 16 * i + 16)) with
  | false => rw [hc] at this; exact this
  | true =>
    rw [hc] at this
    simp only [Bool.and_eq_true] at hc
    have h1 := Nat.le_of_ble_eq_true hc.1
    have h2 : x.1 + 1 ≤ base + 16 * i + 16 := Nat.le_of_ble_eq_true hc.2
    simp only [cond_true, Option.isNone_iff_eq_none] at this ⊢
    have := hn (x.1 - (base + 16 * i)) (by omega) (by rw [← this]; congr 1; omega)
    rw [← this]; congr 1; omega

theorem look_slot {s s' : St} {t : Nat} (h : look s (.slot t) = look s' (.slot t)) : get s.slots t = get s'.slots t := by
  simp only [look] at h
  cases h1 : get s.slots t <;> cases h2 : get s'.slots t <;> simp [h1, h2] at h ⊢
  exact h

theorem look_obj {s s' : St} {t : Nat} (h : look s (.obj t) = look s' (.obj t)) : get s.objs t = get s'.objs t := by
  simp only [look] at h
  cases h1 : get s.objs t <;> cases h2 : get s'.objs t <;> simp [h1, h2] at h ⊢
  exact h

def downOk : List Oper → Nat → Bool
  | [], _ => true
  | o :: r, k => (edgesOn o).all (fun j => Nat.blt j k) && downOk r (k + 1)

theorem downOk_ok : ∀ {l : List Oper} {k : Nat}, downOk l k = true → ∀ (i : Nat) o, l[i]? = some o → ∀ j ∈ edgesOn o, j < k + i := by
  intro l
  induction l with
  | nil => intro k _ i o h; simp at h
  | cons x r ih =>
    intro k h i o ho j hj
    simp only [downOk, Bool.and_eq_true, List.all_eq_true] at h
    cases i with
    | zero => simp at ho; subst ho; exact Nat.le_of_ble_eq_true (h.1 j hj)
    | succ i => simp at ho; have := ih h.2 i o ho j hj; omega

theorem aw_draw_all (hL : LOk P L) (hmix : P.follows .mixedOrders = true) {id : Nat} {ops : Array Oper} {tbl : List (Nat × Orc)} {reps : List (Nat × V)} {st st1 : St} {ps : List Prop} {fs : List Foot} {Q : Exit → St → Prop}
    (hx : runA (Has P) L st.next tbl reps ops.toList 0 ops.toList st = some (st1, ps, fs)) (hd : (drawOk st.next fs (predsGo ops.toList []) && downOk ops.toList 0) = true) 
    (hp : AllP ps) (hQ : ∀ g a w, In cx g st1 a w → ∃ g' st', Q .normal st' ∧ In cx g' st' a w) : AW P cx (.region id ops true) st Q := by
  intro g a w hi
  refine wp_region_any hmix ?_
  simp only [Bool.and_eq_true] at hd
  obtain ⟨hd, hdown⟩ := hd
  have hdown := downOk_ok hdown
  obtain ⟨E, hE, hst1, hpE, hfl, hsteps⟩ := runA_steps _ _ _ _ _ _ hx
  have hpE := hpE hp
  have hlen : E.length = ops.size := by rw [← Array.length_toList, ← hE]; simp
  have hop : ∀ (i : Nat) x, E[i]? = some x → ops[i]? = some x.o := by
    intro i x hx
    have : ops.toList[i]? = some x.o := by rw [← hE]; simp [hx]
    simpa using this
  have hfoot : ∀ (i : Nat) x, E[i]? = some x → fs[i]? = some ⟨i, x.o.dst, slotsRead ops.toList x.o, x.e.reads, x.e.upd.map (·.1)⟩ := fun i x hx => by
    have := (hsteps i x hx).2.2.2
    rw [Nat.zero_add] at this; exact this
  have hpr : ∀ i, i < ops.size → ∃ p, (predsGo ops.toList [])[i]? = some p := fun i hi => by
    have : i < (predsGo ops.toList []).length := by rw [predsGo_length]; simpa using hi
    exact ⟨_, List.getElem?_eq_getElem this⟩
  -- two that are in no order do not meet
  have meet : ∀ (i k : Nat) x y p, i < k → E[i]? = some x → E[k]? = some y → (predsGo ops.toList [])[k]? = some p → i ∉ p →
      (∀ c, x.writes c → (∀ t, c = .slot t → t ∉ slotsRead ops.toList y.o) ∧ (∀ t, c = .obj t → t ∉ y.e.reads) ∧ ¬ y.writes c) ∧ (∀ c, y.writes c → (∀ t, c = .slot t → t ∉ slotsRead ops.toList x.o) ∧ (∀ t, c = .obj t → t ∉ x.e.reads)) ∧
        (∀ t, y.writes (.obj t) → ¬ (st.next + 16 * i ≤ t ∧ t < st.next + 16 * i + 16)) := by
    intro i k x y p hik hx hy hp hnp
    obtain ⟨h1, h2⟩ := drawOk_ok hd i k _ _ p hik (hfoot i x hx) (hfoot k y hy) hp
    rcases h1 with h1 | ⟨h1, h3⟩
    · exact absurd h1 hnp
    · unfold apartF at h1
      simp only [Bool.and_eq_true] at h1
      obtain ⟨⟨⟨⟨⟨a1, a2⟩, a3⟩, a4⟩, a5⟩, a6⟩ := h1
      have a1 := disj_ok a1; have a2 := disj_ok a2; have a3 := disj_ok a3; have a4 := disj_ok a4; have a5 := disj_ok a5; have a6 := disj_ok a6
      refine ⟨fun c hc => ⟨fun t ht hm => ?_, fun t ht hm => ?_, fun hw => ?_⟩, fun c hc => ⟨fun t ht hm => ?_, fun t ht hm => ?_⟩, fun t ht hr => ?_⟩
      · subst ht; simp only [Sp.writes] at hc; exact a1 t (by simp [hc]) hm
      · subst ht; exact a4 t hc hm
      · cases c with
        | slot t => simp only [Sp.writes] at hc hw; exact a2 t (by simp [hc]) (by simp [hw])
        | obj t => exact a5 t hc hw
      · subst ht; simp only [Sp.writes] at hc; exact a3 t (by simp [hc]) hm
      · subst ht; exact a6 t hc hm
      · unfold outOf at h3
        rw [List.all_eq_true] at h3
        have := h3 t ht
        simp only [Bool.not_eq_true', Bool.and_eq_false_iff] at this
        rcases this with h | h
        · have : Nat.ble (st.next + 16 * i) t = true := Nat.ble_eq_true_of_le hr.1
          rw [this] at h; cases h
        · have : Nat.blt t (st.next + 16 * i + 16) = true := Nat.ble_eq_true_of_le hr.2
          rw [this] at h; cases h
  have later : ∀ (i k : Nat) x y p, i < k → E[i]? = some x → E[k]? = some y → (predsGo ops.toList [])[k]? = some p → ∀ t, x.writes (.obj t) → ¬ (st.next + 16 * k ≤ t ∧ t < st.next + 16 * k + 16) := by
    intro i k x y p hik hx hy hp t ht hr
    obtain ⟨_, h3⟩ := drawOk_ok hd i k _ _ p hik (hfoot i x hx) (hfoot k y hy) hp
    unfold outOf at h3
    rw [List.all_eq_true] at h3
    have := h3 t ht
    simp only [Bool.not_eq_true', Bool.and_eq_false_iff] at this
    rcases this with h | h
    · have : Nat.ble (st.next + 16 * k) t = true := Nat.ble_eq_true_of_le hr.1
      rw [this] at h; cases h
    · have : Nat.blt t (st.next + 16 * k + 16) = true := Nat.ble_eq_true_of_le hr.2
      rw [this] at h; cases h
  let Q' : Exit → Act → World → Prop := fun e a' w' => ∃ g' st', Q e st' ∧ In cx g' st' a' w'
  -- at the end
  have done : ∀ (listed : Array Bool) (g : Gh) (a : Act) (w : World), (∀ i, i < ops.size → listed.getD i false = true) → In cx g (foldE (fun i => listed.getD i false) 0 E st) a w → Q' .normal a w := by
    intro listed g a w hall hi
    have h1 := hi.congr (s' := st1) (fun c => by
      rw [hst1]
      exact foldE_agree E 0 _ _ (fun k x hk _ => by rw [Nat.zero_add]; exact (hall k (by rw [← hlen]; exact (List.getElem?_eq_some_iff.1 hk).1)).symm) rfl)
      (by rw [hst1]; exact (foldE_meta E 0 st).1.trans (foldE_meta E 0 st).1.symm) (by rw [hst1]; exact (foldE_meta E 0 st).2.1.trans (foldE_meta E 0 st).2.1.symm) (by rw [hst1]; exact (foldE_meta E 0 st).2.2.trans (foldE_meta E 0 st).2.2.symm)
    exact hQ g a w h1
  have ready_nil : ∀ (listed : Array Bool), listed.size = ops.size → Region.ready .any ops listed = [] → ∀ i, i < ops.size → listed.getD i false = true := by
    intro listed hsz hnil i
    induction i using Nat.strongRecOn with
    | _ i ih =>
      intro hi
      cases hl : listed.getD i false with
      | true => rfl
      | false =>
        exfalso
        have hx : E[i]? = some E[i] := by simp
        have hmem : i ∈ Region.ready .any ops listed := by
          rw [mem_ready]
          refine ⟨?_, E[i].o, hop i _ hx, fun e he hb => ?_⟩
          · rw [Array.getD_eq_getD_getElem?] at hl ⊢
            rw [Array.getElem?_eq_getElem (by omega)] at hl ⊢
            simpa using hl
          · have hme : e.on ∈ edgesOn E[i].o := by
              simp only [edgesOn, List.mem_filterMap]
              exact ⟨e, by simpa using he, by rw [if_pos hb]⟩
            have := hdown i E[i].o (by have := hop i _ hx; simpa using this) e.on hme
            exact ih e.on (by omega) (by omega)
        rw [hnil] at hmem; simp at hmem
  have main : ∀ (fuel : Nat) (listed : Array Bool) (g : Gh) (a : Act) (w : World), listed.size = ops.size → left listed.toList ≤ fuel →
      (∀ (k : Nat) o, ops.toList[k]? = some o → listed.getD k false = true → ∀ j ∈ edgesOn o, listed.getD j false = true) → In cx g (foldE (fun i => listed.getD i false) 0 E st) a w → wpAny P .any ops Q' fuel listed a w := by
    intro fuel
    induction fuel with
    | zero =>
      intro listed g a w hsz hl hcl hi
      have hall : ∀ i, i < ops.size → listed.getD i false = true := fun i hi => by
        have h1 : listed.toList[i]? = some (listed[i]'(by omega)) := by simp [hsz, hi]
        have := left_zero (l := listed.toList) (by omega) i _ h1
        rw [Array.getD_eq_getD_getElem?, Array.getElem?_eq_getElem (by omega)]
        simpa using this
      refine ⟨?_, done listed g a w hall hi⟩
      cases hr : Region.ready .any ops listed with
      | nil => rfl
      | cons j r =>
        exfalso
        have hj : j ∈ Region.ready .any ops listed := by rw [hr]; simp
        obtain ⟨h1, o, ho, _⟩ := mem_ready.1 hj
        have hj' : j < ops.size := (Array.getElem?_eq_some_iff.1 ho).1
        have := hall j hj'
        rw [Array.getD_eq_getD_getElem?, Array.getElem?_eq_getElem (by omega)] at this h1
        simp at this h1
        rw [this] at h1; cases h1
    | succ fuel ih =>
      intro listed g a w hsz hl hcl hi
      refine ⟨fun hr => done listed g a w (ready_nil listed hsz hr) hi, fun i hir => ?_⟩
      obtain ⟨h1, o, ho, hdeps⟩ := mem_ready.1 hir
      have hio : i < ops.size := (Array.getElem?_eq_some_iff.1 ho).1
      have hil : listed[i]? = some false := by
        rw [Array.getD_eq_getD_getElem?, Array.getElem?_eq_getElem (by omega)] at h1
        rw [Array.getElem?_eq_getElem (by omega)]
        simpa using h1
      have hDi : listed.getD i false = false := by rw [Array.getD_eq_getD_getElem?, hil]; rfl
      have hEi : E[i]? = some E[i] := by simp
      have hoE : o = E[i].o := by have := hop i _ hEi; rw [ho] at this; simpa using this
      have hde : ∀ j ∈ edgesOn E[i].o, listed.getD j false = true := by
        intro j hj
        simp only [edgesOn, List.mem_filterMap] at hj
        obtain ⟨e, he, hej⟩ := hj
        split at hej
        · rename_i hb
          simp at hej; subst hej
          exact hdeps e (by rw [hoE]; simpa using he) hb
        · cases hej
      obtain ⟨pi, hpi⟩ := hpr i hio
      have hpi_done := preds_done (ops := ops.toList) (D := fun k => listed.getD k false) hcl i E[i].o pi (by have := hop i _ hEi; simpa using this) hde hpi
      have later_not : ∀ (k : Nat) y p, E[k]? = some y → (predsGo ops.toList [])[k]? = some p → i ∈ p → listed.getD k false = false := by
        intro k y p hy hp hip
        cases hk : listed.getD k false with
        | false => rfl
        | true =>
          have hky : ops.toList[k]? = some y.o := by have := hop k _ hy; simpa using this
          have := preds_done (ops := ops.toList) (D := fun k => listed.getD k false) hcl k y.o p hky (hcl k y.o hky hk) hp i hip
          rw [hDi] at this; cases this
      obtain ⟨q1, q2, q3, _⟩ := hsteps i E[i] hEi
      rw [Nat.zero_add] at q1 q2
      -- what it looks at is as it was
      have agree : ∀ c, (∀ (k : Nat) y p, E[k]? = some y → (predsGo ops.toList [])[k]? = some p → y.writes c → (k < i → k ∈ pi) ∧ (i < k → i ∈ p)) →
          look (foldE (fun k => listed.getD k false) 0 E st) c = look (foldE (fun k => decide (k < i)) 0 E st) c := by
        intro c hc
        refine foldE_agree E 0 _ _ (fun k y hk hw => ?_) rfl
        rw [Nat.zero_add]
        have hkl : k < ops.size := by rw [← hlen]; exact (List.getElem?_eq_some_iff.1 hk).1
        obtain ⟨p, hp⟩ := hpr k hkl
        obtain ⟨c1, c2⟩ := hc k y p hk hp hw
        rcases Nat.lt_trichotomy k i with hlt | heq | hgt
        · rw [hpi_done k (c1 hlt)]; simp [hlt]
        · subst heq; rw [hDi]; simp
        · rw [later_not k y p hk hp (c2 hgt)]; simp; omega
      have agree_slot : ∀ t, t ∈ slotsRead ops.toList E[i].o → get (foldE (fun k => listed.getD k false) 0 E st).slots t = get (foldE (fun k => decide (k < i)) 0 E st).slots t := by
        intro t ht
        refine look_slot (agree _ fun k y p hk hp hw => ⟨fun hlt => ?_, fun hgt => ?_⟩)
        · exact Decidable.byContradiction fun hn => ((meet k i y E[i] pi hlt hk hEi hpi hn).1 _ hw).1 t rfl ht
        · exact Decidable.byContradiction fun hn => ((meet i k E[i] y p hgt hEi hk hp hn).2.1 _ hw).1 t rfl ht
      have agree_obj : ∀ t, t ∈ E[i].e.reads → get (foldE (fun k => listed.getD k false) 0 E st).objs t = get (foldE (fun k => decide (k < i)) 0 E st).objs t := by
        intro t ht
        refine look_obj (agree _ fun k y p hk hp hw => ⟨fun hlt => ?_, fun hgt => ?_⟩)
        · exact Decidable.byContradiction fun hn => ((meet k i y E[i] pi hlt hk hEi hpi hn).1 _ hw).2.1 t rfl ht
        · exact Decidable.byContradiction fun hn => ((meet i k E[i] y p hgt hEi hk hp hn).2.1 _ hw).2 t rfl ht
      have agree_new : ∀ j, j < 16 → get (foldE (fun k => decide (k < i)) 0 E st).objs (st.next + 16 * i + j) = none → get (foldE (fun k => listed.getD k false) 0 E st).objs (st.next + 16 * i + j) = none := by
        intro j hj hnone
        rw [← hnone]
        refine look_obj (agree _ fun k y p hk hp hw => ⟨fun hlt => ?_, fun hgt => ?_⟩)
        · exact absurd ⟨by omega, by omega⟩ (later k i y E[i] pi hlt hk hEi hpi _ hw)
        · exact Decidable.byContradiction fun hn => (meet i k E[i] y p hgt hEi hk hp hn).2.2 _ hw ⟨by omega, by omega⟩
      have hstep := stepA_congr q1 agree_slot agree_obj agree_new
      have hfresh := freshOk_congr q2 agree_new
      have hmeta := foldE_meta (D := fun k => listed.getD k false) E 0 st
      have hgo := hop i _ hEi
      refine step_wp (base := st.next) hL hi (by rw [hmeta.1]; exact Nat.le_refl _) hgo hstep (hpE _ (List.getElem_mem _)) hfresh (by
        have := q3
        unfold dstOk at this ⊢
        rw [hmeta.2.1]; exact this) fun g' a' w' hi' => ?_
      have hset : ∀ k, (listed.setIfInBounds i true).getD k false = if k = i then true else listed.getD k false := by
        intro k
        rw [Array.getD_eq_getD_getElem?, Array.getElem?_setIfInBounds]
        by_cases e : i = k
        · subst e; simp [show i < listed.size by omega]
        · rw [if_neg e, if_neg (fun e' => e e'.symm), Array.getD_eq_getD_getElem?]
      refine ih _ g' a' w' (by simpa using hsz) ?_ ?_ ?_
      · have := left_set (l := listed.toList) (i := i) (by simpa using hil)
        simp only [Array.toList_setIfInBounds]
        omega
      · intro k o' ho' hk j hj
        rw [hset] at hk ⊢
        by_cases e : j = i
        · rw [if_pos e]
        · rw [if_neg e]
          by_cases e' : k = i
          · subst e'
            have : o' = E[k].o := by
              have h2 := hop k _ hEi
              have : ops.toList[k]? = some E[k].o := by simpa using h2
              rw [ho'] at this; simpa using this
            subst this
            exact hde j hj
          · rw [if_neg e'] at hk
            exact hcl k o' ho' hk j hj
      · refine hi'.congr (fun c => ?_) ?_ ?_ ?_
        · by_cases hw : E[i].writes c
          · refine foldE_last E 0 st _ i E[i] hEi hw (by rw [Nat.zero_add, hset]; simp) fun k y hk hy hD => ?_
            rw [Nat.zero_add, hset, if_neg (by omega)] at hD
            intro hyw
            have hkl : k < ops.size := by rw [← hlen]; exact (List.getElem?_eq_some_iff.1 hy).1
            obtain ⟨p, hp⟩ := hpr k hkl
            have hnp : i ∉ p := fun hip => by rw [later_not k y p hy hp hip] at hD; cases hD
            exact ((meet i k E[i] y p hk hEi hy hp hnp).1 c hw).2.2 hyw
          · rw [look_put_not hw]
            refine foldE_agree E 0 _ _ (fun k y hk hyw => ?_) rfl
            rw [Nat.zero_add, hset]
            by_cases e : k = i
            · subst e
              rw [hEi] at hk; simp at hk; subst hk
              exact absurd hyw hw
            · rw [if_neg e]
        · exact (foldE_meta E 0 st).1.trans (foldE_meta (D := fun k => listed.getD k false) E 0 st).1.symm
        · exact (foldE_meta E 0 st).2.1.trans (foldE_meta (D := fun k => listed.getD k false) E 0 st).2.1.symm
        · exact (foldE_meta E 0 st).2.2.trans (foldE_meta (D := fun k => listed.getD k false) E 0 st).2.2.symm
  refine main ops.size _ g a _ (by simp) ?_ ?_ ?_
  · have : ∀ n, left (List.replicate n false) = n := fun n => by induction n with
      | zero => rfl
      | succ n ih => simp [left, List.replicate_succ] at ih ⊢
    simp [this]
  · intro k o _ hk
    rw [Array.getD_eq_getD_getElem?, Array.getElem?_replicate] at hk
    split at hk <;> simp at hk
  · have e0 : foldE (fun i => (Array.replicate ops.size false).getD i false) 0 E st = st := foldE_none E 0 st fun k hk => by
      rw [Nat.zero_add, Array.getD_eq_getD_getElem?, Array.getElem?_replicate]
      split <;> rfl
    rw [e0]
    exact hi.drew

theorem aw_draw (hL : LOk P L) (hmix : P.follows .mixedOrders = true) {id : Nat} {ops : Array Oper} {tbl : List (Nat × Orc)} {reps : List (Nat × V)} {st st1 st2 : St} {ps : List Prop} {fs : List Foot} {Q : Exit → St → Prop}
    (hx : runA (Has P) L st.next tbl reps ops.toList 0 ops.toList st = some (st1, ps, fs)) (hd : (drawOk st.next fs (predsGo ops.toList []) && downOk ops.toList 0) = true) {cs : List Co} {live : List Nat} {m : List (Nat × Nat)} {next : Nat} (hn : st1.fin cs live m next = some st2)
    (hp : AllP ps) (h : Q .normal st2) : AW P cx (.region id ops true) st Q :=
  aw_draw_all hL hmix hx hd hp fun g a w hi => by
    obtain ⟨g2, _, _, hi2⟩ := fin_ok hi hn
    exact ⟨g2, st2, h, hi2⟩

end
end Go.Abs
