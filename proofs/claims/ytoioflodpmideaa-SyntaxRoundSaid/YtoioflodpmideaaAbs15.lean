/- Rules for code. -/
import Derived.Test.YtoioflodpmideaaAbs14
import Derived.ScopeJumps
import Derived.Deep.LoopGhost
namespace Go.Abs

section
variable {P : Program} {L : Lay} {cx : Cx} {st : St} {Q : Exit → St → Prop}

def thenA (next : St → Prop) (Q : Exit → St → Prop) : Exit → St → Prop
  | .normal, s => next s
  | e, s => Q e s

def blockA (id : Nat) (Q : Exit → St → Prop) : Exit → St → Prop
  | .exit id', s => if id' = id then Q .normal s else Q (.exit id') s
  | e, s => Q e s

def jumpA (l : Nat) (J : St → Prop) (Q : Exit → St → Prop) : Exit → St → Prop
  | .goto l', s => l' = l ∧ J s
  | e, s => Q e s

theorem AW.mono {c : Code} {Q' : Exit → St → Prop} (h : AW P cx c st Q) (hq : ∀ e s, Q e s → Q' e s) : AW P cx c st Q' :=
  fun g a w hi => wp_mono (h g a w hi) fun _ _ _ ⟨g', s, hQ, hI⟩ => ⟨g', s, hq _ _ hQ, hI⟩

theorem aw_seq {x y : Code} (h : AW P cx x st (thenA (fun s => AW P cx y s Q) Q)) : AW P cx (.seq x y) st Q := by
  intro g a w hi
  refine wp_seq (wp_mono (h g a w hi) ?_)
  rintro e a' w' ⟨g', s, hq, hI⟩
  cases e with
  | normal => exact hq g' a' w' hI
  | _ => exact ⟨g', s, hq, hI⟩

theorem aw_cond {c : Operand} {x y : Code} {b : Bool} (hc : st.val L 0 c = some (.bool b)) (ht : b = true → AW P cx x st Q) (hf : b = false → AW P cx y st Q) : AW P cx (.cond c x y) st Q := by
  intro g a w hi
  have := (val_ok hi.rel hc).lit_inv
  exact wp_cond_split this (fun e => ht e g a w hi) (fun e => hf e g a w hi)

theorem aw_skip (h : Q .normal st) : AW P cx .skip st Q := fun g _ _ hi => wp_skip ⟨g, st, h, hi⟩
theorem aw_label {l : Nat} (h : Q .normal st) : AW P cx (.label l) st Q := fun g _ _ hi => wp_label ⟨g, st, h, hi⟩
theorem aw_exit {id : Nat} (h : Q (.exit id) st) : AW P cx (.exit id) st Q := fun g _ _ hi => wp_exit ⟨g, st, h, hi⟩
theorem aw_goto {l : Nat} (h : Q (.goto l) st) : AW P cx (.goto l) st Q := fun g _ _ hi => wp_goto ⟨g, st, h, hi⟩
theorem aw_ret (h : Q .ret st) : AW P cx .ret st Q := fun g _ _ hi => wp_ret ⟨g, st, h, hi⟩

theorem aw_block {id : Nat} {c : Code} (h : AW P cx c st (blockA id Q)) : AW P cx (.block id c) st Q := by
  intro g a w hi
  refine wp_block (wp_mono (h g a w hi) ?_)
  rintro e a' w' ⟨g', s, hq, hI⟩
  cases e with
  | exit id' =>
    simp only [blockA] at hq
    simp only [Exit.inBlock]
    split
    · rename_i e; rw [if_pos e] at hq; exact ⟨g', s, hq, hI⟩
    · rename_i e; rw [if_neg e] at hq; exact ⟨g', s, hq, hI⟩
  | _ => exact ⟨g', s, hq, hI⟩

theorem aw_loop {c : Code} (I : Nat → St → Prop) (n : Nat) (h0 : I n st) (round : ∀ n s, I n s → AW P cx c s (thenA (fun s' => ∃ n', n' < n ∧ I n' s') Q)) : AW P cx (.loop c) st Q := by
  intro g a w hi
  refine Go.wp_loop_ghost (fun n a w => ∃ g s, I n s ∧ In cx g s a w) n ⟨g, st, h0, hi⟩ ?_
  rintro n a w ⟨g, s, hI, hi⟩
  refine wp_mono (round n s hI g a w hi) ?_
  rintro e a' w' ⟨g', s', hq, hI'⟩
  cases e with
  | normal =>
    obtain ⟨n', h1, h2⟩ := hq
    exact ⟨n', h1, g', s', h2, hI'⟩
  | _ => exact ⟨g', s', hq, hI'⟩

theorem aw_scope {c rest : Code} (l : Nat) (hf : findLabel c l = some rest) (I : Nat → St → Prop) (first : AW P cx c st (jumpA l (fun s => ∃ n, I n s) Q))
    (pass : ∀ n s, I n s → AW P cx rest s (jumpA l (fun s' => ∃ n', n' < n ∧ I n' s') Q)) : AW P cx (.scope c) st Q := by
  intro g a w hi
  have tr : ∀ {J : St → Prop} {J' : Act → World → Prop}, (∀ g' s a' w', J s → In cx g' s a' w' → J' a' w') → ∀ e a' w', (∃ g' s, jumpA l J Q e s ∧ In cx g' s a' w') → Exit.jump l J' (fun e a' w' => ∃ g' s, Q e s ∧ In cx g' s a' w') e a' w' := by
    rintro J J' hJ e a' w' ⟨g', s, hq, hI⟩
    cases e with
    | goto l' => exact ⟨hq.1, hJ g' s a' w' hq.2 hI⟩
    | _ => exact ⟨g', s, hq, hI⟩
  refine wp_scope_jumps l (fun a w => ∃ n g s, I n s ∧ In cx g s a w) (fun a w => Go.leastOf fun n => ∃ g s, I n s ∧ In cx g s a w) hf ?_ ?_
  · refine wp_mono (first g a w hi) (tr ?_)
    rintro g' s a' w' ⟨n, hn⟩ hI
    exact ⟨n, g', s, hn, hI⟩
  · rintro a w ⟨n0, hn0⟩
    have hs := Go.leastOf_spec (p := fun n => ∃ g s, I n s ∧ In cx g s a w) ⟨n0, hn0⟩
    obtain ⟨g, s, hI, hi⟩ := hs.1
    refine wp_mono (pass _ s hI g a w hi) (tr ?_)
    rintro g' s' a' w' ⟨n', h1, h2⟩ hI'
    exact ⟨⟨n', g', s', h2, hI'⟩, Nat.lt_of_le_of_lt ((Go.leastOf_spec (p := fun n => ∃ g s, I n s ∧ In cx g s a' w') ⟨n', g', s', h2, hI'⟩).2 n' ⟨g', s', h2, hI'⟩) h1⟩

/-- A state says less. -/
theorem aw_fin {c : Code} {cs : List Co} {live : List Nat} {m : List (Nat × Nat)} {next : Nat} {st' : St} (hn : st.fin cs live m next = some st') (h : AW P cx c st' Q) : AW P cx c st Q := by
  intro g a w hi
  obtain ⟨g', _, _, hi'⟩ := fin_ok hi hn
  exact h g' a w hi'

/-- A region in the order of its text. -/
theorem aw_region (hL : LOk P L) {id : Nat} {ops : Array Oper} {tbl : List (Nat × Orc)} {reps : List (Nat × V)} {st1 st2 : St} {ps : List Prop} {fs : List Foot}
    (hx : runA (Has P) L st.next tbl reps ops.toList 0 ops.toList st = some (st1, ps, fs)) {cs : List Co} {live : List Nat} {m : List (Nat × Nat)} {next : Nat} (hn : st1.fin cs live m next = some st2)
    (hp : AllP ps) (h : Q .normal st2) : AW P cx (.region id ops false) st Q := by
  intro g a w hi
  refine wp_region ?_
  have := run_ok (P := P) (cx := cx) hL (Q := fun e a' w' => ∃ g' st', Q e st' ∧ In cx g' st' a' w') (st' := st1) (fun g' a' w' hi' => by
    obtain ⟨g2, _, _, hi2⟩ := fin_ok hi' hn
    exact ⟨g2, st2, h, hi2⟩) ops.toList 0 st g a w ps fs (fun k o hk => by simpa using hk) (Nat.le_refl _) hx hp hi
  rw [List.range_eq_range']
  simpa using this

end

/-- The state at a function's begin. -/
def argSlots : List V → Nat → List (Nat × V)
  | [], _ => []
  | v :: r, i => (i, v) :: argSlots r (i + 1)

theorem get_argSlots : ∀ (l : List V) (j i : Nat), get (argSlots l j) i = if j ≤ i then l[i - j]? else none := by
  intro l
  induction l with
  | nil => intro j i; simp [argSlots, get]
  | cons x r ih =>
    intro j i
    simp only [argSlots]
    rw [get_cons, ih]
    by_cases h : j = i
    · subst h; simp
    · rw [if_neg h]
      by_cases h' : j + 1 ≤ i
      · rw [if_pos h', if_pos (by omega)]
        have : i - j = (i - (j + 1)) + 1 := by omega
        rw [this]; simp
      · rw [if_neg h', if_neg (by omega)]

def startSt (args : List V) (objs : List O) (ntmps : Nat) : St := ⟨argSlots args 0, number objs 0, objs.length, ntmps, objs.length⟩

/-- A result, in a state. -/
def resA (L : Lay) (st : St) : ResultVar → Option V
  | .tmp t => get st.slots t
  | .cell p t => match get st.slots p, get L t with
    | some (.one (.ptr o 0)), some ti => match get st.objs o with
      | some (.var _ l) => partA ti l 0
      | _ => none
    | _, _ => none

def resAll (L : Lay) (st : St) : List ResultVar → Option (List V)
  | [] => some []
  | x :: r => match resA L st x, resAll L st r with
    | some v, some l => some (v :: l)
    | _, _ => none

def resV (L : Lay) (st : St) (rs : List ResultVar) : Option V :=
  match resAll L st rs with
  | some [v] => some v
  | some l => some (.tup l)
  | none => none

def unnumber (objs : List (Nat × O)) : Nat → Nat → Option (List O)
  | _, 0 => some []
  | j, n + 1 => match get objs j, unnumber objs (j + 1) n with
    | some o, some l => some (o :: l)
    | _, _ => none

theorem unnumber_ok {objs : List (Nat × O)} : ∀ {n j : Nat} {l : List O}, unnumber objs j n = some l → l.length = n ∧ ∀ i, i < n → get objs (j + i) = l[i]? := by
  intro n
  induction n with
  | zero => intro j l h; simp only [unnumber, Option.some.injEq] at h; subst h; exact ⟨rfl, fun i h => by omega⟩
  | succ n ih =>
    intro j l h
    simp only [unnumber] at h
    split at h
    · rename_i o r ho hr
      simp at h; subst h
      obtain ⟨h1, h2⟩ := ih hr
      refine ⟨by simp [h1], fun i hi => ?_⟩
      cases i with
      | zero => simpa using ho
      | succ i => have := h2 i (by omega); simp; rw [← this]; congr 1; omega
    · cases h

section
variable {P : Program} {L : Lay}

/-- A result's run. -/
def resSem (tmps : Array Value) : ResultVar → Sem Value
  | .tmp t => pure (tmps.getD t undef)
  | .cell a t => do loadVar t (← asAddr (tmps.getD a undef))

theorem results_eq (fn : Func) (tmps : Array Value) : results fn tmps = (do
    let vs ← fn.results.mapM (resSem tmps)
    pure (if h : vs.size = 1 then vs[0] else .tuple vs)) := by
  unfold results
  congr 1

theorem res_ok (hL : LOk P L) {g : Gh} {st : St} {a : Act} {w : World} (h : Rel g st a w) {x : ResultVar} {v : V} (hx : resA L st x = some v) :
    ∃ u, (resSem a.tmps x).run P w = .ok u w ∧ RV g u v := by
  cases x with
  | tmp t => exact ⟨_, rfl, (h.slot t v hx).2⟩
  | cell p t =>
    simp only [resA] at hx
    split at hx
    · rename_i o ti hp ht
      split at hx
      · rename_i l ho
        obtain ⟨b, hb, he⟩ := (h.slot p _ hp).2.ptr_inv
        obtain ⟨b', cur, hb', hg, hrl, _⟩ := h.mem.obj o _ ho
        rw [hb] at hb'; simp at hb'; subst hb'
        obtain ⟨u, hu, hru⟩ := run_loadVar_part (P := P) (w := w) (hL t ti ht) (b := b) (k := 0) hrl hx (fun j v hv => by
          rw [Nat.zero_add, cell_of_row w b j cur _ (0, 0) hg]; simpa using hv)
        simp only [Nat.add_zero] at hu
        exact ⟨u, by simp [resSem, he, asAddr, hu], hru⟩
      · cases hx
    · cases hx

theorem resAll_ok (hL : LOk P L) {g : Gh} {st : St} {a : Act} {w : World} (h : Rel g st a w) : ∀ {rs : List ResultVar} {vs : List V}, resAll L st rs = some vs →
    ∃ us : List Value, (rs.mapM (resSem a.tmps)).run P w = .ok us w ∧ us.length = vs.length ∧ ∀ (i : Nat) u v, us[i]? = some u → vs[i]? = some v → RV g u v := by
  intro rs
  induction rs with
  | nil => intro vs hx; simp only [resAll, Option.some.injEq] at hx; subst hx; exact ⟨[], by simp, rfl, fun i u v h => by simp at h⟩
  | cons x r ih =>
    intro vs hx
    simp only [resAll] at hx
    split at hx
    · rename_i v l hv hl
      simp at hx; subst hx
      obtain ⟨u, hu, hru⟩ := res_ok hL h hv
      obtain ⟨us, hus, h1, h2⟩ := ih hl
      refine ⟨u :: us, ?_, by simp [h1], fun i u' v' hu' hv' => ?_⟩
      · rw [List.mapM_cons, Sem.run_bind, hu]
        simp only [Result.andThen_ok, Sem.run_bind, hus, Sem.run_pure]
      · cases i with
        | zero => simp at hu' hv'; subst hu'; subst hv'; exact hru
        | succ i => simp at hu' hv'; exact h2 i u' v' hu' hv'
    · cases hx

theorem resV_ok (hL : LOk P L) {g : Gh} {st : St} {a : Act} {w : World} (h : Rel g st a w) {fn : Func} {v : V} (hx : resV L st fn.results.toList = some v) :
    ∃ u, (results fn a.tmps).run P w = .ok u w ∧ RV g u v := by
  unfold resV at hx
  have key : ∀ vs, resAll L st fn.results.toList = some vs → ∃ us : List Value, (results fn a.tmps).run P w = .ok (if h : us.toArray.size = 1 then us.toArray[0] else .tuple us.toArray) w ∧ us.length = vs.length ∧ ∀ (i : Nat) u v, us[i]? = some u → vs[i]? = some v → RV g u v := by
    intro vs hvs
    obtain ⟨us, h1, h2, h3⟩ := resAll_ok hL h hvs
    refine ⟨us, ?_, h2, h3⟩
    rw [results_eq, Sem.run_bind, Array.mapM_eq_mapM_toList, Sem.run_map, h1]
    rfl
  split at hx
  · rename_i x hvs
    simp at hx; subst hx
    obtain ⟨us, h1, h2, h3⟩ := key _ hvs
    match us, h2 with
    | [u], _ => exact ⟨u, by simpa using h1, h3 0 u x rfl rfl⟩
  · rename_i l hne hvs
    simp at hx; subst hx
    obtain ⟨us, h1, h2, h3⟩ := key _ hvs
    have hlen : ¬ us.length = 1 := by
      intro e
      rw [h2] at e
      match l, e with
      | [x], _ => exact hne x rfl
    refine ⟨.tuple us.toArray, by simpa [hlen] using h1, .tup _ _ (by simpa using h2) fun i v b hv hb => h3 i v b (by simpa using hv) hb⟩
  · cases hx

/-- A call of a function, by its body. -/
theorem hc_of_aw (hL : LOk P L) {f : FuncId} {fn : Func} {c : Code} {args : List V} {objs : List O} {Q : List O → V → Prop} (hfn : P.funcs[f]? = some fn) (hb : fn.body = some c) (hname : (fn.name == "runtime.NumGoroutine") = false)
    (hsz : args.length ≤ fn.ntmps) (h : ∀ cx, AW P cx c (startSt args objs fn.ntmps) fun e st => (e = .normal ∨ e = .ret) ∧
      ∃ cs m n st' objs' v d, resV L st fn.results.toList = some v ∧ st.fin cs [] m n = some st' ∧ unnumber st'.objs 0 n = some objs' ∧ objs.length ≤ n ∧ Q objs' (cond d (v.ren m).data (v.ren m))) : HC P f args objs Q := by
  intro g w vs hvs hva hm hfr
  refine .inl ⟨⟨fn, hfn, by simp [hb], hname⟩, ?_⟩
  refine calls_of_wp hfn hb ?_
  let cx : Cx := ⟨g, w, objs.length⟩
  have hnum : ∀ j x, get (number objs 0) j = some x → objs[j]? = some x := fun j x hx => by rw [get_number] at hx; simpa using hx
  have hin : In cx g (startSt args objs fn.ntmps) { tmps := vs ++ Array.replicate (fn.ntmps - vs.size) undef, defers := [] } w := by
    refine ⟨⟨fun i v hi => ?_, hm, fun o ho hn => hfr o ho, rfl, by simp [startSt]; omega⟩, ⟨rfl, rfl, rfl, Nat.le_refl _, fun _ _ _ => rfl, fun _ _ _ h => h, fun b k v h h' => (by rw [h'] at h; cases h), fun o ob b ho hl hμ => ?_, fun j t l _ _ => ⟨rfl, rfl⟩⟩, rfl, Nat.le_refl _⟩
    · simp only [startSt] at hi
      rw [get_argSlots] at hi
      simp only [Nat.zero_le, if_true, Nat.sub_zero] at hi
      have hlt := (List.getElem?_eq_some_iff.1 hi).1
      refine ⟨by simp; omega, ?_⟩
      have hu : vs[i]? = some vs[i] := by simp
      have := hva i _ v hu hi
      rw [Array.getD_eq_getD_getElem?, Array.getElem?_append_left (by omega), hu]
      exact this
    · right
      refine ⟨o, ?_, hμ⟩
      have := hnum o ob ho
      exact (List.getElem?_eq_some_iff.1 this).1
  refine wp_mono (h cx g _ w hin) ?_
  rintro e a' w' ⟨g', st, ⟨he, cs, m, n, st', objs', v, d, hres, hfin, hun, hle, hQ⟩, hi⟩
  have hd := hi.rel.defers
  obtain ⟨u, hu, hru⟩ := resV_ok (P := P) hL hi.rel hres
  obtain ⟨g2, hren, hnone, hi2⟩ := fin_ok hi hfin
  obtain ⟨hlen, hget⟩ := unnumber_ok hun
  have hsub : ∀ j x, get (number objs' 0) j = some x → get st'.objs j = some x := by
    intro j x hx
    rw [get_number] at hx
    simp only [Nat.zero_le, if_true, Nat.sub_zero] at hx
    have hj : j < n := by rw [← hlen]; exact (List.getElem?_eq_some_iff.1 hx).1
    have := hget j hj
    rw [Nat.zero_add] at this
    rw [this]; exact hx
  have hpost : ∃ v g' objs'' r, Ending.returned u = .returned v ∧ Q objs'' r ∧ RV g' v r ∧ Rm g' (number objs'' 0) w' ∧ (∀ o, objs''.length ≤ o → g'.μ o = none) ∧ objs.length ≤ objs''.length ∧ Fr ⟨g, w, objs.length⟩ g' (number objs'' 0) w' := by
    refine ⟨u, g2, objs', _, rfl, hQ, (by cases d; exact hru.ren hren; exact (hru.ren hren).data), ⟨fun o ob ho => hi2.rel.mem.obj o ob (hsub o ob ho), fun o o' ob ob' b ho ho' => hi2.rel.mem.sep o o' ob ob' b (hsub _ _ ho) (hsub _ _ ho'), hi2.rel.mem.shut, hi2.rel.mem.blk⟩, fun o ho => hnone o (by omega), by omega, ?_⟩
    have hf := hi2.fr
    exact ⟨hf.os, hf.tape, hf.output, hf.size, hf.block, hf.h, hf.hnew, fun o ob b ho => hf.own o ob b (hsub _ _ ho), fun j t l hj ho => hf.keep j t l hj (hsub _ _ ho)⟩
  rcases he with rfl | rfl
  · exact ⟨hd, u, hu, hpost⟩
  · exact ⟨hd, u, hu, hpost⟩

end
end Go.Abs
