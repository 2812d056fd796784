/- Code by its machine: what is still to be done as a list of items; a path through it, at once. -/
import Derived.Test.YtoioflodpmideaaAbs19
namespace Go.Abs

/-- What the generator tells of a region, or of a branch, on a path. -/
inductive PO where
  | reg (tbl : List (Nat × Orc)) (reps : List (Nat × V))
  | br (b : Bool)

def popO (i : Nat) : List (Nat × PO) → Option PO × List (Nat × PO)
  | [] => (none, [])
  | (j, o) :: r => cond (Nat.beq j i) (some o, r) (none, (j, o) :: r)

inductive Nx where
  | go (ks : List Item) (st : St) (i : Nat) (os : List (Nat × PO)) (ps : List Prop)
  | done (e : Exit) (st : St)
  | bad

def regK (H : Ctr) (L : Lay) (ops : Array Oper) (draw : Bool) (ks : List Item) (st : St) (i : Nat) (os : List (Nat × PO)) (tbl : List (Nat × Orc)) (reps : List (Nat × V)) : Nx :=
  match runA H L st.next tbl reps ops.toList 0 ops.toList st with
  | some (st1, ps, fs) => cond (!draw || (drawOk st.next fs (predsGo ops.toList []) && downOk ops.toList 0)) (.go ks { st1 with next := st1.next + 16 * ops.size } (i + 1) os ps) .bad
  | none => .bad

def stepK (H : Ctr) (L : Lay) : List Item → St → Nat → List (Nat × PO) → Nx
  | [], st, _, _ => .done .normal st
  | .code c :: ks, st, i, os => match c with
    | .skip => .go ks st i os []
    | .label _ => .go ks st i os []
    | .seq x y => .go (.code x :: .code y :: ks) st i os []
    | .cond c x y => match popO i os with
      | (some (.br b), os') => match st.val L 0 c with
        | some v => .go (.code (cond b x y) :: ks) st (i + 1) os' [v = V.bool b]
        | none => .bad
      | (some (.reg _ _), _) => .bad
      | (none, _) => match st.val L 0 c with
        | some (.one (.c (.lit (.bool b)))) => .go (.code (cond b x y) :: ks) st (i + 1) os []
        | _ => .bad
    | .region _ ops draw => match popO i os with
      | (some (.reg tbl reps), os') => regK H L ops draw ks st i os' tbl reps
      | (some (.br _), _) => .bad
      | (none, _) => regK H L ops draw ks st i os [] []
    | .block id c => .go (.code c :: .inBlock id :: ks) st i os []
    | .loop c => .go (.code c :: .inLoop c :: ks) st i os []
    | .scope c => .go (.code c :: .inScope c :: ks) st i os []
    | .exit id => match exitTo id ks with
      | some k' => .go k' st i os []
      | none => .bad
    | .goto l => match gotoIn l ks with
      | some k' => .go k' st i os []
      | none => .bad
    | .ret => .done .ret st
    | _ => .bad
  | .inBlock _ :: ks, st, i, os => .go ks st i os []
  | .inLoop c :: ks, st, i, os => .go (.code c :: .inLoop c :: ks) st i os []
  | .inScope _ :: ks, st, i, os => .go ks st i os []
  | _ :: _, _, _, _ => .bad

/-- n steps, or to the end. -/
def runK (H : Ctr) (L : Lay) : Nat → List Item → St → Nat → List (Nat × PO) → Option (Option Exit × List Item × St × List Prop)
  | 0, ks, st, _, _ => some (none, ks, st, [])
  | n + 1, ks, st, i, os => match stepK H L ks st i os with
    | .go ks' st' i' os' ps => match runK H L n ks' st' i' os' with
      | some (e, ks2, st2, ps2) => some (e, ks2, st2, ps ++ ps2)
      | none => none
    | .done e st' => some (some e, [], st', [])
    | .bad => none

/-- What is still to be done, from a state. -/
def AK (P : Program) (cx : Cx) (ks : List Item) (st : St) (Q : Exit → St → Prop) : Prop :=
  ∀ g a w, In cx g st a w → ∀ (b : Frame) (k : List Item) (cs : List Frame), ∃ e a' w', (∃ g' st', Q e st' ∧ In cx g' st' a' w') ∧ Arrives P (lone (b.at a (ks ++ k)) cs w) b k cs e a' w'

section
variable {P : Program} {L : Lay} {cx : Cx} {st : St} {Q : Exit → St → Prop}

theorem AK.aw {c : Code} (h : AK P cx [.code c] st Q) : AW P cx c st Q := fun g a w hi b k cs => h g a w hi b k cs

theorem AllP.both {p q : List Prop} (h : AllP (p ++ q)) : AllP p ∧ AllP q := by
  induction p with
  | nil => exact ⟨trivial, h⟩
  | cons x r ih => obtain ⟨h1, h2⟩ := h; obtain ⟨h3, h4⟩ := ih h2; exact ⟨⟨h1, h3⟩, h4⟩

theorem exitTo_append {id : Nat} {k : List Item} : ∀ {ks k' : List Item}, exitTo id ks = some k' → exitTo id (ks ++ k) = some (k' ++ k) := by
  intro ks
  induction ks with
  | nil => intro k' h; cases h
  | cons x r ih =>
    intro k' h
    cases x with
    | inBlock id' =>
      simp only [exitTo, List.cons_append] at h ⊢
      split at h
      · rename_i e; simp only [Option.some.injEq] at h; subst h; rw [if_pos e]
      · rename_i e; rw [if_neg e]; exact ih h
    | _ => simp only [exitTo, List.cons_append] at h ⊢; exact ih h

theorem gotoIn_append {l : Nat} {k : List Item} : ∀ {ks k' : List Item}, gotoIn l ks = some k' → gotoIn l (ks ++ k) = some (k' ++ k) := by
  intro ks
  induction ks with
  | nil => intro k' h; cases h
  | cons x r ih =>
    intro k' h
    cases x with
    | inScope c =>
      simp only [gotoIn, List.cons_append] at h ⊢
      cases e : findLabel c l with
      | some rest => rw [e] at h; simp only [Option.some.injEq] at h; subst h; rfl
      | none => rw [e] at h; exact ih h
    | _ => simp only [gotoIn, List.cons_append] at h ⊢; exact ih h

theorem AK.step {ks ks' : List Item} (hs : ∀ (b : Frame) (a : Act) (w : World) k cs, step P (lone (b.at a (ks ++ k)) cs w) = .next (lone (b.at a (ks' ++ k)) cs w)) (h : AK P cx ks' st Q) : AK P cx ks st Q := by
  intro g a w hi b k cs
  obtain ⟨e, a', w', hq, harr⟩ := h g a w hi b k cs
  exact ⟨e, a', w', hq, .of_steps (.one (hs b a w k cs)) harr⟩

/-- A piece of code that ends as it should, and what comes then. -/
theorem AK.code {c : Code} {ks : List Item} (h : AW P cx c st fun e s => e = .normal ∧ AK P cx ks s Q) : AK P cx (.code c :: ks) st Q := by
  intro g a w hi b k cs
  obtain ⟨e, a', w', ⟨g', s, ⟨rfl, hk⟩, hi'⟩, harr⟩ := h g a w hi b (ks ++ k) cs
  obtain ⟨e2, a2, w2, hq2, harr2⟩ := hk g' a' w' hi' b k cs
  exact ⟨e2, a2, w2, hq2, .of_steps harr harr2⟩

theorem In.bump {g : Gh} {a : Act} {w : World} (h : In cx g st a w) {n : Nat} (hn : st.next ≤ n) : In cx g { st with next := n } a w where
  rel := { slot := h.rel.slot, mem := h.rel.mem, fresh := fun o ho hg => h.rel.fresh o (Nat.le_trans hn ho) hg, defers := h.rel.defers, size := h.rel.size }
  fr := h.fr
  k := h.k
  le := Nat.le_trans h.le hn

theorem regK_ok (hL : LOk P L) (hmix : P.follows .mixedOrders = true) {id : Nat} {ops : Array Oper} {draw : Bool} {ks ks' : List Item} {st' : St} {i i' : Nat} {os os' : List (Nat × PO)} {tbl : List (Nat × Orc)} {reps : List (Nat × V)} {ps : List Prop}
    (hx : regK (Has P) L ops draw ks st i os tbl reps = .go ks' st' i' os' ps) (hp : AllP ps) (h : AK P cx ks' st' Q) : AK P cx (.code (.region id ops draw) :: ks) st Q := by
  unfold regK at hx
  split at hx
  · rename_i st1 ps1 fs hr
    cases hc : (!draw || (drawOk st.next fs (predsGo ops.toList []) && downOk ops.toList 0)) with
    | false => rw [hc] at hx; cases hx
    | true =>
      rw [hc] at hx
      simp only [cond_true, Nx.go.injEq] at hx
      obtain ⟨rfl, rfl, rfl, rfl, rfl⟩ := hx
      refine AK.code ?_
      have hQ : ∀ g a w, In cx g st1 a w → ∃ g' st', ((Exit.normal = .normal) ∧ AK P cx ks st' Q) ∧ In cx g' st' a w := fun g a w hi =>
        ⟨g, _, ⟨rfl, h⟩, hi.bump (Nat.le_add_right _ _)⟩
      cases draw with
      | false =>
        intro g a w hi
        refine wp_region ?_
        have := run_ok (P := P) (cx := cx) hL (Q := fun e a' w' => ∃ g' st', (e = .normal ∧ AK P cx ks st' Q) ∧ In cx g' st' a' w') (st' := st1) (fun g' a' w' hi' => hQ g' a' w' hi') ops.toList 0 st g a w ps1 fs (fun k o hk => by simpa using hk) (Nat.le_refl _) hr hp hi
        rw [List.range_eq_range']
        simpa using this
      | true => exact aw_draw_all hL hmix hr (by simpa using hc) hp hQ
  · cases hx

theorem stepK_go (hL : LOk P L) (hmix : P.follows .mixedOrders = true) {ks ks' : List Item} {st' : St} {i i' : Nat} {os os' : List (Nat × PO)} {ps : List Prop} (hx : stepK (Has P) L ks st i os = .go ks' st' i' os' ps) (hp : AllP ps) (h : AK P cx ks' st' Q) : AK P cx ks st Q := by
  unfold stepK at hx
  split at hx
  · cases hx
  · rename_i c ks0
    split at hx
    · simp only [Nx.go.injEq] at hx; obtain ⟨rfl, rfl, _⟩ := hx; exact h.step fun b a w k cs => step_skip
    · simp only [Nx.go.injEq] at hx; obtain ⟨rfl, rfl, _⟩ := hx; exact h.step fun b a w k cs => step_label
    · simp only [Nx.go.injEq] at hx; obtain ⟨rfl, rfl, _⟩ := hx; exact h.step fun b a w k cs => step_seq
    · rename_i c x y
      have key : ∀ {b : Bool} {v : V}, st.val L 0 c = some v → v = V.bool b → AK P cx (.code (cond b x y) :: ks0) st Q → AK P cx (.code (.cond c x y) :: ks0) st Q := by
        intro t v hv hvb hk g a w hi b k cs
        subst hvb
        have := (val_ok hi.rel hv).lit_inv
        obtain ⟨e, a', w', hq, harr⟩ := hk g a w hi b k cs
        refine ⟨e, a', w', hq, .of_steps (.one ?_) harr⟩
        have := step_cond (P := P) (b := b) (k := ks0 ++ k) (cs := cs) (w := w) (x := x) (y := y) this
        rw [List.cons_append, this]
        cases t <;> rfl
      split at hx
      · split at hx
        · rename_i v hv
          simp only [Nx.go.injEq] at hx; obtain ⟨rfl, rfl, _, _, rfl⟩ := hx
          exact key hv hp.1 h
        · cases hx
      · cases hx
      · split at hx
        · rename_i b hv
          simp only [Nx.go.injEq] at hx; obtain ⟨rfl, rfl, _⟩ := hx
          exact key hv rfl h
        · cases hx
    · split at hx
      · exact regK_ok hL hmix hx hp h
      · cases hx
      · exact regK_ok hL hmix hx hp h
    · simp only [Nx.go.injEq] at hx; obtain ⟨rfl, rfl, _⟩ := hx; exact h.step fun b a w k cs => step_block
    · simp only [Nx.go.injEq] at hx; obtain ⟨rfl, rfl, _⟩ := hx; exact h.step fun b a w k cs => step_loop
    · simp only [Nx.go.injEq] at hx; obtain ⟨rfl, rfl, _⟩ := hx; exact h.step fun b a w k cs => step_scope
    · split at hx
      · rename_i k' hk'
        simp only [Nx.go.injEq] at hx; obtain ⟨rfl, rfl, _⟩ := hx; exact h.step fun b a w k cs => step_exit (exitTo_append hk')
      · cases hx
    · split at hx
      · rename_i k' hk'
        simp only [Nx.go.injEq] at hx; obtain ⟨rfl, rfl, _⟩ := hx; exact h.step fun b a w k cs => step_goto (gotoIn_append hk')
      · cases hx
    · cases hx
    · cases hx
  · simp only [Nx.go.injEq] at hx; obtain ⟨rfl, rfl, _⟩ := hx; exact h.step fun b a w k cs => step_inBlock
  · simp only [Nx.go.injEq] at hx; obtain ⟨rfl, rfl, _⟩ := hx; exact h.step fun b a w k cs => step_inLoop
  · simp only [Nx.go.injEq] at hx; obtain ⟨rfl, rfl, _⟩ := hx; exact h.step fun b a w k cs => step_inScope
  · cases hx

theorem stepK_done {H : Ctr} {ks : List Item} {st' : St} {i : Nat} {os : List (Nat × PO)} {e : Exit} (hx : stepK H L ks st i os = .done e st') (h : Q e st') : AK P cx ks st Q := by
  unfold stepK at hx
  have hreg : ∀ {ops draw ks st i os tbl reps}, regK H L ops draw ks st i os tbl reps ≠ .done e st' := by
    intro ops draw ks st i os tbl reps hr
    unfold regK at hr
    split at hr
    · rename_i a1 a2 a3 _
      cases hc : (!draw || (drawOk st.next a3 (predsGo ops.toList []) && downOk ops.toList 0)) <;> rw [hc] at hr <;> cases hr
    · cases hr
  split at hx
  · simp only [Nx.done.injEq] at hx
    obtain ⟨rfl, rfl⟩ := hx
    exact fun g a w hi b k cs => ⟨.normal, a, w, ⟨g, _, h, hi⟩, .refl P _⟩
  · split at hx
    · cases hx
    · cases hx
    · cases hx
    · split at hx
      · split at hx <;> cases hx
      · cases hx
      · split at hx <;> cases hx
    · split at hx
      · exact absurd hx hreg
      · cases hx
      · exact absurd hx hreg
    · cases hx
    · cases hx
    · cases hx
    · split at hx <;> cases hx
    · split at hx <;> cases hx
    · simp only [Nx.done.injEq] at hx
      obtain ⟨rfl, rfl⟩ := hx
      exact fun g a w hi b k cs => ⟨.ret, a, w, ⟨g, _, h, hi⟩, _, .one step_ret⟩
    · cases hx
  · cases hx
  · cases hx
  · cases hx
  · cases hx

theorem runK_ok (hL : LOk P L) (hmix : P.follows .mixedOrders = true) : ∀ {n : Nat} {ks ks' : List Item} {st st' : St} {i : Nat} {os : List (Nat × PO)} {e : Option Exit} {ps : List Prop},
    runK (Has P) L n ks st i os = some (e, ks', st', ps) → AllP ps → (e = none → AK P cx ks' st' Q) → (∀ x, e = some x → Q x st') → AK P cx ks st Q := by
  intro n
  induction n with
  | zero =>
    intro ks ks' st st' i os e ps hx _ h _
    simp only [runK, Option.some.injEq, Prod.mk.injEq] at hx
    obtain ⟨rfl, rfl, rfl, _⟩ := hx
    exact h rfl
  | succ n ih =>
    intro ks ks' st st' i os e ps hx hp h1 h2
    simp only [runK] at hx
    split at hx
    · rename_i hs
      split at hx
      · rename_i hr
        simp only [Option.some.injEq, Prod.mk.injEq] at hx
        obtain ⟨rfl, rfl, rfl, rfl⟩ := hx
        obtain ⟨p1, p2⟩ := AllP.both hp
        exact stepK_go hL hmix hs p1 (ih hr p2 h1 h2)
      · cases hx
    · rename_i hs
      simp only [Option.some.injEq, Prod.mk.injEq] at hx
      obtain ⟨rfl, _, rfl, _⟩ := hx
      exact stepK_done hs (h2 _ rfl)
    · cases hx

def pathA (H : Ctr) (L : Lay) (n : Nat) (ks : List Item) (st : St) (os : List (Nat × PO)) (cs : List Co) (live : List Nat) (m : List (Nat × Nat)) (next : Nat) : Option (List Item × St × List Prop) :=
  match runK H L n ks st 0 os with
  | some (none, ks', st1, ps) => match st1.fin cs live m next with
    | some st2 => some (ks', st2, ps)
    | none => none
  | _ => none

def okEnd : Exit → Bool
  | .normal => true
  | .ret => true
  | _ => false

theorem okEnd_ok {e : Exit} (h : okEnd e = true) : e = .normal ∨ e = .ret := by cases e <;> simp [okEnd] at h ⊢

def pathR (H : Ctr) (L : Lay) (rs : List ResultVar) (n : Nat) (ks : List Item) (st : St) (os : List (Nat × PO)) (cs : List Co) (m : List (Nat × Nat)) (k : Nat) (d : Bool) : Option (List O × V × List Prop) :=
  match runK H L n ks st 0 os with
  | some (some e, _, st1, ps) => cond (okEnd e) (match retA L st1 rs cs m k d with
    | some (objs, v) => some (objs, v, ps)
    | none => none) none
  | _ => none

/-- A path to another point. -/
theorem ak_to (hL : LOk P L) (hmix : P.follows .mixedOrders = true) {ks : List Item} (n : Nat) (os : List (Nat × PO)) (cs : List Co) (live : List Nat) (m : List (Nat × Nat)) (next : Nat) (ks2 : List Item) (st2 : St) (ps : List Prop)
    (hx : pathA (Has P) L n ks st os cs live m next = some (ks2, st2, ps)) (hp : AllP ps) (h : AK P cx ks2 st2 Q) : AK P cx ks st Q := by
  unfold pathA at hx
  split at hx
  · rename_i ks' st1 ps1 hr
    split at hx
    · rename_i st3 hf
      simp only [Option.some.injEq, Prod.mk.injEq] at hx
      obtain ⟨rfl, rfl, rfl⟩ := hx
      refine runK_ok hL hmix hr hp (fun _ => ?_) (fun x hx => by cases hx)
      intro g a w hi
      obtain ⟨g', _, _, hi'⟩ := fin_ok hi hf
      exact h g' a w hi'
    · cases hx
  · cases hx

/-- A path to the function's end. -/
theorem ak_ret (hL : LOk P L) (hmix : P.follows .mixedOrders = true) {ks : List Item} {rs : List ResultVar} {k : Nat} {R : List O → V → Prop} (n : Nat) (os : List (Nat × PO)) (cs : List Co) (m : List (Nat × Nat)) (nk : Nat) (d : Bool) (objs : List O) (v : V) (ps : List Prop)
    (hx : pathR (Has P) L rs n ks st os cs m nk d = some (objs, v, ps)) (hp : AllP ps) (hk : k ≤ nk) (hQ : R objs v) : AK P cx ks st (Fin L rs k R) := by
  unfold pathR at hx
  split at hx
  · rename_i e ks' st1 ps1 hr
    cases he : okEnd e with
    | false => rw [he] at hx; cases hx
    | true =>
      rw [he] at hx
      simp only [cond_true] at hx
      split at hx
      · rename_i objs' v' hret
        simp only [Option.some.injEq, Prod.mk.injEq] at hx
        obtain ⟨rfl, rfl, rfl⟩ := hx
        exact runK_ok hL hmix hr hp (fun h => by cases h) fun x hx => by
          simp only [Option.some.injEq] at hx; subst hx
          exact fin_of (okEnd_ok he) cs m nk d _ _ hret hk hQ
      · cases hx
  · cases hx

theorem has_ak (hL : LOk P L) {f : FuncId} {fn : Func} {c : Code} {args : List V} {objs objs' : List O} {r : V} (hfn : P.funcs[f]? = some fn) (hb : fn.body = some c) (hname : (fn.name == "runtime.NumGoroutine") = false)
    (hsz : args.length ≤ fn.ntmps) (h : ∀ cx, AK P cx [.code c] (startSt args objs fn.ntmps) (Fin L fn.results.toList objs.length fun o v => o = objs' ∧ v = r)) : Has P f args objs objs' r := hc_of_aw hL hfn hb hname hsz fun cx => (h cx).aw

end

/- Points of a function: what is still to be done at a place of its code. -/
def stackAt : Code → List Nat → List Item → List Item
  | c, [], ks => .code c :: ks
  | .seq x y, 0 :: p, ks => stackAt x p (.code y :: ks)
  | .seq _ y, _ :: p, ks => stackAt y p ks
  | .cond _ x _, 0 :: p, ks => stackAt x p ks
  | .cond _ _ y, _ :: p, ks => stackAt y p ks
  | .block id c, _ :: p, ks => stackAt c p (.inBlock id :: ks)
  | .loop c, 0 :: p, ks => stackAt c p (.inLoop c :: ks)
  | .scope c, _ :: p, ks => stackAt c p (.inScope c :: ks)
  | _, _, _ => []

def gotoAt (l : Nat) (ks : List Item) : List Item := (gotoIn l ks).getD []

def bodyOf (f : Func) : Code := f.body.getD .skip

theorem ite_some {α : Type} {p : Prop} [Decidable p] {x y : Option α} {r : α} (h : (if p then x else y) = some r) : (p ∧ x = some r) ∨ (¬p ∧ y = some r) := by
  split at h
  · exact .inl ⟨by assumption, h⟩
  · exact .inr ⟨by assumption, h⟩

/-- a branch's word, as a path owes it -/
def BT (b : Bool) : Prop := V.bool b = V.bool true
def BF (b : Bool) : Prop := V.bool b = V.bool false
theorem bt {b : Bool} (h : b = true) : BT b := congrArg V.bool h
theorem bf {b : Bool} (h : ¬ b = true) : BF b := congrArg V.bool (by simpa using h)
theorem dt {p : Prop} [Decidable p] (h : p) : BT (decide p) := congrArg V.bool (decide_eq_true h)
theorem df {p : Prop} [Decidable p] (h : ¬ p) : BF (decide p) := congrArg V.bool (decide_eq_false h)
theorem ndt {p : Prop} [Decidable p] (h : ¬ p) : BT (!decide p) := congrArg V.bool (by simp [h])
theorem ndf {p : Prop} [Decidable p] (h : p) : BF (!decide p) := congrArg V.bool (by simp [h])

end Go.Abs
