/- What an operation does hangs on what it reads alone. -/
import Derived.Test.YtoioflodpmideaaAbs15
namespace Go.Abs

section
variable {H : Ctr} {L : Lay} {st st' : St}

/-- Two states agree on what an operation looks at. -/
structure Agr (L : Lay) (st st' : St) (xs : List Operand) (rs : List Nat) (fresh : Nat) : Prop where
  val : ∀ ty x, x ∈ xs → st'.val L ty x = st.val L ty x
  obj : ∀ o, o ∈ rs → get st'.objs o = get st.objs o
  new : ∀ j, j < 16 → get st.objs (fresh + j) = none → get st'.objs (fresh + j) = none

theorem mapParts_congr {f f' : Nat → Operand → Option V} : ∀ {l : List (Nat × Operand)}, (∀ i x, (i, x) ∈ l → f' i x = f i x) → mapParts f' l = mapParts f l := by
  intro l
  induction l with
  | nil => intro _; rfl
  | cons p r ih =>
    intro h
    obtain ⟨i, x⟩ := p
    simp only [mapParts]
    rw [h i x (by simp), ih fun i x hm => h i x (by simp [hm])]

theorem valAll_congr {f f' : TypeId → Operand → Option V} : ∀ {l : List (TypeId × Operand)}, (∀ t x, (t, x) ∈ l → f' t x = f t x) → valAll f' l = valAll f l := by
  intro l
  induction l with
  | nil => intro _; rfl
  | cons p r ih =>
    intro h
    obtain ⟨i, x⟩ := p
    simp only [valAll]
    rw [h i x (by simp), ih fun i x hm => h i x (by simp [hm])]

theorem getAll_congr {l l' : List (Nat × O)} : ∀ {is : List Nat}, (∀ i, i ∈ is → get l' i = get l i) → getAll l' is = getAll l is := by
  intro is
  induction is with
  | nil => intro _; rfl
  | cons i r ih =>
    intro h
    simp only [getAll]
    rw [h i (by simp), ih fun i hi => h i (by simp [hi])]

theorem allFresh_congr {l l' : List (Nat × O)} : ∀ {n i : Nat}, (∀ j, j < n → get l (i + j) = none → get l' (i + j) = none) → allFresh l i n = true → allFresh l' i n = true := by
  intro n
  induction n with
  | zero => intro i _ _; rfl
  | succ n ih =>
    intro i h hf
    simp only [allFresh, Bool.and_eq_true, Option.isNone_iff_eq_none] at hf ⊢
    refine ⟨h 0 (by omega) hf.1, ih (fun j hj hn => ?_) hf.2⟩
    have := h (j + 1) (by omega) (by rw [← hn]; congr 1; omega)
    rw [← this]; congr 1; omega

theorem boundA_congr {d : Int} {x : Option Operand} (h : ∀ y, x = some y → st'.val L 0 y = st.val L 0 y) : boundA L st' d x = boundA L st d x := by
  cases x with
  | none => rfl
  | some y => simp only [boundA]; rw [h y rfl]

theorem mem_zip_right {α β : Type} {l : List α} {m : List β} {x : α} {y : β} (h : (x, y) ∈ l.zip m) : y ∈ m := (List.of_mem_zip h).2

theorem callA_congr {fresh : Nat} {orc : Option Orc} {f : FuncId} {args : List V} {e : Eff} {ps : List Prop} (hx : callA H fresh orc st f args = some (e, ps)) (ho : ∀ o, o ∈ e.reads → get st'.objs o = get st.objs o)
    (hn : ∀ j, j < 16 → get st.objs (fresh + j) = none → get st'.objs (fresh + j) = none) : callA H fresh orc st' f args = some (e, ps) := by
  unfold callA at hx ⊢
  split at hx
  rotate_left
  · cases hx
  rename_i is objs r ks
  split at hx
  rotate_left
  · cases hx
  rename_i os hos
  dsimp only at hx
  split at hx
  rotate_left
  · cases hx
  rename_i hchk
  simp only [Option.some.injEq, Prod.mk.injEq] at hx
  obtain ⟨rfl, rfl⟩ := hx
  have hg : getAll st'.objs is = some os := by rw [getAll_congr ho]; exact hos
  dsimp only
  rw [hg]
  simp only [Bool.and_eq_true] at hchk
  dsimp only
  rw [if_pos]
  simp only [Bool.and_eq_true]
  have h16 : objs.length ≤ 16 := Nat.le_of_ble_eq_true hchk.1.1.2
  exact ⟨hchk.1, allFresh_congr (fun j hj => hn j (by omega)) hchk.2⟩

theorem builtinA_congr {fresh : Nat} {b : Builtin} {ty : TypeId} {args : List (TypeId × Operand)} {e : Eff} {ps : List Prop} (hx : builtinA L fresh st b ty args = some (e, ps)) (hv : ∀ t ty x, (t, x) ∈ args → st'.val L ty x = st.val L ty x)
    (ho : ∀ o, o ∈ e.reads → get st'.objs o = get st.objs o) : builtinA L fresh st' b ty args = some (e, ps) := by
  unfold builtinA at hx ⊢
  split at hx
  · rename_i t x
    rw [hv t _ x (by simp)]; exact hx
  · rename_i t s t' x
    rw [hv t _ s (by simp), hv t' _ x (by simp)]
    split at hx
    rotate_left
    · cases hx
    rename_i htt
    rw [if_pos htt]
    split at hx
    rotate_left
    · cases hx
    rename_i p q e' te hs hq he
    split at hx
    rotate_left
    · cases hx
    rename_i sz l tok sz' m hg hrow
    split at hx
    rotate_left
    · cases hx
    rename_i hc
    have htk : tokOk st'.objs e' sz tok = tokOk st.objs e' sz tok := by
      cases tok with
      | none => rfl
      | some i =>
        have h2 := hx
        simp only [Option.some.injEq, Prod.mk.injEq] at h2
        have := ho i (by rw [← h2.1]; simp)
        simp only [tokOk, this]
    rw [if_pos (by rw [htk]; exact hc)]
    exact hx
  · rename_i t x t' y
    rw [hv t _ x (by simp), hv t' _ y (by simp)]; exact hx
  · rename_i t x t' y
    rw [hv t _ x (by simp), hv t' _ y (by simp)]; exact hx
  · cases hx

theorem opB_congr {fresh : Nat} {orc : Option Orc} {o : Oper} {e : Eff} {ps : List Prop} (hx : opB H L fresh orc st o = some (e, ps)) (h : Agr L st st' o.op.operands.toList e.reads fresh) : opB H L fresh orc st' o = some (e, ps) := by
  obtain ⟨hv, ho, hnew⟩ := h
  cases hop : o.op with
  | move x => simp only [hop, Op.operands] at hv; simp only [opB, hop] at hx ⊢; rw [hv _ x (by simp)]; exact hx
  | assign x => simp only [hop, Op.operands] at hv; simp only [opB, hop] at hx ⊢; rw [hv _ x (by simp)]; exact hx
  | pick c x y =>
    simp only [hop, Op.operands] at hv; simp only [opB, hop] at hx ⊢
    rw [hv _ c (by simp)]
    split at hx
    · rename_i t hc
      rw [hv _ (cond t x y) (by cases t <;> simp)]; exact hx
    · cases hx
  | alloc t => simp only [opB, hop] at hx ⊢; exact hx
  | box t x => simp only [hop, Op.operands] at hv; simp only [opB, hop] at hx ⊢; rw [hv _ x (by simp)]; exact hx
  | build t parts =>
    simp only [hop, Op.operands] at hv
    have hv' : ∀ i x ty, (i, x) ∈ parts.toList → st'.val L ty x = st.val L ty x := fun i x ty hm => hv ty x (by
      simp only [List.mem_map]; exact ⟨(i, x), by simpa using hm, rfl⟩)
    simp only [opB, hop] at hx ⊢
    have e1 : ∀ f : Nat → TypeId, mapParts (fun i x => st'.val L (f i) x) parts.toList = mapParts (fun i x => st.val L (f i) x) parts.toList := fun f => mapParts_congr fun i x hm => hv' i x _ hm
    split at hx
    · split at hx
      · rename_i fs hd
        have := e1 fun i => fieldTy fs.toList i
        rw [this]; exact hx
      · rename_i n e' hd
        have := e1 fun _ => e'
        rw [this]; exact hx
      · cases hx
    · cases hx
  | buildSlice t len parts =>
    simp only [hop, Op.operands] at hv
    have hv' : ∀ i x ty, (i, x) ∈ parts.toList → st'.val L ty x = st.val L ty x := fun i x ty hm => hv ty x (by
      simp only [List.mem_map]; exact ⟨(i, x), by simpa using hm, rfl⟩)
    simp only [opB, hop] at hx ⊢
    have e1 : ∀ e', mapParts (fun _ x => st'.val L e' x) parts.toList = mapParts (fun _ x => st.val L e' x) parts.toList := fun e' => mapParts_congr fun i x hm => hv' i x _ hm
    simp only [e1]; exact hx
  | load t x =>
    simp only [hop, Op.operands] at hv; simp only [opB, hop] at hx ⊢
    rw [hv _ x (by simp)]
    split at hx
    · rename_i p off ti hv' ht
      split at hx
      · rename_i l hp
        obtain ⟨v, h1, h2⟩ := map_some hx
        simp only [Prod.mk.injEq] at h2; obtain ⟨rfl, rfl⟩ := h2
        have := ho p (by simp)
        rw [this, hp, ]
        exact hx
      · cases hx
    · exact hx
    · exact hx
    · cases hx
  | store t x y =>
    simp only [hop, Op.operands] at hv; simp only [opB, hop] at hx ⊢
    rw [hv _ x (by simp), hv _ y (by simp)]
    split at hx
    · rename_i p off ti v hv' ht hy
      split at hx
      · rename_i l cs hp hcs
        split at hx
        · rename_i hc
          have h2 := hx
          simp only [Option.some.injEq, Prod.mk.injEq] at hx; obtain ⟨rfl, rfl⟩ := hx
          have := ho p (by simp)
          rw [this, hp, hcs]
          dsimp only
          rw [if_pos hc]
        · cases hx
      · cases hx
    · cases hx
  | nilCheck x => simp only [hop, Op.operands] at hv; simp only [opB, hop] at hx ⊢; rw [hv _ x (by simp)]; exact hx
  | binOp op t x y yt => simp only [hop, Op.operands] at hv; simp only [opB, hop] at hx ⊢; rw [hv _ x (by simp), hv _ y (by simp)]; exact hx
  | unOp op t x => simp only [hop, Op.operands] at hv; simp only [opB, hop] at hx ⊢; rw [hv _ x (by simp)]; exact hx
  | convert src dst x => simp only [hop, Op.operands] at hv; simp only [opB, hop] at hx ⊢; rw [hv _ x (by simp)]; exact hx
  | makeFunc fn first caps =>
    cases fn with
    | func f =>
      simp only [hop, Op.operands] at hv
      simp only [opB, hop] at hx ⊢
      rw [valAll_congr (f := fun t x => st.val L t x) (f' := fun t x => st'.val L t x) (l := first.toList.map (0, ·)) (fun t x hm => hv t x (by
          simp only [List.mem_map, Prod.mk.injEq] at hm
          obtain ⟨y, hy, _, rfl⟩ := hm
          simp; exact .inl (by simpa using hy))),
        valAll_congr (f := fun t x => st.val L t x) (f' := fun t x => st'.val L t x) (l := caps.toList.map (0, ·)) (fun t x hm => hv t x (by
          simp only [List.mem_map, Prod.mk.injEq] at hm
          obtain ⟨y, hy, _, rfl⟩ := hm
          simp; exact .inr (by simpa using hy)))]
      exact hx
    | _ => simp [opB, hop] at hx
  | slice t x lo hi mx =>
    cases mx with
    | some m => simp [opB, hop] at hx
    | none =>
      simp only [hop, Op.operands] at hv
      simp only [opB, hop] at hx ⊢
      have e1 : ∀ d, boundA L st' d lo = boundA L st d lo := fun d => boundA_congr fun y hy => hv _ y (by subst hy; simp)
      have e2 : ∀ d, boundA L st' d hi = boundA L st d hi := fun d => boundA_congr fun y hy => hv _ y (by subst hy; simp)
      simp only [e1, e2]
      rw [hv _ x (by simp)]; exact hx
  | fieldAddr s x f => simp only [hop, Op.operands] at hv; simp only [opB, hop] at hx ⊢; rw [hv _ x (by simp)]; exact hx
  | field t x f => simp only [hop, Op.operands] at hv; simp only [opB, hop] at hx ⊢; rw [hv _ x (by simp)]; exact hx
  | indexAddr t x ix => simp only [hop, Op.operands] at hv; simp only [opB, hop] at hx ⊢; rw [hv _ x (by simp), hv _ ix (by simp)]; exact hx
  | index t x ix => simp only [hop, Op.operands] at hv; simp only [opB, hop] at hx ⊢; rw [hv _ x (by simp), hv _ ix (by simp)]; exact hx
  | extract x i => simp only [hop, Op.operands] at hv; simp only [opB, hop] at hx ⊢; rw [hv _ x (by simp)]; exact hx
  | call c =>
    obtain ⟨callee, args, ats⟩ := c
    simp only [hop, Op.operands] at hv
    simp only [opB, hop] at hx ⊢
    split at hx
    · rename_i b
      split at hx
      · rename_i hsz
        rw [if_pos hsz]
        exact builtinA_congr hx (fun t ty x hm => hv ty x (by
          have := mem_zip_right hm
          simp [Call.operands]; simpa using this)) ho
      · cases hx
    · rename_i f
      rw [hv _ f (by simp [Call.operands]), valAll_congr (f := fun t x => st.val L t x) (f' := fun t x => st'.val L t x) (fun t x hm => hv t x (by
          have := mem_zip_right hm
          simp [Call.operands]; exact .inr (by simpa using this)))]
      split at hx
      · split at hx
        · rename_i hsz
          rw [if_pos hsz]
          exact callA_congr hx ho hnew
        · cases hx
      · cases hx
    · cases hx
  | _ => simp [opB, hop] at hx

theorem opX_congr {fresh : Nat} {orc : Option Orc} {o : Oper} {e : Eff} {ps : List Prop} (hx : opX L fresh orc st o = some (e, ps)) (h : Agr L st st' o.op.operands.toList e.reads fresh) :
    opX L fresh orc st' o = some (e, ps) ∧ opB H L fresh orc st' o = opB H L fresh orc st o := by
  obtain ⟨hv, ho, hnew⟩ := h
  unfold opX at hx
  split at hx
  · rename_i op xt x y yt hop
    simp only [hop, Op.operands] at hv
    simp only [opX, opB, hop]
    rw [hv _ x (by simp), hv _ y (by simp)]
    exact ⟨hx, rfl⟩
  · rename_i src dst x hop
    simp only [hop, Op.operands] at hv
    simp only [opX, opB, hop]
    rw [hv _ x (by simp)]
    refine ⟨?_, rfl⟩
    split at hx
    rotate_left
    · cases hx
    split at hx
    · split at hx
      rotate_left
      · cases hx
      rename_i hpo hte
      split at hx
      rotate_left
      · cases hx
      rename_i hc
      have h2 := hx
      simp only [Option.some.injEq, Prod.mk.injEq] at hx; obtain ⟨rfl, rfl⟩ := hx
      rw [ho _ (by simp), hpo, hte]
      exact if_pos hc
    · split at hx
      rotate_left
      · cases hx
      rename_i hpo htu
      split at hx
      rotate_left
      · cases hx
      rename_i hti
      split at hx
      rotate_left
      · cases hx
      rename_i hc
      simp only [Option.some.injEq, Prod.mk.injEq] at hx; obtain ⟨rfl, rfl⟩ := hx
      rw [ho _ (by simp), hpo, htu]
      simp only [hti]
      exact if_pos hc
    · exact hx
    · cases hx
  · rename_i args ats hop
    obtain ⟨args⟩ := args
    obtain ⟨ats⟩ := ats
    dsimp only at hx
    split at hx
    rotate_left
    · cases hx
    rename_i x t
    simp only [hop, Op.operands, Call.operands] at hv
    have hxm : ∀ ty, st'.val L ty x = st.val L ty x := fun ty => hv ty x (by simp)
    simp only [opX, opB, hop, hxm]
    refine ⟨?_, ?_⟩
    · split at hx
      rotate_left
      · cases hx
      split at hx
      rotate_left
      · cases hx
      rename_i tok hd hg
      split at hx
      rotate_left
      · cases hx
      rename_i hc
      simp only [Option.some.injEq, Prod.mk.injEq] at hx; obtain ⟨rfl, rfl⟩ := hx
      refine if_pos ⟨hc.1, hc.2.1, ?_⟩
      cases tok with
      | none => rfl
      | some p => simp only [tokOk]; rw [ho p (by simp [tokR])]; exact hc.2.2
    · simp [builtinA]
  · rename_i args ats hop
    obtain ⟨args⟩ := args
    obtain ⟨ats⟩ := ats
    dsimp only at hx
    split at hx
    rotate_left
    · cases hx
    rename_i x n pt it
    simp only [hop, Op.operands, Call.operands] at hv
    have hxm : ∀ ty, st'.val L ty x = st.val L ty x := fun ty => hv ty x (by simp)
    have hnm : ∀ ty, st'.val L ty n = st.val L ty n := fun ty => hv ty n (by simp)
    simp only [opX, opB, hop, hxm, hnm]
    refine ⟨?_, ?_⟩
    · split at hx
      rotate_left
      · cases hx
      split at hx
      rotate_left
      · cases hx
      rename_i hd
      split at hx
      · rename_i hte hpo
        split at hx
        rotate_left
        · cases hx
        rename_i hc
        simp only [Option.some.injEq, Prod.mk.injEq] at hx; obtain ⟨rfl, rfl⟩ := hx
        rw [ho _ (by simp), hpo, hte]
        exact if_pos hc
      · rename_i hte hpo
        simp only [Option.some.injEq, Prod.mk.injEq] at hx; obtain ⟨rfl, rfl⟩ := hx
        rw [ho _ (by simp), hpo, hte]
      · cases hx
    · simp [builtinA]
  · cases hx

theorem opA_congr {fresh : Nat} {orc : Option Orc} {o : Oper} {e : Eff} {ps : List Prop} (hx : opA H L fresh orc st o = some (e, ps)) (h : Agr L st st' o.op.operands.toList e.reads fresh) : opA H L fresh orc st' o = some (e, ps) := by
  unfold opA at hx ⊢
  split at hx
  · rename_i r hr
    simp only [Option.some.injEq] at hx; subst hx
    rw [opB_congr hr h]
  · rename_i hr
    obtain ⟨h1, h2⟩ := opX_congr (H := H) hx h
    rw [h2, hr]
    exact h1

end
end Go.Abs
