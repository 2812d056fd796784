/- The operations of the second part: ==, conversions of pointers and of bytes, what strings.Builder's String does. -/
import Derived.Test.YtoioflodpmideaaAbs13
import Derived.Laws.StructEq
import Derived.Laws.BytesArg
import Derived.Lib.Builder
import Derived.Lib.UnsafeStr
namespace Go.Abs

section
variable {P : Program} {L : Lay} {cx : Cx} {g : Gh} {st : St} {a : Act} {w : World}

theorem RA.lit_inv {v u : Value} (h : RA g v (.c (.lit u))) : v = u := (RV.one _ _ h).lit_inv
theorem RA.str_inv {v : Value} {l : Str} (h : RA g v (.c (.str l))) : ∃ s : ByteArray, v = .string s ∧ s.data.toList = l := (RV.one _ _ h).str_inv

theorem toList_eq_data (s : ByteArray) : s.toList = s.data.toList := ByteArray.toList_eq s

theorem seg_one {l r : List A} {k : Nat} {b : A} (h : l.drop k = b :: r) : seg l k 1 = some [b] := by
  have hlen : k < l.length := by
    rcases Nat.lt_or_ge k l.length with h' | h'
    · exact h'
    · rw [List.drop_of_length_le h'] at h; cases h
  unfold seg
  rw [if_pos (by omega), h]
  rfl

theorem eqCell_agg {t : TypeDesc} {c d : A} {b : Bool} (h : eqCell t c d = some b) : isAggD t = false := by
  unfold eqCell at h
  split at h <;> first | rfl | cases h

theorem eqCell_ok {t : TypeDesc} {ty : TypeId} (ht : P.underlying ty = some t) {c d : A} {b : Bool} (h : eqCell t c d = some b) {u v : Value} (h1 : RA g u c) (h2 : RA g v d) (n : Nat) : (Op.equalIn (n + 1) ty u v).run P w = .ok b w := by
  unfold eqCell at h
  split at h
  · split at h
    · rename_i hk
      subst hk
      simp only [Option.some.injEq] at h; subst h
      rw [h1.lit_inv, h2.lit_inv, run_equalIn_int w n ty _ _ _ _ ht]
      congr 1
    · cases h
  · simp only [Option.some.injEq] at h; subst h
    rw [h1.lit_inv, h2.lit_inv, run_equalIn_bool' w n ty _ _ ht]
  · simp only [Option.some.injEq] at h; subst h
    obtain ⟨s1, rfl, rfl⟩ := h1.str_inv
    obtain ⟨s2, rfl, rfl⟩ := h2.str_inv
    rw [run_equalIn_string w n ty _ _ ht, toList_eq_data, toList_eq_data]
    congr 1
    rw [Bool.eq_iff_iff]; simp
  · cases h

theorem eqF_ok (hL : LOk P L) {xs ys : Array Value} {l m : List A} (hx : RL g xs.toList l) (hy : RL g ys.toList m) (n : Nat) : ∀ (fs : List Field) (k : Nat) (b : Bool),
    eqF L fs k (l.drop k) (m.drop k) = some b → (Op.eqFields (n + 1) xs ys fs).run P w = .ok b w := by
  intro fs
  induction fs with
  | nil =>
    intro k b he
    unfold eqF at he
    split at he
    · simp only [Option.some.injEq] at he; subst he; simp [Op.eqFields]
    · rename_i h _ _; cases h
    · cases he
  | cons f fs ih =>
    intro k b he
    cases hl : l.drop k with
    | nil => rw [hl] at he; simp [eqF] at he
    | cons c r =>
      cases hm : m.drop k with
      | nil => rw [hl, hm] at he; simp [eqF] at he
      | cons d r' =>
        have hl' : l.drop (k + 1) = r := by rw [← List.drop_drop, hl]; rfl
        have hm' : m.drop (k + 1) = r' := by rw [← List.drop_drop, hm]; rfl
        have s1 := seg_one hl
        have s2 := seg_one hm
        rw [hl, hm] at he
        simp only [eqF] at he
        split at he
        rotate_left
        · cases he
        rename_i t ht
        have hT := hL _ t ht
        split at he
        rotate_left
        · cases he
        rename_i hc
        obtain ⟨hoff, hsz, hname⟩ := hc
        split at he
        rotate_left
        · cases he
        rename_i p y hp hy'
        simp only [Option.some.injEq] at he; subst he
        have ha := eqCell_agg hp
        obtain ⟨u, q1, q2⟩ := run_part (w := w) hT (off := f.offset) (x := .one c) hx (by unfold partA; rw [hsz, hoff, s1]; simp [V.ofCells, ha])
        obtain ⟨u', q1', q2'⟩ := run_part (w := w) hT (off := f.offset) (x := .one d) hy (by unfold partA; rw [hsz, hoff, s2]; simp [V.ofCells, ha])
        have h3 := eqCell_ok (w := w) hT.desc hp q2.one_inv q2'.one_inv n
        have hn' : f.name ≠ "_" := by simpa using hname
        simp only [Op.eqFields, if_pos hn', Sem.run_bind, q1, q1', h3, Result.andThen_ok]
        have hrec := ih (k + 1) y (by rw [hl', hm']; exact hy')
        cases p with
        | false => simp
        | true => simp only [Bool.not_true, Bool.false_eq_true, if_false, Bool.true_and]; exact hrec

theorem stp_eqlA (hL : LOk P L) (hr : Rel g st a w) {o : Oper} {op : BinOp} {t yt : TypeId} {x y : Operand} (ho : o.op = .binOp op t x y yt) {u v : V} (hx : st.val L t x = some u) (hy : st.val L t y = some v) {ti : TI} (ht : get L t = some ti)
    {b r : Bool} (hb : eqlA L ti u v = some b) (hop : (op = .eql ∧ r = b) ∨ (op = .neq ∧ r = !b)) : ∃ v' w' g' B, Stp P g st a w o { val := .bool r } v' w' g' B := by
  have h1 := val_ok hr hx
  have h2 := val_ok hr hy
  have hT := hL t ti ht
  have key : (eqGuard op t x y (a.eval x) (a.eval y)).run P w = .ok () w → (binOp op t (a.eval x) (a.eval y)).run P w = .ok (.bool r) w → ∃ v' w' g' B, Stp P g st a w o { val := .bool r } v' w' g' B := by
    intro hg hq
    exact Stp.quiet hr (v := .bool r) (by simp [execOp, ho, hg, hq]) (rv_lit rfl)
  have pq : ∀ (p q : Option Addr), a.eval x = .pointer p → a.eval y = .pointer q → (Op.equalIn 10000 t (.pointer p) (.pointer q)).run P w = .ok b w → ∃ v' w' g' B, Stp P g st a w o { val := .bool r } v' w' g' B := by
    intro p q e1 e2 he
    rw [e1, e2] at key
    refine key (run_eqGuard_plain ⟨by simp, by simp⟩) ?_
    rcases hop with ⟨rfl, rfl⟩ | ⟨rfl, rfl⟩ <;> simp [binOp, Op.equal, Op.maxDepth, he]
  unfold eqlA at hb
  split at hb
  · rename_i e o1 f1 o2 f2 hd
    split at hb
    rotate_left
    · cases hb
    rename_i te hte
    split at hb
    rotate_left
    · cases hb
    rename_i hc
    simp only [Option.some.injEq] at hb; subst hb
    obtain ⟨hsz, rfl, rfl⟩ := hc
    obtain ⟨b1, hb1, e1⟩ := h1.ptr_inv
    obtain ⟨b2, hb2, e2⟩ := h2.ptr_inv
    rw [hb1] at hb2; simp only [Option.some.injEq] at hb2; subst hb2
    refine pq _ _ e1 e2 ?_
    have hs := (hL e te hte).run_sizeOf (w := w)
    have hu := hT.desc
    rw [hd] at hu
    have h : ∀ d : Nat, (Op.equalIn (d + 1) t (.pointer (some ⟨b1, f1, none⟩)) (.pointer (some ⟨b1, f1, none⟩))).run P w = .ok true w := fun d => by
      simp [Op.equalIn, run_underlying hu, hs, run_sameAddr_same]
    exact h 9999
  · rename_i e1 o1 f1 hd
    simp only [Option.some.injEq] at hb; subst hb
    obtain ⟨b1, _, e1⟩ := h1.ptr_inv
    refine pq _ _ e1 h2.lit_inv ?_
    have hu := hT.desc
    rw [hd] at hu
    have h : ∀ d : Nat, (Op.equalIn (d + 1) t (.pointer (some ⟨b1, f1, none⟩)) (.pointer none)).run P w = .ok false w := fun d => by
      simp [Op.equalIn, run_underlying hu]
    exact h 9999
  · rename_i e1 o1 f1 hd
    simp only [Option.some.injEq] at hb; subst hb
    obtain ⟨b1, _, e1⟩ := h2.ptr_inv
    refine pq _ _ h1.lit_inv e1 ?_
    have hu := hT.desc
    rw [hd] at hu
    have h : ∀ d : Nat, (Op.equalIn (d + 1) t (.pointer none) (.pointer (some ⟨b1, f1, none⟩))).run P w = .ok false w := fun d => by
      simp [Op.equalIn, run_underlying hu]
    exact h 9999
  · rename_i hd
    simp only [Option.some.injEq] at hb; subst hb
    refine pq _ _ h1.lit_inv h2.lit_inv ?_
    have hu := hT.desc
    rw [hd] at hu
    have h : ∀ d : Nat, (Op.equalIn (d + 1) t (.pointer none) (.pointer none)).run P w = .ok true w := fun d => by
      simp [Op.equalIn, run_underlying hu]
    exact h 9999
  · rename_i fs l m hd
    split at hb
    rotate_left
    · cases hb
    rename_i hstd
    obtain ⟨hs1, hs2⟩ := hT.std hstd
    have hu := hT.desc
    rw [hd] at hu
    have hf : P.fieldsOf t = fs := by simp [Program.fieldsOf, hu]
    generalize hq : a.eval x = p at h1
    generalize hq' : a.eval y = p' at h2
    cases h1 with
    | agg xs _ r1 r2 =>
      cases h2 with
      | agg ys _ r3 r4 =>
        rw [hq, hq'] at key
        have he := eqF_ok (w := w) hL (xs := xs) (ys := ys) (l := l) (m := m) (g := g) ⟨by simpa using r1, fun i v b hv hb => r2 i v b (by simpa using hv) hb⟩ ⟨by simpa using r3, fun i v b hv hb => r4 i v b (by simpa using hv) hb⟩ 9998 fs.toList 0 b (by simpa using hb)
        have he2 : (Op.equalIn 10000 t (.agg xs) (.agg ys)).run P w = .ok b w := by
          rw [run_equalIn_struct w 9999 t xs ys (by rw [hf]; exact hu) hs1, hf]; exact he
        refine key (run_eqGuard_agg w op t x y xs ys hs2) ?_
        rcases hop with ⟨rfl, rfl⟩ | ⟨rfl, rfl⟩
        · rw [run_eql_struct, he2]; rfl
        · rw [run_neq_struct, he2]; rfl
  · cases hb

theorem var_shape (hr : Rel g st a w) {p : Nat} {t : TypeId} {l : List A} (hp : get st.objs p = some (.var t l)) {b : Nat} (hb : g.μ p = some b) : w.shape? b = some (t, l.length) := by
  obtain ⟨b', cur, h1, h2, h3, _⟩ := hr.mem.obj p _ hp
  rw [hb] at h1; simp only [Option.some.injEq] at h1; subst h1
  have := h3.1
  simp at this
  simp [World.shape?, h2, this]

theorem cellsOf_ok (hL : LOk P L) {t : TypeId} {ti : TI} (ht : get L t = some ti) : P.cellsOf t = ti.size := by
  obtain ⟨i, h1, h2, _⟩ := (hL t ti ht).info
  simp [Program.cellsOf, h1, h2]

theorem bytes_cells {h : Hp} {b : Nat} {s : Str} {l : List (List C)} {f : Nat → Value} (hs : l = s.map byteRow) (h1 : ∀ (k : Nat) c, l.flatten[k]? = some c → h b k = some (f k)) (h2 : ∀ (k : Nat) c, l.flatten[k]? = some c → RC h (f k) c) :
    ∀ (j : Nat) x, s[j]? = some x → h b j = some (.int .u8 x.toNat) := by
  subst hs
  intro j x hx
  have hfl : (s.map byteRow).flatten = s.map fun b => C.lit (.int .u8 b.toNat) := by
    clear h1 h2 hx
    induction s with
    | nil => rfl
    | cons x r ih => simp [byteRow, ih]
  have : (s.map byteRow).flatten[j]? = some (C.lit (.int .u8 x.toNat)) := by rw [hfl, List.getElem?_map, hx]; rfl
  have hr := h2 j _ this
  rw [h1 j _ this]
  generalize f j = u at hr ⊢
  cases hr with
  | lit => rfl

theorem flat_bytes (s : Str) : (s.map byteRow).flatten = s.map fun b => C.lit (.int .u8 b.toNat) := by
  induction s with
  | nil => rfl
  | cons x r ih => simp [byteRow, ih]

theorem back_bytes (s : Str) : (s.map fun b => (b.toNat : Int)).map (fun n => UInt8.ofNat n.toNat) = s := by
  induction s with
  | nil => rfl
  | cons x r ih => simp [ih]

theorem memP_ok {i j : Nat} : ∀ {l : List (Nat × Nat)}, memP i j l = true → (i, j) ∈ l := by
  intro l
  induction l with
  | nil => intro h; cases h
  | cons p r ih =>
    intro h
    obtain ⟨x, y⟩ := p
    simp only [memP, Bool.or_eq_true, Bool.and_eq_true] at h
    rcases h with ⟨h1, h2⟩ | h
    · rw [Nat.eq_of_beq_eq_true h1, Nat.eq_of_beq_eq_true h2]; exact List.mem_cons_self ..
    · exact List.mem_cons_of_mem _ (ih h)

theorem isU8_ok {te : TI} (h : isU8 te = true) : te.desc = .int .u8 ∧ te.size = 1 := by
  unfold isU8 at h
  split at h
  · rename_i hd; exact ⟨hd, Nat.eq_of_beq_eq_true h⟩
  · cases h

/-- A row's bytes are made a string's. -/
theorem Chg.freeze {objs : List (Nat × O)} (hm : Rm g objs w) {p b n : Nat} {ob : O} (hp : get objs p = some ob) (hl : ob.live = true) (hb : g.μ p = some b) : Chg g objs w [(p, .dead)] (fun x => x = b) g (w.freeze ⟨b, 0, none⟩ n) := by
  have hh : ∀ b', b' ≠ b → (w.freeze ⟨b, 0, none⟩ n).heap[b']? = w.heap[b']? := by
    intro b' h
    unfold World.freeze
    split
    · rfl
    · simp only [Array.getElem?_modify]
      rw [if_neg (fun e => h e.symm)]
  have hc : ∀ q, (w.freeze ⟨b, 0, none⟩ n).cell? q = w.cell? q := by
    intro q
    unfold World.freeze
    split
    · rfl
    · unfold World.cell?
      simp only [Array.getElem?_modify]
      by_cases e : b = q.block
      · rw [if_pos e]
        cases w.heap[q.block]? with
        | none => rfl
        | some o => cases o <;> rfl
      · rw [if_neg e]
  have hs : (w.freeze ⟨b, 0, none⟩ n).heap.size = w.heap.size := by
    unfold World.freeze
    split <;> simp
  have h0 : (w.freeze ⟨b, 0, none⟩ n).os = w.os ∧ (w.freeze ⟨b, 0, none⟩ n).tape = w.tape ∧ (w.freeze ⟨b, 0, none⟩ n).output = w.output := by
    unfold World.freeze
    split <;> exact ⟨rfl, rfl, rfl⟩
  exact {
    os := h0.1, tape := h0.2.1, output := h0.2.2, size := by rw [hs]; exact Nat.le_refl _
    heap := fun b' _ h => hh b' h
    le := .refl g, μ := fun _ _ => rfl, cap := fun _ _ => rfl
    other := fun o' ob' b' h hl' hu hμ e => by
      subst e
      exact hm.sep p o' _ _ b' hp h hl hl' (fun h' => get_one_none hu h'.symm) hb hμ
    hnew := fun _ _ _ h => .inl h
    obj := fun o' ob' h => by obtain ⟨_, rfl⟩ := get_one h; trivial
    at_ := fun o' ob' b' h hl' _ => by obtain ⟨_, rfl⟩ := get_one h; simp [O.live] at hl'
    sep := fun o1 o2 ob1 ob2 b' h1 _ hl1 => by obtain ⟨_, rfl⟩ := get_one h1; simp [O.live] at hl1
    shut := fun b' k v h => by rw [hc]; exact hm.shut b' k v h
    blk := fun o' b' _ h => by rw [hs]; exact hm.blk o' b' h }

theorem opX_wp (hL : LOk P L) (hr : Rel g st a w) (hf : Fr cx g st.objs w) (hk : cx.k ≤ st.next) {i base : Nat} (hb : st.next ≤ base) {orc : Option Orc} {o : Oper} {e : Eff} {ps : List Prop}
    (hx : opX L (base + 16 * i) orc st o = some (e, ps)) (hp : AllP ps) (hok : freshOk base i st e = true) : OpTo P cx g st a w o e := by
  have hle : st.next ≤ base + 16 * i := by omega
  have S := fun h => OpTo.ofStp (P := P) (cx := cx) (o := o) (e := e) hr hf hk h
  unfold opX at hx
  split at hx
  · -- ==
    rename_i op xt x y yt hop
    split at hx
    rotate_left
    · cases hx
    rename_i ti v u ht hv hu
    split at hx
    · rename_i b hb
      simp only [Option.some.injEq, Prod.mk.injEq] at hx; obtain ⟨rfl, rfl⟩ := hx
      exact S (stp_eqlA hL hr hop hv hu ht hb (.inl ⟨rfl, rfl⟩))
    · rename_i b hb
      simp only [Option.some.injEq, Prod.mk.injEq] at hx; obtain ⟨rfl, rfl⟩ := hx
      exact S (stp_eqlA hL hr hop hv hu ht hb (.inr ⟨rfl, rfl⟩))
    · cases hx
  · -- conversions
    rename_i src dst x hop
    split at hx
    rotate_left
    · cases hx
    rename_i ts td v hs hd hv
    have hS := (hL src ts hs).desc
    have hD := (hL dst td hd).desc
    have h1 := val_ok hr hv
    split at hx
    · rename_i e' p off hds hdd
      rw [hds] at hS; rw [hdd] at hD
      split at hx
      rotate_left
      · cases hx
      rename_i t l te hpo hte
      split at hx
      rotate_left
      · cases hx
      rename_i hc
      simp only [Option.some.injEq, Prod.mk.injEq] at hx; obtain ⟨rfl, rfl⟩ := hx
      obtain ⟨b, hb, he⟩ := h1.ptr_inv
      obtain ⟨j, hj, hjs, _⟩ := (hL e' te hte).info
      refine S (Stp.quiet hr (v := .pointer (some ⟨b, off, none⟩)) ?_ (.one _ _ (.ptr p off b hb)))
      have := Go.Lib.run_to_unsafe (P := P) w ⟨b, off, none⟩ hS hD hj (by rw [hjs]; exact hc.2) (var_shape hr hpo hb) hc.1
      simp [execOp, hop, he, this]
    · rename_i u p off hds hdd
      rw [hds] at hS; rw [hdd] at hD
      split at hx
      rotate_left
      · cases hx
      rename_i t l tu hpo htu
      split at hx
      rotate_left
      · cases hx
      rename_i ti hti
      split at hx
      rotate_left
      · cases hx
      rename_i hc
      simp only [Option.some.injEq, Prod.mk.injEq] at hx; obtain ⟨rfl, rfl⟩ := hx
      obtain ⟨hl, h0, hm⟩ := hc
      obtain ⟨b, hb, he⟩ := h1.ptr_inv
      obtain ⟨j, hj, hjs, _⟩ := (hL u tu htu).info
      refine S (Stp.quiet hr (v := .pointer (some ⟨b, off, none⟩)) ?_ (.one _ _ (.ptr p off b hb)))
      have := Go.Lib.run_from_unsafe (P := P) w ⟨b, off, none⟩ hS hD hj (var_shape hr hpo hb) (by
        rw [hl, cellsOf_ok hL hti, Nat.div_self h0]
        exact (hL t ti hti).sub off u (memP_ok hm))
      simp [execOp, hop, he, this]
    · rename_i e' b hds hdd
      rw [hds] at hS; rw [hdd] at hD
      split at hx
      rotate_left
      · cases hx
      rename_i te sz l s hte hrows
      split at hx
      rotate_left
      · cases hx
      rename_i hc
      simp only [Option.some.injEq, Prod.mk.injEq] at hx; obtain ⟨rfl, rfl⟩ := hx
      obtain ⟨hu8, rfl⟩ := hc
      obtain ⟨hd8, hs8⟩ := isU8_ok hu8
      have hE := (hL e' te hte).desc
      rw [hd8] at hE
      have hls : l = s.map byteRow := hp.1
      obtain ⟨ad, cap, news, he, had, hnl, hcell, _, _, hrc⟩ := rows_src hr.mem h1.one_inv hrows
      subst hls
      have hfl := flat_bytes s
      have hnews : ∀ (j : Nat) x, s[j]? = some x → news[j]? = some (.int .u8 x.toNat) := by
        intro j x hx
        have hj : j < news.length := by
          have := (List.getElem?_eq_some_iff.1 hx).1
          simp at hnl; omega
        have := hrc j (.lit (.int .u8 x.toNat)) news[j] (by rw [hfl, List.getElem?_map, hx]; rfl) (by simp)
        rw [List.getElem?_eq_getElem hj]
        generalize news[j] = q at this
        cases this
        rfl
      refine S (Stp.quiet hr (v := .string ⟨s.toArray⟩) ?_ (rv_str (by simp)))
      cases ad with
      | none =>
        have h0 := had rfl
        have h0 : s = [] := by simpa using h0
        subst h0
        have := run_convert_bytes_nil (P := P) w src e' hS hE 0 cap dst hD
        simp at he
        simp only [execOp, hop, he]
        simp [this]
        rfl
      | some q =>
        have := run_convert_bytes_string w src dst e' (some q) s.length cap hS hE hD
        have hl := run_loadCells_list (P := P) w q ((s.map (fun b => (b.toNat : Int))).map (Value.int .u8)) (fun j v hj => by
          simp only [List.map_map, List.getElem?_map, Option.map_eq_some_iff] at hj
          obtain ⟨x, hx, rfl⟩ := hj
          exact hcell q rfl j _ (hnews j x hx))
        simp only [List.length_map] at hl
        have h3 := run_bytesToString w q s.length cap _ hl
        rw [foldl_push_bytes] at h3
        have he0 : ByteArray.empty.data = #[] := rfl
        rw [he0, back_bytes] at h3
        simp only [List.length_map] at he
        simp only [execOp, hop, he]
        simp [this, h3]
    · cases hx
  · -- where a row lies
    rename_i args ats hop
    obtain ⟨args⟩ := args
    obtain ⟨ats⟩ := ats
    dsimp only at hx
    split at hx
    rotate_left
    · cases hx
    rename_i x t
    split at hx
    rotate_left
    · cases hx
    rename_i b e' te tp hv he htp
    split at hx
    rotate_left
    · cases hx
    rename_i e2 sz l tok hd hg
    split at hx
    rotate_left
    · cases hx
    rename_i hc
    simp only [Option.some.injEq, Prod.mk.injEq] at hx; obtain ⟨rfl, rfl⟩ := hx
    obtain ⟨rfl, hsz, htk⟩ := hc
    have hn := freshOk_none hok (List.mem_cons_self ..)
    have hμ := hr.fresh _ hle hn
    have hD := (hL _ tp htp).desc
    rw [hd] at hD
    have quiet : ∀ v : Option Addr, (execOp a.eval o).run P w = .ok (.value (.pointer v)) w → RV g (.pointer v) (.sdat l (tokO (base + 16 * i) tok)) →
        ∃ v' w' g' B, Stp P g st a w o { val := .sdat l (tokO (base + 16 * i) tok), upd := [(base + 16 * i, .dead)], reads := tokR tok } v' w' g' B := by
      intro v hrun hval
      refine ⟨_, w, g, fun _ => False, .inl hrun, hval, by simpa using (Chg.nothing hr.mem).addDead hr.mem (o := base + 16 * i), fun _ h => h.elim, fun j t' l' h => ?_⟩
      obtain ⟨_, h⟩ := get_one h; cases h
    rcases grows_inv (val_ok hr hv).one_inv hg with ⟨hq, rfl⟩ | ⟨p, b', f, rfl, hb', hq, h1, h2, h3, h4, h5, h6⟩
    · refine S (quiet none ?_ (.sdat none [] _ 0 (fun _ => undef) (.inl rfl) (by simp) (by simp)))
      simp [execOp, hop, resolve, invoke, builtin, hq, Go.Lib.run_unsafeSliceData_nil]
    · by_cases h0 : (g.cap p).1 = 0
      · have hl0 : l = [] := List.length_eq_zero_iff.1 (by omega)
        subst hl0
        simp only [tokOk] at htk
        split at htk
        rotate_left
        · cases htk
        rename_i e1 sz1 hg1
        simp only [Bool.and_eq_true] at htk
        obtain ⟨cur, hcur, _⟩ := hr.mem.obj p _ hg1 b' hb'
        have hsh : w.shape? b' = some (e1, cur.size) := by simp [World.shape?, hcur]
        have hrun := Go.Lib.run_unsafeSliceData_zero (P := P) w #[t] o.type e2 hD ⟨b', 0, none⟩ 0 (e1, cur.size) hsh
        have hc := Chg.new hr.mem (ob := .dead) hμ hn (X := .view ⟨b', 0, none⟩ e2) (cap := (0, 0)) (f := g.h)
          (fun k v h => by
            have := World.block_lt_of_cell? w _ (hr.mem.shut _ _ _ h)
            simp at this)
          (fun _ _ _ => rfl) trivial
        refine S ⟨.pointer (some ⟨w.heap.size, 0, none⟩), _, _, _, .inl ?_, .sdat _ [] _ 0 (fun _ => undef) (.inl rfl) (by simp) (by simp), hc, fun _ h => h.elim, fun j t' l' h => ?_⟩
        · simp only [List.length_nil, h0] at hq
          simp [execOp, hop, resolve, invoke, builtin, hq, hrun]
        · obtain ⟨_, h⟩ := get_one h; cases h
      · refine S (quiet (some ⟨b', 0, none⟩) ?_ (.sdat _ l p b' f (.inr ⟨hb', rfl, h4, h1⟩) h5 h6))
        simp [execOp, hop, resolve, invoke, builtin, hq, Go.Lib.run_unsafeSliceData_row (P := P) w _ _ _ _ _ h0]
  · -- a text out of a place
    rename_i args ats hop
    obtain ⟨args⟩ := args
    obtain ⟨ats⟩ := ats
    dsimp only at hx
    split at hx
    rotate_left
    · cases hx
    rename_i x n pt it
    split at hx
    rotate_left
    · cases hx
    rename_i l p m tp hv hn htp
    have hm := (val_ok hr hn).lit_inv
    have hD := (hL _ tp htp).desc
    split at hx
    rotate_left
    · cases hx
    rename_i e' s hd
    rw [hd] at hD
    have h1 := val_ok hr hv
    generalize hq : a.eval x = q at h1
    cases h1 with
    | sdat q _ _ b f h1 h2 h3 =>
    split at hx
    · rename_i te e2 sz hte hpo
      split at hx
      rotate_left
      · cases hx
      rename_i hc
      simp only [Option.some.injEq, Prod.mk.injEq] at hx; obtain ⟨rfl, rfl⟩ := hx
      obtain ⟨hu8, rfl, rfl⟩ := hc
      obtain ⟨hd8, hs8⟩ := isU8_ok hu8
      obtain ⟨hls, hms, hmax, _⟩ := hp
      by_cases h0 : s = []
      · subst h0
        refine S ⟨.string .empty, w, g, fun _ => False, .inl ?_, rv_str rfl, by simpa using (Chg.nothing hr.mem).addDead hr.mem (o := p), fun _ h => h.elim, fun j t' l' h => ?_⟩
        · simp only [List.length_nil] at hms
          simp only [execOp, hop]
          simp [resolve, invoke, builtin, hq, hm, hms, Go.Lib.run_unsafeString_none]
        · obtain ⟨_, h⟩ := get_one h; cases h
      · have hl0 : l ≠ [] := by subst hls; simpa using h0
        obtain ⟨hb, hqq, hrl, hcap⟩ := h1.resolve_left hl0
        subst hqq
        obtain ⟨cur, hcur, hcs, _⟩ := hr.mem.obj p _ hpo b hb
        have hsh : w.shape? b = some (e2, cur.size) := by simp [World.shape?, hcur]
        have hlen : l.length = s.length := by subst hls; simp
        have hb8 := bytes_cells hls h2 h3
        have hrun := Go.Lib.run_unsafeString_row (P := P) w pt it o.type e2 hD (by rw [cellsOf_ok hL hte, hs8]) b cur.size hsh s h0 (by omega) (by unfold maxLen at hmax; exact hmax) (fun j x hx => by
          rw [Addr.add_lit]
          have := hr.mem.shut _ _ _ (hb8 j x hx)
          simpa using this)
        refine S ⟨.string ⟨s.toArray⟩, _, g, _, .inl ?_, rv_str (by simp), Chg.freeze (n := s.length) hr.mem hpo rfl hb, fun b' h => ⟨p, _, hpo, rfl, by rw [h]; exact hb⟩, fun j t' l' h => ?_⟩
        · simp [execOp, hop, resolve, invoke, builtin, hq, hm, hms, hrun]
        · obtain ⟨_, h⟩ := get_one h; cases h
    · rename_i te hte hpo
      simp only [Option.some.injEq, Prod.mk.injEq] at hx; obtain ⟨rfl, rfl⟩ := hx
      obtain ⟨hls, hms, rfl, _⟩ := hp
      refine S (Stp.quiet hr (v := .string .empty) ?_ (rv_str rfl))
      simp only [List.length_nil] at hms
      simp only [execOp, hop]
      simp [resolve, invoke, builtin, hq, hm, hms, Go.Lib.run_unsafeString_none]
    · cases hx
  · cases hx

/-- An operation. -/
theorem op_wp (hL : LOk P L) (hr : Rel g st a w) (hf : Fr cx g st.objs w) (hk : cx.k ≤ st.next) {i base : Nat} (hb : st.next ≤ base) {orc : Option Orc} {o : Oper} {e : Eff} {ps : List Prop}
    (hx : opA (Has P) L (base + 16 * i) orc st o = some (e, ps)) (hp : AllP ps) (hok : freshOk base i st e = true) : OpTo P cx g st a w o e := by
  unfold opA at hx
  split at hx
  · rename_i r hr'
    simp only [Option.some.injEq] at hx; subst hx
    exact opB_wp hL hr hf hk hb hr' hp hok
  · exact opX_wp hL hr hf hk hb hx hp hok

end
end Go.Abs
