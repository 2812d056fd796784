/- Each operation of the model does what the abstract machine says: computing with values. -/
import Derived.Test.YtoioflodpmideaaAbs7
import Derived.Laws.StructEq
import Derived.Laws.Strings
import Derived.Laws.Concat
import Derived.Lib.SmallJoins
namespace Go.Abs

section
variable {P : Program} {L : Lay} {g : Gh} {st : St} {a : Act} {w : World}

theorem rv_lit {v : Value} (h : v.oneCell' = true) : RV g v (.one (.c (.lit v))) := .one _ _ (.c _ _ (.lit _ h))
theorem rv_str {s : ByteArray} {l : Str} (h : s.data.toList = l) : RV g (.string s) (.str l) := .one _ _ (.c _ _ (.str _ _ h))

theorem RV.one_inv {v : Value} {b : A} (h : RV g v (.one b)) : RA g v b := by cases h with | one _ _ h => exact h

theorem run_eqGuard_plain {op : BinOp} {t : TypeId} {x y : Operand} {u v : Value} (h : (∀ cs, u ≠ .agg cs) ∧ u ≠ .nilIface) : (eqGuard op t x y u v).run P w = .ok () w := by
  unfold eqGuard
  cases u <;> first
    | exact absurd rfl h.2
    | exact absurd rfl (h.1 _)
    | (cases op <;> simp)

theorem run_intBin {op : BinOp} {k : IntKind} {x y : Int} {v : V} {p : Prop} (h : intBinA op k x y = some (v, p)) (hp : p) (t : TypeId) :
    ∃ u, (binOp op t (.int k x) (.int k y)).run P w = .ok u w ∧ RV g u v := by
  cases op <;> simp only [intBinA] at h <;> try (cases h; done)
  all_goals
    simp only [Option.some.injEq, Prod.mk.injEq] at h
    obtain ⟨rfl, rfl⟩ := h
  case add => exact ⟨_, by simp [binOp, Op.intArith], rv_lit rfl⟩
  case sub => exact ⟨_, by simp [binOp, Op.intArith], rv_lit rfl⟩
  case mul => exact ⟨_, by simp [binOp, Op.intArith], rv_lit rfl⟩
  case quo => exact ⟨_, by simp [binOp, Op.intDiv, hp], rv_lit rfl⟩
  case rem => exact ⟨_, by simp [binOp, Op.intDiv, hp], rv_lit rfl⟩
  case eql => exact ⟨_, by simp [binOp, Op.intCmp]; rfl, rv_lit rfl⟩
  case neq => exact ⟨_, by simp [binOp, Op.intCmp]; rfl, rv_lit rfl⟩
  case lss => exact ⟨_, by simp [binOp, Op.intCmp], rv_lit rfl⟩
  case leq => exact ⟨_, by simp [binOp, Op.intCmp], rv_lit rfl⟩
  case gtr => exact ⟨_, by simp [binOp, Op.intCmp], rv_lit rfl⟩
  case geq => exact ⟨_, by simp [binOp, Op.intCmp], rv_lit rfl⟩

theorem run_strBin {op : BinOp} {x y : ByteArray} {v : V} {p : Prop} (h : strBinA op x.data.toList y.data.toList = some (v, p)) (hp : p) (t : TypeId) :
    ∃ u, (binOp op t (.string x) (.string y)).run P w = .ok u w ∧ RV g u v := by
  have he : (x.toList == y.toList) = decide (x.data.toList = y.data.toList) := by
    rw [ByteArray.toList_eq, ByteArray.toList_eq, Bool.eq_iff_iff]; simp
  cases op <;> simp only [strBinA] at h <;> try (cases h; done)
  all_goals
    simp only [Option.some.injEq, Prod.mk.injEq] at h
    obtain ⟨rfl, rfl⟩ := h
  case add =>
    refine ⟨.string (x ++ y), ?_, rv_str (by simp [ByteArray.data_append])⟩
    rw [binOp_string_add, run_string_add_sum]
    simpa using hp
  case eql => exact ⟨_, by rw [binOp_string_eql, he]; rfl, rv_lit rfl⟩
  case neq => exact ⟨_, by rw [binOp_string_neq, he]; rfl, rv_lit rfl⟩

theorem owesB_ok {ti : Option TI} {op : BinOp} {u v r : V} {p : Prop} (hb : binA ti op u v = some (r, p)) (hp : AllP (owesB op u p)) : p := by
  unfold binA at hb
  split at hb
  · split at hb
    · cases op <;> simp only [intBinA] at hb <;> first
        | (cases hb; done)
        | (simp only [Option.some.injEq, Prod.mk.injEq] at hb; obtain ⟨_, rfl⟩ := hb; first | trivial | exact hp.1)
    · cases hb
  · cases op <;> simp only [strBinA] at hb <;> first
      | (cases hb; done)
      | (simp only [Option.some.injEq, Prod.mk.injEq] at hb; obtain ⟨_, rfl⟩ := hb; first | trivial | exact hp.1)
  · split at hb
    · split at hb <;> first
        | (cases hb; done)
        | (simp only [Option.some.injEq, Prod.mk.injEq] at hb; obtain ⟨_, rfl⟩ := hb; trivial)
    · cases hb
  · cases hb

theorem stp_binOp (hL : LOk P L) (hr : Rel g st a w) {o : Oper} {op : BinOp} {t yt : TypeId} {x y : Operand} (ho : o.op = .binOp op t x y yt) {u v r : V} (hx : st.val L t x = some u) (hy : st.val L t y = some v)
    {p : Prop} (hb : binA (get L t) op u v = some (r, p)) (hp : p) : ∃ v' w' g' B, Stp P g st a w o { val := r } v' w' g' B := by
  have h1 := val_ok hr hx
  have h2 := val_ok hr hy
  have key : (∀ cs, a.eval x ≠ .agg cs) → a.eval x ≠ .nilIface → (∃ q, (binOp op t (a.eval x) (a.eval y)).run P w = .ok q w ∧ RV g q r) → ∃ v' w' g' B, Stp P g st a w o { val := r } v' w' g' B := by
    intro hn1 hn2 ⟨q, hq, hrq⟩
    refine Stp.quiet hr (v := q) ?_ hrq
    have hg := run_eqGuard_plain (P := P) (w := w) (op := op) (t := t) (x := x) (y := y) (v := a.eval y) ⟨hn1, hn2⟩
    simp [execOp, ho, hg, hq]
  unfold binA at hb
  split at hb
  · have e1 := h1.lit_inv
    have e2 := h2.lit_inv
    split at hb
    · rename_i hk
      subst hk
      rw [e1, e2] at key
      exact key (by simp) (by simp) (run_intBin hb hp t)
    · cases hb
  · obtain ⟨s1, e1, q1⟩ := h1.str_inv
    obtain ⟨s2, e2, q2⟩ := h2.str_inv
    subst q1; subst q2
    rw [e1, e2] at key
    exact key (by simp) (by simp) (run_strBin hb hp t)
  · have e1 := h1.lit_inv
    have e2 := h2.lit_inv
    rw [e1, e2] at key
    split at hb
    · rename_i ti hti
      have hT := hL t ti hti
      refine key (by simp) (by simp) ?_
      split at hb
      · rename_i hd
        simp only [Option.some.injEq, Prod.mk.injEq] at hb
        obtain ⟨rfl, rfl⟩ := hb
        have := run_equalIn_bool' (P := P) (w := w) 9999 t
        refine ⟨_, ?_, rv_lit rfl⟩
        have he := fun b1 b2 => this b1 b2 (by rw [hT.desc, hd])
        simp only [Nat.reduceAdd] at he
        simp [binOp, Op.equal, Op.maxDepth, he]
      · rename_i hd
        simp only [Option.some.injEq, Prod.mk.injEq] at hb
        obtain ⟨rfl, rfl⟩ := hb
        have := run_equalIn_bool' (P := P) (w := w) 9999 t
        refine ⟨_, ?_, rv_lit rfl⟩
        have he := fun b1 b2 => this b1 b2 (by rw [hT.desc, hd])
        simp only [Nat.reduceAdd] at he
        simp [binOp, Op.equal, Op.maxDepth, he]
      · cases hb
    · cases hb
  · cases hb

theorem stp_not (hr : Rel g st a w) {o : Oper} {t : TypeId} {x : Operand} (ho : o.op = .unOp .not t x) {b : Bool} (hx : st.val L o.type x = some (.bool b)) :
    ∃ v' w' g' B, Stp P g st a w o { val := .bool (!b) } v' w' g' B := by
  have h1 := (val_ok hr hx).lit_inv
  exact Stp.quiet hr (v := .bool (!b)) (by simp [execOp, ho, h1, Op.unary]) (rv_lit rfl)

theorem stp_neg (hr : Rel g st a w) {o : Oper} {t : TypeId} {x : Operand} (ho : o.op = .unOp .neg t x) {k : IntKind} {n : Int} (hx : st.val L o.type x = some (.int k n)) :
    ∃ v' w' g' B, Stp P g st a w o { val := .int k (k.wrap (0 - n)) } v' w' g' B := by
  have h1 := (val_ok hr hx).lit_inv
  exact Stp.quiet hr (v := .int k (k.wrap (0 - n))) (by simp [execOp, ho, h1, Op.unary, Op.intArith]) (rv_lit rfl)

theorem stp_nilCheck (hr : Rel g st a w) {o : Oper} {x : Operand} (ho : o.op = .nilCheck x) {v : V} (hx : st.val L o.type x = some v)
    (hv : (∃ p off, v = .one (.ptr p off)) ∨ (∃ l, v = .one (.c (.ref l))) ∨ (∃ sz l i off, v = .eptr sz l i off) ∨ (∃ f b c, v = .one (.fn f b c))) :
    ∃ v' w' g' B, Stp P g st a w o { val := v } v' w' g' B := by
  have h1 := val_ok hr hx
  refine Stp.quiet hr (v := a.eval x) ?_ h1
  generalize hq : a.eval x = q at h1
  rcases hv with ⟨p, off, rfl⟩ | ⟨l, rfl⟩ | ⟨sz, l, i, off, rfl⟩ | ⟨f, b, c, rfl⟩
  · obtain ⟨b, _, rfl⟩ := h1.ptr_inv
    simp [execOp, ho, hq]
  · cases h1 with
    | one _ _ h => cases h with
      | c _ _ h => cases h with
        | ref => simp [execOp, ho, hq]
  · cases h1 with
    | eptr => simp [execOp, ho, hq]
  · cases h1 with
    | one _ _ h => cases h with
      | fn => simp [execOp, ho, hq]

theorem stp_convInt (hL : LOk P L) (hr : Rel g st a w) {o : Oper} {src dst : TypeId} {x : Operand} (ho : o.op = .convert src dst x) {ts td : TI} (hs : get L src = some ts) (hd : get L dst = some td) {k k' : IntKind} {n : Int}
    (hk : td.desc = .int k) (hx : st.val L src x = some (.int k' n)) : ∃ v' w' g' B, Stp P g st a w o { val := .int k (k.wrap n) } v' w' g' B := by
  have h1 := (val_ok hr hx).lit_inv
  have h2 := (hL src ts hs).run_under (w := w)
  have h3 := (hL dst td hd).run_under (w := w)
  rw [hk] at h3
  refine Stp.quiet hr (v := .int k (k.wrap n)) ?_ (rv_lit rfl)
  simp [execOp, ho, h1, convert, h2, h3, Conv.intToInt]

theorem stp_convStr (hL : LOk P L) (hr : Rel g st a w) {o : Oper} {src dst : TypeId} {x : Operand} (ho : o.op = .convert src dst x) {ts td : TI} (hs : get L src = some ts) (hd : get L dst = some td) {s : Str}
    (hk : ts.desc = .string) (hk' : td.desc = .string) (hx : st.val L src x = some (.str s)) : ∃ v' w' g' B, Stp P g st a w o { val := .str s } v' w' g' B := by
  obtain ⟨b, h1, h4⟩ := (val_ok hr hx).str_inv
  have h2 := (hL src ts hs).run_under (w := w)
  have h3 := (hL dst td hd).run_under (w := w)
  rw [hk'] at h3
  rw [hk] at h2
  refine Stp.quiet hr (v := .string b) ?_ (rv_str h4)
  simp [execOp, ho, h1, convert, h2, h3]

theorem boundA_ok (hr : Rel g st a w) {d n : Int} {x : Option Operand} (h : boundA L st d x = some n) : (x = none ∧ n = d) ∨ ∃ y, x = some y ∧ a.eval y = .int .i64 n := by
  cases x with
  | none => simp [boundA] at h; exact .inl ⟨rfl, h.symm⟩
  | some y =>
    simp only [boundA] at h
    split at h
    · rename_i hv
      simp only [Option.some.injEq] at h
      subst h
      exact .inr ⟨y, rfl, (val_ok hr hv).lit_inv⟩
    · cases h

theorem run_sliceBounds {lo hi : Option Value} {n l h : Nat} (hlo : (lo = none ∧ l = 0) ∨ lo = some (.int .i64 l)) (hhi : (hi = none ∧ h = n) ∨ hi = some (.int .i64 h)) (h1 : l ≤ h) (h2 : h ≤ n) :
    (Instr.sliceBounds false n n lo hi none).run P w = .ok (l, h, n) w := by
  have q1 : (l : Int) ≤ h := by omega
  have q2 : (h : Int) ≤ n := by omega
  unfold Instr.sliceBounds
  rcases hlo with ⟨rfl, rfl⟩ | rfl <;> rcases hhi with ⟨rfl, rfl⟩ | rfl <;> simp [Instr.sliceBound, asIntOf, h1, h2]

theorem extract_toList (s : ByteArray) (l h : Nat) : (s.extract l h).data.toList = (s.data.toList.drop l).take (h - l) := by
  rw [ByteArray.data_extract]
  simp [Array.toList_extract, List.extract_eq_take_drop]

theorem stp_slice (hL : LOk P L) (hr : Rel g st a w) {o : Oper} {t : TypeId} {x : Operand} {lo hi : Option Operand} (ho : o.op = .slice t x lo hi none) {ti : TI} (ht : get L t = some ti) (htd : ti.desc = .string) {s : Str} (hx : st.val L t x = some (.str s)) {l h : Int}
    (hlo : boundA L st 0 lo = some l) (hhi : boundA L st s.length hi = some h) (hp : 0 ≤ l ∧ l ≤ h ∧ h ≤ s.length) :
    ∃ v' w' g' B, Stp P g st a w o { val := .str ((s.drop l.toNat).take (h.toNat - l.toNat)) } v' w' g' B := by
  obtain ⟨b, h1, h4⟩ := (val_ok hr hx).str_inv
  have hsz : b.size = s.length := by rw [← h4]; simp
  have h2 := (hL t ti ht).run_under (w := w)
  rw [htd] at h2
  have h5 : (Instr.sliceBounds false b.size b.size (lo.map a.eval) (hi.map a.eval) none).run P w = .ok (l.toNat, h.toNat, b.size) w := by
    refine run_sliceBounds ?_ ?_ (by omega) (by omega)
    · rcases boundA_ok hr hlo with ⟨rfl, rfl⟩ | ⟨y, rfl, hy⟩
      · exact .inl ⟨rfl, rfl⟩
      · refine .inr ?_
        simp [hy]; omega
    · rcases boundA_ok hr hhi with ⟨rfl, rfl⟩ | ⟨y, rfl, hy⟩
      · exact .inl ⟨rfl, by omega⟩
      · refine .inr ?_
        simp [hy]; omega
  refine Stp.quiet hr (v := .string (b.extract l.toNat h.toNat)) ?_ (rv_str ?_)
  · simp [execOp, ho, Instr.sliceAt, h2, Instr.slice, h1, h5]
  · rw [extract_toList, h4]

theorem stp_index (hL : LOk P L) (hr : Rel g st a w) {o : Oper} {t : TypeId} {x ix : Operand} (ho : o.op = .index t x ix) {ti : TI} (ht : get L t = some ti) (htd : ti.desc = .string) {k : IntKind} {n : Int} (hi : st.val L 0 ix = some (.int k n)) {s : Str} (hx : st.val L t x = some (.str s))
    (hp : 0 ≤ n ∧ n < s.length) : ∃ v' w' g' B, Stp P g st a w o { val := .int .u8 ((s.getD n.toNat 0).toNat : Int) } v' w' g' B := by
  obtain ⟨b, h1, h4⟩ := (val_ok hr hx).str_inv
  have h2 := (hL t ti ht).run_under (w := w)
  rw [htd] at h2
  have h3 := (val_ok hr hi).lit_inv
  have hsz : b.size = s.length := by rw [← h4]; simp
  refine Stp.quiet hr (v := .int .u8 ((s.getD n.toNat 0).toNat : Int)) ?_ (rv_lit rfl)
  have hb : b[n.toNat]? = some (s.getD n.toNat 0) := by
    rw [ByteArray.getElem?_lt' b n.toNat (by omega)]
    congr 1
    subst h4
    rw [List.getD_eq_getElem?_getD]
    have : b.data.toList[n.toNat]? = some b[n.toNat] := by
      rw [List.getElem?_eq_getElem (by simp; omega)]; rfl
    rw [this]; rfl
  simp [execOp, ho, Instr.index, h3, asIntOf, h2, h1, hp.1, hb]

theorem stp_makeFunc (hr : Rel g st a w) {o : Oper} {f : FuncId} {first caps : Array Operand} (ho : o.op = .makeFunc (.func f) first caps) {fa ca : List A}
    (hf : ∀ (i : Nat) x, first[i]? = some x → ∃ b, fa[i]? = some b ∧ RV g (a.eval x) (.one b)) (hfl : first.size = fa.length)
    (hc : ∀ (i : Nat) x, caps[i]? = some x → ∃ b, ca[i]? = some b ∧ RV g (a.eval x) (.one b)) (hcl : caps.size = ca.length) :
    ∃ v' w' g' B, Stp P g st a w o { val := .one (.fn f fa ca) } v' w' g' B := by
  refine Stp.quiet hr (v := .func (.func f) (first.map a.eval) (caps.map a.eval)) ?_ (.one _ _ (.fn _ _ _ _ _ (by simpa using hfl) (by simpa using hcl) (fun i v b hv hb => ?_) (fun i v b hv hb => ?_)))
  · simp [execOp, ho, Instr.makeFunc]
  · simp only [Array.getElem?_map, Option.map_eq_some_iff] at hv
    obtain ⟨x, hx, rfl⟩ := hv
    obtain ⟨b', hb', hr'⟩ := hf i x hx
    rw [hb] at hb'; simp at hb'; subst hb'
    exact hr'.one_inv
  · simp only [Array.getElem?_map, Option.map_eq_some_iff] at hv
    obtain ⟨x, hx, rfl⟩ := hv
    obtain ⟨b', hb', hr'⟩ := hc i x hx
    rw [hb] at hb'; simp at hb'; subst hb'
    exact hr'.one_inv

theorem stp_fieldAddr (hL : LOk P L) (hr : Rel g st a w) {o : Oper} {s : TypeId} {x : Operand} {f : Nat} (ho : o.op = .fieldAddr s x f) {ti tf : TI} (hs : get L s = some ti) {fs : Array Field} (hd : ti.desc = .struct fs) {fd : Field}
    (hf : fs.toList[f]? = some fd) (htf : get L fd.type = some tf) (hz : tf.size ≠ 0) {v : V} (hv : (∃ p off, st.val L 0 x = some (.one (.ptr p off)) ∧ v = .one (.ptr p (off + fd.offset))) ∨
      ∃ sz l i off, st.val L 0 x = some (.eptr sz l i off) ∧ v = .eptr sz l i (off + fd.offset)) :
    ∃ v' w' g' B, Stp P g st a w o { val := v } v' w' g' B := by
  have h2 := (hL s ti hs).run_under (w := w)
  rw [hd] at h2
  have h3 := (hL fd.type tf htf).run_sizeOf (w := w)
  have hf' : fs[f]? = some fd := by simpa using hf
  have hplace : ∀ b off, (fieldPlace ⟨b, off, none⟩ fd).run P w = .ok ⟨b, off + fd.offset, none⟩ w := by
    intro b off
    simp [fieldPlace, h3, hz, Addr.add_lit]
  rcases hv with ⟨p, off, hx, rfl⟩ | ⟨sz, l, i, off, hx, rfl⟩
  · obtain ⟨b, hb, he⟩ := (val_ok hr hx).ptr_inv
    refine Stp.quiet hr (v := .pointer (some ⟨b, off + fd.offset, none⟩)) ?_ (.one _ _ (.ptr _ _ _ hb))
    simp [execOp, ho, Instr.fieldAt, h2, hf', he, Instr.sureAddr, hplace]
  · have h1 := val_ok hr hx
    generalize hq : a.eval x = q at h1
    cases h1 with
    | eptr b off' _ _ _ _ f' h1 h4 h5 h6 =>
      have e : off' + i * sz + off + fd.offset = off' + i * sz + (off + fd.offset) := by omega
      refine Stp.quiet hr (v := .pointer (some ⟨b, off' + i * sz + (off + fd.offset), none⟩)) ?_ (.eptr b off' sz i (off + fd.offset) l f' h1 h4 h5 h6)
      simp [execOp, ho, Instr.fieldAt, h2, hf', hq, Instr.sureAddr, hplace, e]

theorem stp_field (hL : LOk P L) (hr : Rel g st a w) {o : Oper} {s : TypeId} {x : Operand} {f : Nat} (ho : o.op = .field s x f) {ti tf : TI} (hs : get L s = some ti) {fs : Array Field} (hd : ti.desc = .struct fs) {fd : Field}
    (hf : fs.toList[f]? = some fd) (htf : get L fd.type = some tf) {l : List A} (hx : st.val L s x = some (.agg l)) {v : V} (hv : partA tf l fd.offset = some v) :
    ∃ v' w' g' B, Stp P g st a w o { val := v } v' w' g' B := by
  have h2 := (hL s ti hs).run_under (w := w)
  rw [hd] at h2
  have hf' : fs[f]? = some fd := by simpa using hf
  have h1 := val_ok hr hx
  generalize hq : a.eval x = q at h1
  cases h1 with
  | agg cs _ h3 h4 =>
    obtain ⟨u, hu, hru⟩ := run_part (P := P) (w := w) (hL _ _ htf) (cs := cs) ⟨by simpa using h3, fun i v b hv hb => h4 i v b (by simpa using hv) hb⟩ hv
    exact Stp.quiet hr (v := u) (by simp [execOp, ho, Instr.field, h2, hf', hq, asAgg, hu]) hru

theorem rows_eptr {v : Value} {x : A} {sz : Nat} {l : List (List C)} (h : RA g v x) (hx : x.rows? = some (sz, l)) {n : Nat} (hn : n < l.length) :
    ∃ b off cap, v = .slice (some ⟨b, off, none⟩) l.length cap ∧ RV g (.pointer (some ⟨b, off + n * sz, none⟩)) (.eptr sz l n 0) := by
  cases h with
  | c _ _ h => cases h with
    | lit => simp [A.rows?] at hx
    | str => simp [A.rows?] at hx
    | ref => simp [A.rows?] at hx
    | empty => simp [A.rows?] at hx; obtain ⟨rfl, rfl⟩ := hx; simp at hn
    | sl b off m cap sz' l' f _ h1 h2 h3 h4 =>
      simp [A.rows?] at hx; obtain ⟨rfl, rfl⟩ := hx
      exact ⟨b, off, cap, by rw [h1], .eptr b off _ n 0 _ f hn h2 h3 h4⟩
  | nil => simp [A.rows?] at hx; obtain ⟨rfl, rfl⟩ := hx; simp at hn
  | ptr => simp [A.rows?] at hx
  | ownNil => simp [A.rows?] at hx; obtain ⟨rfl, rfl⟩ := hx; simp at hn
  | own o b m sz' l' f h0 h1 _ h2 h3 h4 h5 h6 =>
    simp [A.rows?] at hx; obtain ⟨rfl, rfl⟩ := hx
    exact ⟨b, 0, (g.cap o).1, by rw [h1], .eptr b 0 _ n 0 _ f hn h4 (fun k c hk => by rw [Nat.zero_add]; exact h5 k c hk) h6⟩
  | fn => simp [A.rows?] at hx
  | any => simp [A.rows?] at hx

theorem stp_indexAddr (hL : LOk P L) (hr : Rel g st a w) {o : Oper} {t e : TypeId} {x ix : Operand} (ho : o.op = .indexAddr t x ix) {n : Int} (hi : st.val L 0 ix = some (.int .i64 n)) {te : TI} (he : sliceElem L t = some (e, te)) {b : A} (hx : st.val L t x = some (.one b))
    {l : List (List C)} (hb : b.rows? = some (te.size, l)) (hp : 0 ≤ n ∧ n < l.length) : ∃ v' w' g' B, Stp P g st a w o { val := .eptr te.size l n.toNat 0 } v' w' g' B := by
  have h3 := (val_ok hr hi).lit_inv
  have h1 := val_ok hr hx
  unfold sliceElem at he
  split at he
  · rename_i ti hti
    split at he
    · rename_i e' hd
      cases hte : get L e' with
      | none => simp [hte] at he
      | some te' =>
        simp [hte] at he
        obtain ⟨rfl, rfl⟩ := he
        have h2 := (hL t ti hti).run_under (w := w)
        rw [hd] at h2
        have h4 := (hL _ _ hte).run_sizeOf (w := w)
        generalize hq : a.eval x = q at h1
        cases h1 with
        | one _ _ h1 =>
          obtain ⟨bb, off, cap, rfl, hrv⟩ := rows_eptr h1 hb (n := n.toNat) (by omega)
          refine Stp.quiet hr (v := .pointer (some ⟨bb, off + n.toNat * te'.size, none⟩)) ?_ hrv
          simp [execOp, ho, Instr.indexAt, h3, asIntOf, h2, hq, hp, h4, Addr.add_lit]
    · cases he
  · cases he

theorem stp_indexArr (hL : LOk P L) (hr : Rel g st a w) {o : Oper} {t e : TypeId} {x ix : Operand} (ho : o.op = .index t x ix) {k : IntKind} {n : Int} (hi : st.val L 0 ix = some (.int k n)) {ti te : TI} (ht : get L t = some ti) {len : Nat} (hd : ti.desc = .array len e) (he : get L e = some te)
    {l : List A} (hx : st.val L t x = some (.agg l)) {v : V} (hv : partA te l (n.toNat * te.size) = some v) (hp : 0 ≤ n ∧ n < len) : ∃ v' w' g' B, Stp P g st a w o { val := v } v' w' g' B := by
  have h3 := (val_ok hr hi).lit_inv
  have h1 := val_ok hr hx
  have h2 := (hL t ti ht).run_under (w := w)
  rw [hd] at h2
  have h4 := (hL _ _ he).run_sizeOf (w := w)
  generalize hq : a.eval x = q at h1
  cases h1 with
  | agg cs _ h5 h6 =>
    obtain ⟨u, hu, hru⟩ := run_part (P := P) (w := w) (hL _ _ he) (cs := cs) ⟨by simpa using h5, fun i v b hv hb => h6 i v b (by simpa using hv) hb⟩ hv
    exact Stp.quiet hr (v := u) (by simp [execOp, ho, Instr.index, h3, asIntOf, h2, hq, hp, h4, hu]) hru

theorem stp_extract (hr : Rel g st a w) {o : Oper} {x : Operand} {i : Nat} (ho : o.op = .extract x i) {l : List V} (hx : st.val L 0 x = some (.tup l)) {v : V} (hv : l[i]? = some v) :
    ∃ v' w' g' B, Stp P g st a w o { val := v } v' w' g' B := by
  have h1 := val_ok hr hx
  generalize hq : a.eval x = q at h1
  cases h1 with
  | tup vs _ h3 h4 =>
    have hlt : i < vs.size := by rw [h3]; exact (List.getElem?_eq_some_iff.1 hv).1
    have hvi : vs[i]? = some vs[i] := by simp
    exact Stp.quiet hr (v := vs[i]) (by simp [execOp, ho, Instr.extract, hq, hvi]) (h4 i _ v hvi hv)

theorem stp_len (hL : LOk P L) (hr : Rel g st a w) {o : Oper} {t : TypeId} {x : Operand} (ho : o.op = .call { callee := .builtin .len, args := #[x], argTypes := #[t] }) {ti : TI} (ht : get L t = some ti) {n : Nat}
    (hv : (ti.desc = .string ∧ ∃ s, st.val L t x = some (.str s) ∧ s.length = n) ∨ (∃ e, ti.desc = .slice e) ∧ ∃ b sz l, st.val L t x = some (.one b) ∧ b.rows? = some (sz, l) ∧ l.length = n) :
    ∃ v' w' g' B, Stp P g st a w o { val := .int .i64 n } v' w' g' B := by
  have h2 := (hL t ti ht).run_under (w := w)
  refine Stp.quiet hr (v := .int .i64 n) ?_ (rv_lit rfl)
  rcases hv with ⟨hd, s, hx, rfl⟩ | ⟨⟨e, hd⟩, b, sz, l, hx, hb, rfl⟩
  · obtain ⟨q, h1, h4⟩ := (val_ok hr hx).str_inv
    rw [hd] at h2
    have hsz : q.size = s.length := by rw [← h4]; simp
    simp [execOp, ho, resolve, invoke, builtin, Builtin.len_, h2, h1, goInt, hsz]
  · have h1 := val_ok hr hx
    rw [hd] at h2
    generalize hq : a.eval x = q at h1
    have : ∃ ad cap, q = .slice ad l.length cap := by
      cases h1 with
      | one _ _ h1 =>
        cases h1 with
        | c _ _ h => cases h with
          | lit => simp [A.rows?] at hb
          | str => simp [A.rows?] at hb
          | ref => simp [A.rows?] at hb
          | empty => simp [A.rows?] at hb; obtain ⟨rfl, rfl⟩ := hb; exact ⟨_, _, rfl⟩
          | sl b off m cap sz' l' f _ h1 h2 h3 h4 => simp [A.rows?] at hb; obtain ⟨rfl, rfl⟩ := hb; exact ⟨_, _, by rw [h1]⟩
        | nil => simp [A.rows?] at hb; obtain ⟨rfl, rfl⟩ := hb; exact ⟨_, _, rfl⟩
        | ptr => simp [A.rows?] at hb
        | ownNil => simp [A.rows?] at hb; obtain ⟨rfl, rfl⟩ := hb; exact ⟨_, _, rfl⟩
        | own o b m sz' l' f h0 h1 => simp [A.rows?] at hb; obtain ⟨rfl, rfl⟩ := hb; exact ⟨_, _, by rw [h1]⟩
        | fn => simp [A.rows?] at hb
        | any => simp [A.rows?] at hb
    obtain ⟨ad, cap, rfl⟩ := this
    simp [execOp, ho, resolve, invoke, builtin, Builtin.len_, h2, hq, goInt]

end
end Go.Abs
