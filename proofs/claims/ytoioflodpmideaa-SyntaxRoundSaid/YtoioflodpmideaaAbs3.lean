/- What it means that the model's values, memory and frames are those of an abstract state; what a call of a function comes to (HC), and a piece of code (AW). -/
import Derived.Test.YtoioflodpmideaaAbs2
namespace Go.Abs

/-- The ghost: where objects lie, a row's room, and what is sealed. -/
structure Gh where
  μ : Nat → Option Nat
  /-- a row's room, and how much of it is sealed -/
  cap : Nat → Nat × Nat
  h : Nat → Nat → Option Value

abbrev Hp := Nat → Nat → Option Value

inductive RC (h : Hp) : Value → C → Prop where
  | lit (v : Value) : v.oneCell' = true → RC h v (.lit v)
  | str (s : ByteArray) (l : Str) : s.data.toList = l → RC h (.string s) (.str l)
  | empty (a : Option Addr) (cap sz : Nat) : RC h (.slice a 0 cap) (.sl sz [])
  | sl (b off n cap sz : Nat) (l : List (List C)) (f : Nat → Value) : n ≤ maxLen → n = l.length → (∀ r ∈ l, r.length = sz) →
      (∀ k c, l.flatten[k]? = some c → h b (off + k) = some (f k)) → (∀ k c, l.flatten[k]? = some c → RC h (f k) c) →
      RC h (.slice (some ⟨b, off, none⟩) n cap) (.sl sz l)
  | ref (b : Nat) (l : List C) (f : Nat → Value) : (∀ k c, l[k]? = some c → h b k = some (f k)) → (∀ k c, l[k]? = some c → RC h (f k) c) →
      RC h (.pointer (some ⟨b, 0, none⟩)) (.ref l)

inductive RA (g : Gh) : Value → A → Prop where
  | c (v : Value) (x : C) : RC g.h v x → RA g v (.c x)
  | nil (sz : Nat) : RA g (.slice none 0 0) (.nil sz)
  | ptr (o off b : Nat) : g.μ o = some b → RA g (.pointer (some ⟨b, off, none⟩)) (.ptr o off)
  | ownNil (sz o : Nat) : RA g (.slice none 0 0) (.own sz [] o)
  | own (o b n sz : Nat) (l : List (List C)) (f : Nat → Value) : g.μ o = some b → n = l.length → n = (g.cap o).2 → n ≤ (g.cap o).1 → (g.cap o).1 ≤ maxLen → (∀ r ∈ l, r.length = sz) →
      (∀ k c, l.flatten[k]? = some c → g.h b k = some (f k)) → (∀ k c, l.flatten[k]? = some c → RC g.h (f k) c) →
      RA g (.slice (some ⟨b, 0, none⟩) n (g.cap o).1) (.own sz l o)
  | fn (f : FuncId) (fs cs : Array Value) (first caps : List A) : fs.size = first.length → cs.size = caps.length →
      (∀ (i : Nat) v a, fs[i]? = some v → first[i]? = some a → RA g v a) → (∀ (i : Nat) v a, cs[i]? = some v → caps[i]? = some a → RA g v a) →
      RA g (.func (.func f) fs cs) (.fn f first caps)
  | any (v : Value) : v.oneCell' = true → RA g v .any

inductive RV (g : Gh) : Value → V → Prop where
  | one (v : Value) (a : A) : RA g v a → RV g v (.one a)
  | agg (cs : Array Value) (l : List A) : cs.size = l.length → (∀ (i : Nat) v a, cs[i]? = some v → l[i]? = some a → RA g v a) → RV g (.agg cs) (.agg l)
  | tup (vs : Array Value) (l : List V) : vs.size = l.length → (∀ (i : Nat) v a, vs[i]? = some v → l[i]? = some a → RV g v a) → RV g (.tuple vs) (.tup l)
  | eptr (b off sz i o : Nat) (l : List (List C)) (f : Nat → Value) : i < l.length → (∀ r ∈ l, r.length = sz) →
      (∀ k c, l.flatten[k]? = some c → g.h b (off + k) = some (f k)) → (∀ k c, l.flatten[k]? = some c → RC g.h (f k) c) →
      RV g (.pointer (some ⟨b, off + i * sz + o, none⟩)) (.eptr sz l i o)
  | sdat (p : Option Addr) (l : List (List C)) (o b : Nat) (f : Nat → Value) : (l = [] ∨ (g.μ o = some b ∧ p = some ⟨b, 0, none⟩ ∧ (∀ r ∈ l, r.length = 1) ∧ l.length ≤ (g.cap o).1)) →
      (∀ k c, l.flatten[k]? = some c → g.h b k = some (f k)) → (∀ k c, l.flatten[k]? = some c → RC g.h (f k) c) → RV g (.pointer p) (.sdat l o)
  | any (v : Value) : RV g v .any

/-- A list of values, and of abstract cells. -/
def RL (g : Gh) (vs : List Value) (l : List A) : Prop := vs.length = l.length ∧ ∀ (i : Nat) v a, vs[i]? = some v → l[i]? = some a → RA g v a

def RO (g : Gh) (w : World) (o : Nat) : O → Prop
  | .dead => True
  | .var e l => ∃ b cur, g.μ o = some b ∧ w.heap[b]? = some (.cells cur e (0, 0)) ∧ RL g cur.toList l ∧ ∀ k, g.h b k = none
  | .row e sz => ∀ b, g.μ o = some b → ∃ cur, w.heap[b]? = some (.cells cur e (0, 0)) ∧ cur.size = (g.cap o).1 * sz ∧ ∀ k, (g.cap o).2 * sz ≤ k → g.h b k = none

/-- A state's objects, in a world. -/
structure Rm (g : Gh) (objs : List (Nat × O)) (w : World) : Prop where
  obj : ∀ o ob, get objs o = some ob → RO g w o ob
  sep : ∀ o o' ob ob' b, get objs o = some ob → get objs o' = some ob' → ob.live = true → ob'.live = true → o ≠ o' → g.μ o = some b → g.μ o' ≠ some b
  shut : ∀ b k v, g.h b k = some v → w.cell? ⟨b, k, none⟩ = some v
  blk : ∀ o b, g.μ o = some b → b < w.heap.size

/-- A state, in a frame and a world. -/
structure Rel (g : Gh) (st : St) (a : Act) (w : World) : Prop where
  slot : ∀ i v, get st.slots i = some v → i < a.tmps.size ∧ RV g (a.tmps.getD i undef) v
  mem : Rm g st.objs w
  fresh : ∀ o, st.next ≤ o → get st.objs o = none → g.μ o = none
  defers : a.defers = []
  size : a.tmps.size = st.size

/-- How a call began: its ghost, its world, how many objects it got, and its blocks. -/
structure Cx where
  g : Gh
  w : World
  k : Nat

def Cx.foot (cx : Cx) (b : Nat) : Prop := ∃ j, j < cx.k ∧ cx.g.μ j = some b

/-- What has become of what was there when the call began. -/
structure Fr (cx : Cx) (g : Gh) (objs : List (Nat × O)) (w : World) : Prop where
  os : w.os = cx.w.os
  tape : w.tape = cx.w.tape
  output : w.output = cx.w.output
  size : cx.w.heap.size ≤ w.heap.size
  block : ∀ b, b < cx.w.heap.size → ¬ cx.foot b → w.heap[b]? = cx.w.heap[b]?
  h : ∀ b k v, cx.g.h b k = some v → g.h b k = some v
  hnew : ∀ b k v, g.h b k = some v → cx.g.h b k = none → cx.w.heap.size ≤ b ∨ cx.foot b
  own : ∀ o ob b, get objs o = some ob → ob.live = true → g.μ o = some b → cx.w.heap.size ≤ b ∨ cx.foot b
  keep : ∀ j t l, j < cx.k → get objs j = some (.var t l) → g.μ j = cx.g.μ j ∧ g.cap j = cx.g.cap j

def number {α : Type} : List α → Nat → List (Nat × α)
  | [], _ => []
  | x :: r, j => (j, x) :: number r (j + 1)

/-- What a call of a function comes to: by its body, or by the model's entry for one without a body. -/
def Does (P : Program) (f : FuncId) (vs : Array Value) (w : World) (R : Ending → World → Prop) : Prop :=
  ((∃ fn, P.funcs[f]? = some fn ∧ fn.body.isNone = false ∧ (fn.name == "runtime.NumGoroutine") = false) ∧ Calls P f vs w R) ∨
  ∃ v w', (callFunc f vs).run P w = .ok (.value v) w' ∧ R (.returned v) w'

theorem Does.mono {P : Program} {f : FuncId} {vs : Array Value} {w : World} {R R' : Ending → World → Prop} (h : Does P f vs w R) (hR : ∀ e w', R e w' → R' e w') : Does P f vs w R' := by
  rcases h with ⟨h1, h2⟩ | ⟨v, w', h1, h2⟩
  · exact .inl ⟨h1, h2.mono hR⟩
  · exact .inr ⟨v, w', h1, hR _ _ h2⟩

/-- A call of the function f with these arguments and objects comes to Q, whatever the memory. -/
def HC (P : Program) (f : FuncId) (args : List V) (objs : List O) (Q : List O → V → Prop) : Prop :=
  ∀ (g : Gh) (w : World) (vs : Array Value), vs.size = args.length → (∀ (i : Nat) v a, vs[i]? = some v → args[i]? = some a → RV g v a) →
    Rm g (number objs 0) w → (∀ o, objs.length ≤ o → g.μ o = none) →
    Does P f vs w fun e w' => ∃ v g' objs' r, e = .returned v ∧ Q objs' r ∧ RV g' v r ∧ Rm g' (number objs' 0) w' ∧ (∀ o, objs'.length ≤ o → g'.μ o = none) ∧
      objs.length ≤ objs'.length ∧ Fr ⟨g, w, objs.length⟩ g' (number objs' 0) w'

/-- The contract of an exact answer. -/
def Has (P : Program) : Ctr := fun f args objs objs' r => HC P f args objs fun o v => o = objs' ∧ v = r

/-- A state in a frame, a world, and a call that goes on. -/
structure In (cx : Cx) (g : Gh) (st : St) (a : Act) (w : World) : Prop where
  rel : Rel g st a w
  fr : Fr cx g st.objs w
  k : cx.k = st.k
  le : st.k ≤ st.next

/-- A piece of code, from a state on. -/
def AW (P : Program) (cx : Cx) (c : Code) (st : St) (Q : Exit → St → Prop) : Prop :=
  ∀ g a w, In cx g st a w → c.wp P (fun e a' w' => ∃ g' st', Q e st' ∧ In cx g' st' a' w') a w

end Go.Abs
