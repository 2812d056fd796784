/- The abstract machine: what an operation brings, and a region's run in the order of its text. -/
import Derived.Test.YtoioflodpmideaaAbs1
namespace Go.Abs

def AllP : List Prop → Prop
  | [] => True
  | p :: r => p ∧ AllP r

/-- The rows that a slice value reads as: (cell size, rows). -/
def A.rows? : A → Option (Nat × List (List C))
  | .c (.sl sz l) => some (sz, l)
  | .nil sz => some (sz, [])
  | .own sz l _ => some (sz, l)
  | _ => none

def V.rows? : V → Option (Nat × List (List C))
  | .one a => a.rows?
  | _ => none

def byteRow (b : UInt8) : List C := [.lit (.int .u8 b.toNat)]

/-- A slice that may be appended to: its rows, and the object that lets it (none: it is nil). -/
def A.grows? : A → Option (Nat × List (List C) × Option Nat)
  | .nil sz => some (sz, [], none)
  | .own sz l o => some (sz, l, some o)
  | _ => none

def oneAll : List V → Option (List A)
  | [] => some []
  | .one a :: r => (oneAll r).map (a :: ·)
  | _ :: _ => none

def sliceElem (L : Lay) (t : TypeId) : Option (TypeId × TI) :=
  match get L t with
  | some ti => match ti.desc with
    | .slice e => (get L e).map (e, ·)
    | _ => none
  | none => none

abbrev Ctr := FuncId → List V → List O → List O → V → Prop

/-- an optional bound -/
def boundA (L : Lay) (st : St) (d : Int) : Option Operand → Option Int
  | none => some d
  | some x => match st.val L 0 x with
    | some (.one (.c (.lit (.int .i64 n)))) => some n
    | _ => none

def getAll (os : List (Nat × O)) : List Nat → Option (List O)
  | [] => some []
  | i :: r => match get os i, getAll os r with
    | some o, some l => some (o :: l)
    | _, _ => none

/-- A call of a function, with all its arguments. -/
def callA (H : Ctr) (fresh : Nat) (orc : Option Orc) (st : St) (f : FuncId) (args : List V) : Option (Eff × List Prop) :=
  match orc with
  | some (.call is objs r ks) => match getAll st.objs is with
    | some os =>
      let m := inMap is 0
      let bk := bkMap fresh is os 0 objs.length
      if nodupB is && kindsOk os objs && Nat.ble objs.length 16 && keepVars os ks && allFresh st.objs fresh objs.length then
        some ({ val := r.ren bk, upd := dropK is ks (updBack bk objs 0 ++ deadRows is os), reads := is },
          H f (renVs m args) (os.map (·.ren m)) objs r :: keepP bk objs os ks)
      else none
    | none => none
  | _ => none

/-- the right to append is there -/
def tokOk (objs : List (Nat × O)) (e : TypeId) (sz : Nat) : Option Nat → Bool
  | none => true
  | some o => match get objs o with
    | some (.row e' sz') => Nat.beq e' e && Nat.beq sz' sz
    | _ => false

def builtinA (L : Lay) (fresh : Nat) (st : St) (b : Builtin) (ty : TypeId) (args : List (TypeId × Operand)) : Option (Eff × List Prop) :=
  match b, args with
  | .len, [(t, x)] => match st.val L t x, get L t with
    | some (.one (.c (.str s))), some ti => match ti.desc with
      | .string => some ({ val := .int .i64 s.length }, [])
      | _ => none
    | some (.one a), some ti => match ti.desc, a.rows? with
      | .slice _, some (_, l) => some ({ val := .int .i64 l.length }, [])
      | _, _ => none
    | _, _ => none
  | .append, [(t, s), (t', x)] =>
    if t = t' then match st.val L t s, st.val L t x, sliceElem L t with
    | some (.one a), some (.one b), some (e, te) => match a.grows?, b.rows? with
      | some (sz, l, tok), some (sz', m) =>
        if sz = te.size ∧ sz' = te.size ∧ 0 < te.size ∧ tokOk st.objs e sz tok = true then
          some ({ val := .one (.own sz (l ++ m) fresh),
                  upd := (fresh, .row e sz) :: (match tok with | some o => [(o, .dead)] | none => []),
                  reads := (match tok with | some o => [o] | none => []) },
            [l.length + m.length ≤ maxLen, (l.length + m.length) * te.bytes ≤ 140737488355328])
        else none
      | _, _ => none
    | _, _, _ => none
    else none
  | .min, [(_, x), (_, y)] => match st.val L ty x, st.val L ty y with
    | some (.one (.c (.lit (.int k a)))), some (.one (.c (.lit (.int k' b)))) => if k = k' then some ({ val := .int k (if b < a then b else a) }, []) else none
    | _, _ => none
  | .max, [(_, x), (_, y)] => match st.val L ty x, st.val L ty y with
    | some (.one (.c (.lit (.int k a)))), some (.one (.c (.lit (.int k' b)))) => if k = k' then some ({ val := .int k (if a < b then b else a) }, []) else none
    | _, _ => none
  | _, _ => none

def fieldTy (fs : List Field) (i : Nat) : TypeId := match fs[i]? with | some f => f.type | none => 0

/-- What an operation does: the plain ones. -/
def opB (H : Ctr) (L : Lay) (fresh : Nat) (orc : Option Orc) (st : St) (o : Oper) : Option (Eff × List Prop) :=
  match o.op with
  | .move x => (st.val L o.type x).map fun v => ({ val := v }, [])
  | .assign x => (st.val L o.type x).map fun v => ({ val := v }, [])
  | .pick c a b => match st.val L 0 c with
    | some (.one (.c (.lit (.bool t)))) => (st.val L o.type (cond t a b)).map fun v => ({ val := v }, [])
    | _ => none
  | .alloc elem => match get L elem with
    | some ti => some ({ val := .one (.ptr fresh 0), upd := [(fresh, .var elem ti.zs)] }, [])
    | none => none
  | .box elem x => match st.val L elem x with
    | some v => match v.cells with
      | some cs => some ({ val := .one (.ptr fresh 0), upd := [(fresh, .var elem cs)] }, [])
      | none => none
    | none => none
  | .build t parts => match get L t with
    | some ti => match ti.desc with
      | .struct fs => match fieldPlaces L fs.toList, mapParts (fun i x => st.val L (fieldTy fs.toList i) x) parts.toList with
        | some pl, some ps => match fillA (fun i => pl[i]?) ti.zs ps with
          | some cs => some ({ val := .agg cs }, [])
          | none => none
        | _, _ => none
      | .array _ e => match get L e, mapParts (fun _ x => st.val L e x) parts.toList with
        | some te, some ps => match fillA (fun i => some (i * te.size, te.size)) ti.zs ps with
          | some cs => some ({ val := .agg cs }, [])
          | none => none
        | _, _ => none
      | _ => none
    | none => none
  | .buildSlice t len parts => match sliceElem L t with
    | some (e, te) => match mapParts (fun _ x => st.val L e x) parts.toList with
      | some ps => match fillA (fun i => some (i * te.size, te.size)) (rep te.zs len) ps with
        | some cs => match toCs cs with
          | some xs => match rowsOf te.size len xs with
            | some l => if te.zs.length = te.size ∧ 0 < te.size ∧ len * te.size ≤ 16777216 then
                some ({ val := .one (.own te.size l fresh), upd := [(fresh, .row e te.size)] }, [])
              else none
            | none => none
          | none => none
        | none => none
      | none => none
    | none => none
  | .load t x => match st.val L 0 x, get L t with
    | some (.one (.ptr o off)), some ti => match get st.objs o with
      | some (.var _ l) => (partA ti l off).map fun v => ({ val := v, reads := [o] }, [])
      | _ => none
    | some (.eptr sz l i off), some ti => match orc with
      | some (.row r) => if off + ti.size ≤ sz then (partA ti (r.map A.c) off).map fun v => ({ val := v }, [l[i]? = some r]) else none
      | _ => none
    | some (.one (.c (.ref l))), some ti => (partA ti (l.map A.c) 0).map fun v => ({ val := v }, [])
    | _, _ => none
  | .store t x y => match st.val L 0 x, get L t, st.val L t y with
    | some (.one (.ptr o off)), some ti, some v => match get st.objs o, v.cells with
      | some (.var u l), some cs => if cs.length = ti.size ∧ off + ti.size ≤ l.length then
          some ({ val := .any, upd := [(o, .var u (setSeg l off cs))], reads := [o] }, [])
        else none
      | _, _ => none
    | _, _, _ => none
  | .nilCheck x => match st.val L o.type x with
    | some (.one (.ptr p off)) => some ({ val := .one (.ptr p off) }, [])
    | some (.one (.c (.ref l))) => some ({ val := .one (.c (.ref l)) }, [])
    | some (.eptr sz l i off) => some ({ val := .eptr sz l i off }, [])
    | some (.one (.fn f a b)) => some ({ val := .one (.fn f a b) }, [])
    | _ => none
  | .binOp op xt x y _ => match st.val L xt x, st.val L xt y with
    | some v, some u => match binA (get L xt) op v u with
      | some (r, p) => some ({ val := r }, owesB op v p)
      | none => none
    | _, _ => none
  | .unOp op _ x => match op, st.val L o.type x with
    | .not, some (.one (.c (.lit (.bool b)))) => some ({ val := .bool (!b) }, [])
    | .neg, some (.one (.c (.lit (.int k n)))) => some ({ val := .int k (k.wrap (0 - n)) }, [])
    | _, _ => none
  | .convert src dst x => match get L src, get L dst, st.val L src x with
    | some ts, some td, some v => match ts.desc, td.desc, v with
      | _, .int k, .one (.c (.lit (.int _ n))) => some ({ val := .int k (k.wrap n) }, [])
      | .string, .string, .one (.c (.str s)) => some ({ val := .str s }, [])
      | _, _, _ => none
    | _, _, _ => none
  | .makeFunc (.func f) first caps => match valAll (fun t x => st.val L t x) (first.toList.map (0, ·)), valAll (fun t x => st.val L t x) (caps.toList.map (0, ·)) with
    | some fs, some cs => match oneAll fs, oneAll cs with
      | some fa, some ca => some ({ val := .one (.fn f fa ca) }, [])
      | _, _ => none
    | _, _ => none
  | .slice t x lo hi none => match st.val L t x, get L t with
    | some (.one (.c (.str s))), some ti => match ti.desc with
      | .string => match boundA L st 0 lo, boundA L st s.length hi with
        | some l, some h => some ({ val := .str ((s.drop l.toNat).take (h.toNat - l.toNat)) }, [0 ≤ l ∧ l ≤ h ∧ h ≤ s.length])
        | _, _ => none
      | _ => none
    | _, _ => none
  | .fieldAddr s x f => match get L s with
    | some ti => match ti.desc with
      | .struct fs => match fs.toList[f]? with
        | some fd => match get L fd.type with
          | some tf => if tf.size = 0 then none else match st.val L 0 x with
            | some (.one (.ptr o off)) => some ({ val := .one (.ptr o (off + fd.offset)) }, [])
            | some (.eptr sz l i off) => some ({ val := .eptr sz l i (off + fd.offset) }, [])
            | _ => none
          | none => none
        | none => none
      | _ => none
    | none => none
  | .field t x f => match get L t with
    | some ti => match ti.desc with
      | .struct fs => match fs.toList[f]? with
        | some fd => match get L fd.type, st.val L t x with
          | some tf, some (.agg l) => (partA tf l fd.offset).map fun v => ({ val := v }, [])
          | _, _ => none
        | none => none
      | _ => none
    | none => none
  | .indexAddr t x ix => match st.val L 0 ix with
    | some (.one (.c (.lit (.int .i64 n)))) => match sliceElem L t with
      | some (_, te) => match st.val L t x with
        | some (.one a) => match a.rows? with
          | some (sz, l) => if sz = te.size then some ({ val := .eptr sz l n.toNat 0 }, [0 ≤ n ∧ n < l.length]) else none
          | none => none
        | _ => none
      | none => none
    | _ => none
  | .index t x ix => match st.val L 0 ix, st.val L t x, get L t with
    | some (.one (.c (.lit (.int _ n)))), some (.one (.c (.str s))), some ti => match ti.desc with
      | .string => some ({ val := .int .u8 ((s.getD n.toNat 0).toNat : Int) }, [0 ≤ n ∧ n < s.length])
      | _ => none
    | some (.one (.c (.lit (.int _ n)))), some (.agg l), some ti => match ti.desc with
      | .array len e => match get L e with
        | some te => (partA te l (n.toNat * te.size)).map fun v => ({ val := v }, [0 ≤ n ∧ n < len])
        | none => none
      | _ => none
    | _, _, _ => none
  | .extract x i => match st.val L 0 x with
    | some (.tup l) => (l[i]?).map fun v => ({ val := v }, [])
    | _ => none
  | .call c => match c.callee with
    | .builtin b => if c.args.size = c.argTypes.size then builtinA L fresh st b o.type (c.argTypes.toList.zip c.args.toList) else none
    | .value f => match st.val L 0 f, valAll (fun t x => st.val L t x) (c.argTypes.toList.zip c.args.toList) with
      | some (.one (.fn f fs cs)), some args => if c.args.size = c.argTypes.size then callA H fresh orc st f (fs.map .one ++ args ++ cs.map .one) else none
      | _, _ => none
    | _ => none
  | _ => none

/-- Are two of a kind's cells the same, as == says? -/
def eqCell : TypeDesc → A → A → Option Bool
  | .int _, .c (.lit (.int k a)), .c (.lit (.int k' b)) => if k = k' then some (decide (a = b)) else none
  | .bool, .c (.lit (.bool a)), .c (.lit (.bool b)) => some (a == b)
  | .string, .c (.str a), .c (.str b) => some (decide (a = b))
  | _, _, _ => none

/-- Are two structs the same, as == says? Fields of one cell each, from an offset on. -/
def eqF (L : Lay) : List Field → Nat → List A → List A → Option Bool
  | [], _, [], [] => some true
  | f :: fs, k, a :: l, b :: m => match get L f.type with
    | some t => if f.offset = k ∧ t.size = 1 ∧ (f.name == "_") = false then match eqCell t.desc a b, eqF L fs (k + 1) l m with
      | some x, some y => some (x && y)
      | _, _ => none
      else none
    | none => none
  | _, _, _, _ => none

def eqlA (L : Lay) (ti : TI) (x y : V) : Option Bool :=
  match ti.desc, x, y with
  | .pointer e, .one (.ptr o off), .one (.ptr o' off') => match get L e with
    | some te => if te.size ≠ 0 ∧ o = o' ∧ off = off' then some true else none
    | none => none
  | .pointer _, .one (.ptr _ _), .one (.c (.lit (.pointer none))) => some false
  | .pointer _, .one (.c (.lit (.pointer none))), .one (.ptr _ _) => some false
  | .pointer _, .one (.c (.lit (.pointer none))), .one (.c (.lit (.pointer none))) => some true
  | .struct fs, .agg l, .agg m => if ti.std = true then eqF L fs.toList 0 l m else none
  | _, _, _ => none

def memP (i j : Nat) : List (Nat × Nat) → Bool
  | [] => false
  | (a, b) :: r => (Nat.beq i a && Nat.beq j b) || memP i j r

def tokO (fresh : Nat) : Option Nat → Nat
  | some p => p
  | none => fresh
def tokR : Option Nat → List Nat
  | some p => [p]
  | none => []

def isU8 (te : TI) : Bool := match te.desc with | .int .u8 => Nat.beq te.size 1 | _ => false

/-- .. the others. -/
def opX (L : Lay) (fresh : Nat) (orc : Option Orc) (st : St) (o : Oper) : Option (Eff × List Prop) :=
  match o.op with
  | .binOp op xt x y _ => match get L xt, st.val L xt x, st.val L xt y with
    | some ti, some v, some u => match op, eqlA L ti v u with
      | .eql, some b => some ({ val := .bool b }, [])
      | .neq, some b => some ({ val := .bool (!b) }, [])
      | _, _ => none
    | _, _, _ => none
  | .convert src dst x => match get L src, get L dst, st.val L src x with
    | some ts, some td, some v => match ts.desc, td.desc, v with
      | .pointer e, .unsafePointer, .one (.ptr p off) => match get st.objs p, get L e with
        | some (.var _ l), some te => if off < l.length ∧ te.size ≠ 0 then some ({ val := .one (.ptr p off), reads := [p] }, []) else none
        | _, _ => none
      | .unsafePointer, .pointer u, .one (.ptr p off) => match get st.objs p, get L u with
        | some (.var t l), some _ => match get L t with
          | some ti => if l.length = ti.size ∧ 0 < ti.size ∧ memP off u ti.sub = true then some ({ val := .one (.ptr p off), reads := [p] }, []) else none
          | none => none
        | _, _ => none
      | .slice e, .string, .one b => match get L e, b.rows?, orc with
        | some te, some (sz, l), some (.bytes s) => if isU8 te = true ∧ sz = 1 then some ({ val := .str s }, [l = s.map byteRow]) else none
        | _, _, _ => none
      | _, _, _ => none
    | _, _, _ => none
  | .call { callee := .builtin .unsafeSliceData, args := args, argTypes := ats } => match args.toList, ats.toList with
    | [x], [t] => match st.val L t x, sliceElem L t, get L o.type with
      | some (.one b), some (e, te), some tp => match tp.desc, b.grows? with
        | .pointer _, some (sz, l, tok) => if sz = 1 ∧ te.size = 1 ∧ tokOk st.objs e 1 tok = true then
            some ({ val := .sdat l (tokO fresh tok), upd := [(fresh, .dead)], reads := tokR tok }, [])
          else none
        | _, _ => none
      | _, _, _ => none
    | _, _ => none
  | .call { callee := .builtin .unsafeString, args := args, argTypes := ats } => match args.toList, ats.toList with
    | [x, n], [pt, it] => match st.val L pt x, st.val L it n, get L pt with
      | some (.sdat l p), some (.one (.c (.lit (.int .i64 m)))), some tp => match tp.desc, orc with
        | .pointer e, some (.bytes s) => match get L e, get st.objs p with
          | some te, some (.row e' sz) => if isU8 te = true ∧ e' = e ∧ sz = 1 then
              some ({ val := .str s, upd := [(p, .dead)], reads := [p] }, [l = s.map byteRow, m = s.length, s.length ≤ maxLen])
            else none
          | some _, some .dead => some ({ val := .str s, reads := [p] }, [l = s.map byteRow, m = s.length, s = []])
          | _, _ => none
        | _, _ => none
      | _, _, _ => none
    | _, _ => none
  | _ => none

/-- What an operation does. -/
def opA (H : Ctr) (L : Lay) (fresh : Nat) (orc : Option Orc) (st : St) (o : Oper) : Option (Eff × List Prop) :=
  match opB H L fresh orc st o with
  | some x => some x
  | none => opX L fresh orc st o

def St.put (st : St) (dst : Option Tmp) (e : Eff) : St :=
  { st with slots := (match dst with | some d => (d, e.val) :: st.slots | none => st.slots), objs := e.upd ++ st.objs }

/-- Is an operation wanted? -/
def wantedA (st : St) (ops : List Oper) (o : Oper) : Option Bool :=
  match o.guard with
  | none => some true
  | some (j, want) => match ops[j]? with
    | some oj => match oj.dst with
      | some d => match get st.slots d with
        | some (.one (.c (.lit (.bool b)))) => some (b == want)
        | some (.tup _) => some false
        | _ => none
      | none => none
    | none => none

/-- what an operation reads and writes -/
structure Foot where
  idx : Nat
  dst : Option Nat
  slots : List Nat
  ro : List Nat
  wo : List Nat

def tmpsOf (l : List Operand) : List Nat := l.filterMap fun | .tmp t => some t | _ => none

def slotsRead (ops : List Oper) (o : Oper) : List Nat :=
  tmpsOf o.op.operands.toList ++ (match o.guard with | some (j, _) => (match ops[j]? with | some oj => oj.dst.toList | none => []) | none => [])

def A.data : A → A
  | .nil sz => .c (.sl sz [])
  | .own sz l _ => .c (.sl sz l)
  | a => a

def V.data : V → V
  | .one a => .one a.data
  | .agg l => .agg (l.map A.data)
  | .tup l => .tup (l.map fun | .one a => .one a.data | .agg l => .agg (l.map A.data) | v => v)
  | v => v

def Orc.isDat : Option Orc → Bool
  | some .dat => true
  | _ => false

def stepA (H : Ctr) (L : Lay) (base : Nat) (tbl : List (Nat × Orc)) (reps : List (Nat × V)) (ops : List Oper) (i : Nat) (o : Oper) (st : St) : Option (Eff × List Prop) :=
  match wantedA st ops o with
  | some true => match opA H L (base + 16 * i) (get tbl i) st o with
    | some (e, p) => match get reps i with
      | some v => some ({ e with val := v }, (e.val = v) :: p)
      | none => some (cond (Orc.isDat (get tbl i)) { e with val := e.val.data } e, p)
    | none => none
  | some false => some ({ val := .tup [] }, [])
  | none => none

def freshOk (base i : Nat) (st : St) (e : Eff) : Bool :=
  e.upd.all fun (j, _) => cond (Nat.ble (base + 16 * i) j && Nat.blt j (base + 16 * i + 16)) (get st.objs j).isNone (memB j e.reads)

def dstOk (st : St) : Option Tmp → Bool
  | some d => Nat.blt d st.size
  | none => true

/-- A region in the order of its text: the state behind it, what it owes, what each operation touched. -/
def runA (H : Ctr) (L : Lay) (base : Nat) (tbl : List (Nat × Orc)) (reps : List (Nat × V)) (all : List Oper) : Nat → List Oper → St → Option (St × List Prop × List Foot)
  | _, [], st => some (st, [], [])
  | i, o :: r, st => match stepA H L base tbl reps all i o st with
    | some (e, p) => if freshOk base i st e && dstOk st o.dst then match runA H L base tbl reps all (i + 1) r (st.put o.dst e) with
      | some (st', ps, fs) => some (st', p ++ ps, ⟨i, o.dst, slotsRead all o, e.reads, e.upd.map (·.1)⟩ :: fs)
      | none => none
      else none
    | none => none

def set {α : Type} : List (Nat × α) → Nat → α → Option (List (Nat × α))
  | [], _, _ => none
  | (j, y) :: r, i, x => cond (Nat.beq j i) (some ((j, x) :: r)) (match set r i x with | some l => some ((j, y) :: l) | none => none)

/-- Another word for a cell that says less. -/
inductive Co where
  /-- a slot's value as data -/
  | slot (i : Nat)
  /-- an object's cell as data -/
  | cell (o off : Nat)
  /-- nil as a slice that may be appended to, by a new row -/
  | slotOwn (i id : Nat) (e : TypeId)
  | cellOwn (o off id : Nat) (e : TypeId)
  /-- a row that is not needed -/
  | kill (o : Nat)

def Co.run (st : St) : Co → Option St
  | .slot i => match get st.slots i with
    | some v => (set st.slots i v.data).map fun s => { st with slots := s }
    | none => none
  | .cell o off => match get st.objs o with
    | some (.var u l) => match l[off]? with
      | some a => (set st.objs o (.var u (l.set off a.data))).map fun s => { st with objs := s }
      | none => none
    | _ => none
  | .slotOwn i id e => match get st.slots i with
    | some (.one (.nil sz)) => if (get st.objs id).isNone && Nat.ble st.next id then
        (set st.slots i (.one (.own sz [] id))).map fun s => { st with slots := s, objs := (id, .row e sz) :: st.objs }
      else none
    | _ => none
  | .cellOwn o off id e => match get st.objs o with
    | some (.var u l) => match l[off]? with
      | some (.nil sz) => if (get st.objs id).isNone && Nat.ble st.next id then
          (set st.objs o (.var u (l.set off (.own sz [] id)))).map fun s => { st with objs := (id, .row e sz) :: s }
        else none
      | _ => none
    | _ => none
  | .kill o => match get st.objs o with
    | some (.row _ _) => (set st.objs o .dead).map fun s => { st with objs := s }
    | _ => none

def coes : List Co → St → Option St
  | [], st => some st
  | c :: r, st => match c.run st with
    | some st' => coes r st'
    | none => none

def pickS (m : List (Nat × Nat)) (s : List (Nat × V)) : List Nat → Option (List (Nat × V))
  | [] => some []
  | i :: r => match get s i, pickS m s r with
    | some v, some l => some ((i, v.ren m) :: l)
    | _, _ => none

def pickO (m : List (Nat × Nat)) (s : List (Nat × O)) : List (Nat × Nat) → Option (List (Nat × O))
  | [] => some []
  | (o, n) :: r => match get s o, pickO m s r with
    | some ob, some l => some ((n, ob.ren m) :: l)
    | _, _ => none

/-- which objects keep their numbers -/
def normOk (k next : Nat) (s : List (Nat × O)) : List (Nat × Nat) → Bool
  | [] => true
  | (o, n) :: r => Nat.blt n next && (cond (Nat.blt n k) (cond (match get s o with | some ob => ob.isVar | none => false) (Nat.beq o n) true) true) && normOk k next s r

/-- Slots and objects that stay (objects under new numbers), and the next free number. -/
def St.norm (live : List Nat) (m : List (Nat × Nat)) (next : Nat) (st : St) : Option St :=
  match pickS m st.slots live, pickO m st.objs m with
  | some s, some o => if nodupB (m.map (·.1)) && nodupB (m.map (·.2)) && normOk st.k next st.objs m && Nat.ble st.k next then some { st with slots := s, objs := o, next := next } else none
  | _, _ => none

/-- A state as it is told on. -/
def St.fin (cs : List Co) (live : List Nat) (m : List (Nat × Nat)) (next : Nat) (st : St) : Option St :=
  match coes cs st with
  | some st' => st'.norm live m next
  | none => none

end Go.Abs
