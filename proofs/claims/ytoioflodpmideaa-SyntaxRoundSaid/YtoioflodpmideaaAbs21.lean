/- What printed texts say: rows of typed data, small words of models, the table of types. -/
import Derived.Test.YtoioflodpmideaaAbs20
import Derived.Lib.Bytealg
namespace Go.Abs

/-- A type of data, as rows of cells. -/
class Row (α : Type) where
  rows : List α → List (List C)
  cells : α → List C
  sz : Nat
  nil : rows [] = []
  cons : ∀ x l, rows (x :: l) = cells x :: rows l

def ca {α : Type} [Row α] (x : α) : List A := (Row.cells x).map A.c

section
variable {α : Type} [Row α]

theorem Row.eq_map (l : List α) : Row.rows l = l.map Row.cells := by
  induction l with
  | nil => exact Row.nil
  | cons x r ih => rw [Row.cons, ih]; rfl

theorem Row.len (l : List α) : (Row.rows l).length = l.length := by rw [Row.eq_map]; simp

def AtP (l : List α) (n : Int) (x : α) : Prop := (Row.rows l)[n.toNat]? = some (Row.cells x)
theorem atP {l : List α} {n : Int} {x : α} (h : idx l n = some x) : AtP l n x := by
  unfold AtP
  rw [Row.eq_map, List.getElem?_map, (idx_some h).2]
  rfl
def InP (l : List α) (n : Int) : Prop := 0 ≤ n ∧ n < ((Row.rows l).length : Int)
theorem inP {l : List α} {n : Int} {x : α} (h : idx l n = some x) : InP l n := by
  unfold InP
  rw [Row.len]
  exact (idx_some h).1
def LenP (l : List α) : Prop := V.int .i64 ((Row.rows l).length : Int) = V.int .i64 (l.length : Int)
theorem lenP (l : List α) : LenP l := by unfold LenP; rw [Row.len]
def BldP (l : List α) (o : Nat) : Prop := V.one (.own (Row.sz α) (l.map Row.cells) o) = V.one (.own (Row.sz α) (Row.rows l) o)
theorem bldP (l : List α) (o : Nat) : BldP l o := by unfold BldP; rw [Row.eq_map]
def AppP (l m : List α) (o : Nat) : Prop := V.one (.own (Row.sz α) (Row.rows l ++ Row.rows m) o) = V.one (.own (Row.sz α) (Row.rows (l ++ m)) o)
theorem appP (l m : List α) (o : Nat) : AppP l m o := by unfold AppP; rw [Row.eq_map, Row.eq_map, Row.eq_map, List.map_append]

/-- an object is as it was -/
def SameO (o : O) : Prop := some o = some o

/-- what must hold -/
def chk {β : Type} (p : Prop) [Decidable p] (x : Option β) : Option β := if p then x else none
theorem chk_some {β : Type} {p : Prop} [Decidable p] {x : Option β} {r : β} (h : chk p x = some r) : p ∧ x = some r := Go.Abs.chk_some0 h

def CapOk {β : Type} (by' : Nat) (l m : List β) : Prop := l.length + m.length ≤ maxLen ∧ (l.length + m.length) * by' ≤ 140737488355328
instance {β : Type} (n : Nat) (l m : List β) : Decidable (CapOk n l m) := inferInstanceAs (Decidable (_ ∧ _))
def Cap1 (l m : List α) : Prop := (Row.rows l).length + (Row.rows m).length ≤ maxLen
theorem cap1 {n : Nat} {l m : List α} (h : CapOk n l m) : Cap1 l m := by unfold Cap1; rw [Row.len, Row.len]; exact h.1
def Cap2 (n : Nat) (l m : List α) : Prop := ((Row.rows l).length + (Row.rows m).length) * n ≤ 140737488355328
theorem cap2 {n : Nat} {l m : List α} (h : CapOk n l m) : Cap2 n l m := by unfold Cap2; rw [Row.len, Row.len]; exact h.2
end

instance : Row Int := ⟨fun l => l.map fun n => [.lit (.int .i64 n)], fun n => [.lit (.int .i64 n)], 1, rfl, fun _ _ => rfl⟩
instance : Row Bool := ⟨fun l => l.map fun n => [.lit (.bool n)], fun n => [.lit (.bool n)], 1, rfl, fun _ _ => rfl⟩
instance : Row Str := ⟨fun l => l.map fun n => [.str n], fun n => [.str n], 1, rfl, fun _ _ => rfl⟩

instance : Row UInt8 := ⟨fun l => l.map byteRow, byteRow, 1, rfl, fun _ _ => rfl⟩
def RbP (s : Str) : Prop := Row.rows (α := UInt8) s = s.map byteRow
theorem rbP (s : Str) : RbP s := rfl
abbrev idxByte (s : Str) (c : UInt8) : Int := Lib.indexByte s c

/-- a string's byte, and a part of it -/
def u8At (s : Str) (n : Int) : UInt8 := s.getD n.toNat 0
def byteAt (s : Str) (n : Int) : Int := ((u8At s n).toNat : Int)
/-- a number as a byte -/
def u8w (n : Int) : UInt8 := UInt8.ofNat (IntKind.u8.wrap n).toNat
def U8P (n : Int) : Prop := V.int .u8 (IntKind.u8.wrap n) = V.int .u8 ((u8w n).toNat : Int)
theorem u8P (n : Int) : U8P n := by
  unfold U8P u8w
  have h : IntKind.u8.wrap n = n % 256 := by
    have h1 : IntKind.u8.signed = false := rfl
    have h2 : IntKind.u8.bits = 8 := rfl
    simp [IntKind.wrap, h1, h2]
  rw [h]
  have h1 : 0 ≤ n % 256 := Int.emod_nonneg _ (by decide)
  have h2 : n % 256 < 256 := Int.emod_lt_of_pos _ (by decide)
  congr 1
  simp
  omega
def sub (s : Str) (l h : Int) : Str := (s.drop l.toNat).take (h.toNat - l.toNat)

theorem nbt {b : Bool} (h : ¬ b = true) : BT (!b) := congrArg V.bool (by simpa using h)
theorem nbf {b : Bool} (h : b = true) : BF (!b) := congrArg V.bool (by simp [h])

/- The table of types. -/
def A.zv : A → Value
  | .nil _ => .slice none 0 0
  | .c (.lit v) => v
  | .c (.str s) => .string ⟨s.toArray⟩
  | _ => undef

def A.zok : A → Bool
  | .nil _ => true
  | .c (.lit v) => v.oneCell'
  | .c (.str _) => true
  | _ => false

theorem A.zv_ok {g : Gh} {a : A} (h : a.zok = true) : RA g a.zv a := by
  unfold A.zok at h
  split at h
  · exact .nil _
  · exact .c _ _ (.lit _ h)
  · exact .c _ _ (.str _ _ (by simp))
  · cases h

theorem tOk {P : Program} {t : TypeId} {ti : TI} (desc : P.underlying t = some ti.desc) (info : (P.info? t).map (fun i => (i.size, i.bytes, i.zero)) = some (ti.size, ti.bytes, some ti.zero))
    (zero : ti.zero.cells.toList = ti.zs.map A.zv) (zok : ti.zs.all A.zok = true) (len : ti.zero.cells.size = ti.size)
    (std : (!ti.std || (!P.stoodInHeld t && !P.eqGuardType P.depth t)) = true) (sub : (ti.sub.all fun p => liesAt P P.depth t 1 p.1 p.2 1) = true) : TOk P t ti where
  desc := desc
  info := by
    cases h : P.info? t with
    | none => rw [h] at info; cases info
    | some i =>
      rw [h] at info
      simp only [Option.map_some, Option.some.injEq, Prod.mk.injEq] at info
      exact ⟨i, rfl, info⟩
  zero := by
    intro g
    rw [zero]
    refine ⟨by simp, fun i v a hv ha => ?_⟩
    rw [List.getElem?_map, ha] at hv
    simp only [Option.map_some, Option.some.injEq] at hv
    subst hv
    exact A.zv_ok (List.all_eq_true.1 zok a (List.mem_of_getElem? ha))
  len := len
  std h := by simpa [h] using std
  sub off u h := by have := List.all_eq_true.1 sub _ h; exact this

theorem lOk_nil {P : Program} : LOk P [] := fun t ti h => by cases h
theorem lOk_cons {P : Program} {t : TypeId} {ti : TI} {L : Lay} (h : TOk P t ti) (hL : LOk P L) : LOk P ((t, ti) :: L) := fun u tj hu => by
  by_cases e : t = u
  · subst e
    simp only [get, Nat.beq_refl, cond_true, Option.some.injEq] at hu
    subst hu; exact h
  · rw [get_cons, if_neg e] at hu
    exact hL u tj hu

end Go.Abs
