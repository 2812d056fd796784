/- Part T of the model: each function answers as its plain twin in this text says, whenever that twin answers. No other condition. (Printed by a program of this work.) -/
import Derived.Test.YtoioflodpmideaaGreatAbs22
import Derived.Test.YtoioflodpmideaaGreatProg
namespace Go.Syn
open Go.Abs Go.Proofs.Tryz
set_option linter.unusedVariables false
mutual
inductive Expr where
  | mk (Kind : Int) (N : Int) (S : Str) (T : Str) (Kids : List Expr) (Q : List Query)
inductive From where
  | mk (Kind : Int) (Table : Str) (Visible : Bool) (As : Str) (Q : List Query) (Kids : List From) (On : List Expr)
inductive ItemT where
  | mk (E : Expr) (Name : Str)
inductive Key where
  | mk (E : Expr) (Desc : Bool)
inductive Query where
  | mk (Kind : Int) (Distinct : Bool) (Items : List ItemT) (From : List From) (Where : List Expr) (Group : List Expr) (Having : List Expr) (Order : List Key) (Limit : Int) (Kids : List Query)
end
def Expr.Kind : Expr → Int | .mk x _ _ _ _ _ => x
def Expr.N : Expr → Int | .mk _ x _ _ _ _ => x
def Expr.S : Expr → Str | .mk _ _ x _ _ _ => x
def Expr.T : Expr → Str | .mk _ _ _ x _ _ => x
def Expr.Kids : Expr → List Expr | .mk _ _ _ _ x _ => x
def Expr.Q : Expr → List Query | .mk _ _ _ _ _ x => x
def From.Kind : From → Int | .mk x _ _ _ _ _ _ => x
def From.Table : From → Str | .mk _ x _ _ _ _ _ => x
def From.Visible : From → Bool | .mk _ _ x _ _ _ _ => x
def From.As : From → Str | .mk _ _ _ x _ _ _ => x
def From.Q : From → List Query | .mk _ _ _ _ x _ _ => x
def From.Kids : From → List From | .mk _ _ _ _ _ x _ => x
def From.On : From → List Expr | .mk _ _ _ _ _ _ x => x
def ItemT.E : ItemT → Expr | .mk x _ => x
def ItemT.Name : ItemT → Str | .mk _ x => x
def Key.E : Key → Expr | .mk x _ => x
def Key.Desc : Key → Bool | .mk _ x => x
def Query.Kind : Query → Int | .mk x _ _ _ _ _ _ _ _ _ => x
def Query.Distinct : Query → Bool | .mk _ x _ _ _ _ _ _ _ _ => x
def Query.Items : Query → List ItemT | .mk _ _ x _ _ _ _ _ _ _ => x
def Query.From : Query → List From | .mk _ _ _ x _ _ _ _ _ _ => x
def Query.Where : Query → List Expr | .mk _ _ _ _ x _ _ _ _ _ => x
def Query.Group : Query → List Expr | .mk _ _ _ _ _ x _ _ _ _ => x
def Query.Having : Query → List Expr | .mk _ _ _ _ _ _ x _ _ _ => x
def Query.Order : Query → List Key | .mk _ _ _ _ _ _ _ x _ _ => x
def Query.Limit : Query → Int | .mk _ _ _ _ _ _ _ _ x _ => x
def Query.Kids : Query → List Query | .mk _ _ _ _ _ _ _ _ _ x => x
mutual
def Expr.cs : Expr → List C | .mk y0 y1 y2 y3 y4 y5 => [.lit (.int .i64 y0)] ++ [.lit (.int .i64 y1)] ++ [.str y2] ++ [.str y3] ++ [.sl 6 (Expr.rs y4)] ++ [.sl 10 (Query.rs y5)]
  termination_by structural x => x
def Expr.rs : List Expr → List (List C) | [] => [] | x :: l => x.cs :: Expr.rs l
  termination_by structural x => x
def From.cs : From → List C | .mk y0 y1 y2 y3 y4 y5 y6 => [.lit (.int .i64 y0)] ++ [.str y1] ++ [.lit (.bool y2)] ++ [.str y3] ++ [.sl 10 (Query.rs y4)] ++ [.sl 7 (From.rs y5)] ++ [.sl 6 (Expr.rs y6)]
  termination_by structural x => x
def From.rs : List From → List (List C) | [] => [] | x :: l => x.cs :: From.rs l
  termination_by structural x => x
def ItemT.cs : ItemT → List C | .mk y0 y1 => Expr.cs y0 ++ [.str y1]
  termination_by structural x => x
def ItemT.rs : List ItemT → List (List C) | [] => [] | x :: l => x.cs :: ItemT.rs l
  termination_by structural x => x
def Key.cs : Key → List C | .mk y0 y1 => Expr.cs y0 ++ [.lit (.bool y1)]
  termination_by structural x => x
def Key.rs : List Key → List (List C) | [] => [] | x :: l => x.cs :: Key.rs l
  termination_by structural x => x
def Query.cs : Query → List C | .mk y0 y1 y2 y3 y4 y5 y6 y7 y8 y9 => [.lit (.int .i64 y0)] ++ [.lit (.bool y1)] ++ [.sl 7 (ItemT.rs y2)] ++ [.sl 7 (From.rs y3)] ++ [.sl 6 (Expr.rs y4)] ++ [.sl 6 (Expr.rs y5)] ++ [.sl 6 (Expr.rs y6)] ++ [.sl 7 (Key.rs y7)] ++ [.lit (.int .i64 y8)] ++ [.sl 10 (Query.rs y9)]
  termination_by structural x => x
def Query.rs : List Query → List (List C) | [] => [] | x :: l => x.cs :: Query.rs l
  termination_by structural x => x
end
def Expr.cells (x : Expr) : List C := [.lit (.int .i64 x.Kind), .lit (.int .i64 x.N), .str x.S, .str x.T, .sl 6 (Expr.rs x.Kids), .sl 10 (Query.rs x.Q)]
theorem Expr.cons : ∀ (x : Expr) (l : List Expr), Expr.rs (x :: l) = x.cells :: Expr.rs l
  | .mk _ _ _ _ _ _, _ => rfl
instance : Row Expr := ⟨Expr.rs, Expr.cells, 6, rfl, Expr.cons⟩
def From.cells (x : From) : List C := [.lit (.int .i64 x.Kind), .str x.Table, .lit (.bool x.Visible), .str x.As, .sl 10 (Query.rs x.Q), .sl 7 (From.rs x.Kids), .sl 6 (Expr.rs x.On)]
theorem From.cons : ∀ (x : From) (l : List From), From.rs (x :: l) = x.cells :: From.rs l
  | .mk _ _ _ _ _ _ _, _ => rfl
instance : Row From := ⟨From.rs, From.cells, 7, rfl, From.cons⟩
def ItemT.cells (x : ItemT) : List C := [.lit (.int .i64 x.E.Kind), .lit (.int .i64 x.E.N), .str x.E.S, .str x.E.T, .sl 6 (Expr.rs x.E.Kids), .sl 10 (Query.rs x.E.Q), .str x.Name]
theorem ItemT.cons : ∀ (x : ItemT) (l : List ItemT), ItemT.rs (x :: l) = x.cells :: ItemT.rs l
  | .mk (.mk _ _ _ _ _ _) _, _ => rfl
instance : Row ItemT := ⟨ItemT.rs, ItemT.cells, 7, rfl, ItemT.cons⟩
def Key.cells (x : Key) : List C := [.lit (.int .i64 x.E.Kind), .lit (.int .i64 x.E.N), .str x.E.S, .str x.E.T, .sl 6 (Expr.rs x.E.Kids), .sl 10 (Query.rs x.E.Q), .lit (.bool x.Desc)]
theorem Key.cons : ∀ (x : Key) (l : List Key), Key.rs (x :: l) = x.cells :: Key.rs l
  | .mk (.mk _ _ _ _ _ _) _, _ => rfl
instance : Row Key := ⟨Key.rs, Key.cells, 7, rfl, Key.cons⟩
def Query.cells (x : Query) : List C := [.lit (.int .i64 x.Kind), .lit (.bool x.Distinct), .sl 7 (ItemT.rs x.Items), .sl 7 (From.rs x.From), .sl 6 (Expr.rs x.Where), .sl 6 (Expr.rs x.Group), .sl 6 (Expr.rs x.Having), .sl 7 (Key.rs x.Order), .lit (.int .i64 x.Limit), .sl 10 (Query.rs x.Kids)]
theorem Query.cons : ∀ (x : Query) (l : List Query), Query.rs (x :: l) = x.cells :: Query.rs l
  | .mk _ _ _ _ _ _ _ _ _ _, _ => rfl
instance : Row Query := ⟨Query.rs, Query.cells, 10, rfl, Query.cons⟩

mutual
inductive Stmt where
  | mk (Kind : Int) (At : Int) (Table : Str) (Names : List Str) (E : List Expr) (Q : List Query) (Where : List Expr) (Body : List Stmt) (Else : List Stmt)
end
def Stmt.Kind : Stmt → Int | .mk x _ _ _ _ _ _ _ _ => x
def Stmt.At : Stmt → Int | .mk _ x _ _ _ _ _ _ _ => x
def Stmt.Table : Stmt → Str | .mk _ _ x _ _ _ _ _ _ => x
def Stmt.Names : Stmt → List Str | .mk _ _ _ x _ _ _ _ _ => x
def Stmt.E : Stmt → List Expr | .mk _ _ _ _ x _ _ _ _ => x
def Stmt.Q : Stmt → List Query | .mk _ _ _ _ _ x _ _ _ => x
def Stmt.Where : Stmt → List Expr | .mk _ _ _ _ _ _ x _ _ => x
def Stmt.Body : Stmt → List Stmt | .mk _ _ _ _ _ _ _ x _ => x
def Stmt.Else : Stmt → List Stmt | .mk _ _ _ _ _ _ _ _ x => x
mutual
def Stmt.cs : Stmt → List C | .mk y0 y1 y2 y3 y4 y5 y6 y7 y8 => [.lit (.int .i64 y0)] ++ [.lit (.int .i64 y1)] ++ [.str y2] ++ [.sl 1 (Row.rows (α := Str) y3)] ++ [.sl 6 (Row.rows (α := Expr) y4)] ++ [.sl 10 (Row.rows (α := Query) y5)] ++ [.sl 6 (Row.rows (α := Expr) y6)] ++ [.sl 9 (Stmt.rs y7)] ++ [.sl 9 (Stmt.rs y8)]
  termination_by structural x => x
def Stmt.rs : List Stmt → List (List C) | [] => [] | x :: l => x.cs :: Stmt.rs l
  termination_by structural x => x
end
def Stmt.cells (x : Stmt) : List C := [.lit (.int .i64 x.Kind), .lit (.int .i64 x.At), .str x.Table, .sl 1 (Row.rows (α := Str) x.Names), .sl 6 (Row.rows (α := Expr) x.E), .sl 10 (Row.rows (α := Query) x.Q), .sl 6 (Row.rows (α := Expr) x.Where), .sl 9 (Stmt.rs x.Body), .sl 9 (Stmt.rs x.Else)]
theorem Stmt.cons : ∀ (x : Stmt) (l : List Stmt), Stmt.rs (x :: l) = x.cells :: Stmt.rs l
  | .mk _ _ _ _ _ _ _ _ _, _ => rfl
instance : Row Stmt := ⟨Stmt.rs, Stmt.cells, 9, rfl, Stmt.cons⟩

structure Var where
  mk ::
  Name : Str
  Type_ : Int
def Var.cells (x : Var) : List C := [.str x.Name, .lit (.int .i64 x.Type_)]
instance : Row Var := ⟨fun l => l.map Var.cells, Var.cells, 2, rfl, fun _ _ => rfl⟩

structure Proc where
  mk ::
  Name : Str
  Params : List Var
  Vars : List Var
  Body : List Stmt
def Proc.cells (x : Proc) : List C := [.str x.Name, .sl 2 (Row.rows (α := Var) x.Params), .sl 2 (Row.rows (α := Var) x.Vars), .sl 9 (Row.rows (α := Stmt) x.Body)]
instance : Row Proc := ⟨fun l => l.map Proc.cells, Proc.cells, 4, rfl, fun _ _ => rfl⟩

structure Script where
  mk ::
  Vars : List Var
  Procs : List Proc
  Body : List Stmt
def Script.cells (x : Script) : List C := [.sl 2 (Row.rows (α := Var) x.Vars), .sl 4 (Row.rows (α := Proc) x.Procs), .sl 9 (Row.rows (α := Stmt) x.Body)]
instance : Row Script := ⟨fun l => l.map Script.cells, Script.cells, 3, rfl, fun _ _ => rfl⟩

structure Col where
  mk ::
  Name : Str
  Type_ : Int
  Null : Bool
  Level : Str
def Col.cells (x : Col) : List C := [.str x.Name, .lit (.int .i64 x.Type_), .lit (.bool x.Null), .str x.Level]
instance : Row Col := ⟨fun l => l.map Col.cells, Col.cells, 4, rfl, fun _ _ => rfl⟩

structure Table where
  mk ::
  Name : Str
  Rows : Str
  Cols : List Col
  Key : List Str
  Hide : Str
  When : List Expr
def Table.cells (x : Table) : List C := [.str x.Name, .str x.Rows, .sl 4 (Row.rows (α := Col) x.Cols), .sl 1 (Row.rows (α := Str) x.Key), .str x.Hide, .sl 6 (Row.rows (α := Expr) x.When)]
instance : Row Table := ⟨fun l => l.map Table.cells, Table.cells, 6, rfl, fun _ _ => rfl⟩

structure Pair where
  mk ::
  Low : Str
  High : Str
def Pair.cells (x : Pair) : List C := [.str x.Low, .str x.High]
instance : Row Pair := ⟨fun l => l.map Pair.cells, Pair.cells, 2, rfl, fun _ _ => rfl⟩

structure Schema where
  mk ::
  Levels : List Str
  Edges : List Pair
  Tables : List Table
  Channels : List Pair
  Principals : List Pair
  Limit : Int
def Schema.cells (x : Schema) : List C := [.sl 1 (Row.rows (α := Str) x.Levels), .sl 2 (Row.rows (α := Pair) x.Edges), .sl 6 (Row.rows (α := Table) x.Tables), .sl 2 (Row.rows (α := Pair) x.Channels), .sl 2 (Row.rows (α := Pair) x.Principals), .lit (.int .i64 x.Limit)]
instance : Row Schema := ⟨fun l => l.map Schema.cells, Schema.cells, 6, rfl, fun _ _ => rfl⟩

structure Token where
  mk ::
  Kind : Int
  Text : Str
  N : Int
  At : Int
def Token.cells (x : Token) : List C := [.lit (.int .i64 x.Kind), .str x.Text, .lit (.int .i64 x.N), .lit (.int .i64 x.At)]
instance : Row Token := ⟨fun l => l.map Token.cells, Token.cells, 4, rfl, fun _ _ => rfl⟩

structure PT where
  mk ::
  T : List Token
  I : Int
  Deep : Int
  At : Int
  E : Int
def PT.cells (x : PT) : List C := [.sl 4 (Row.rows (α := Token) x.T), .lit (.int .i64 x.I), .lit (.int .i64 x.Deep), .lit (.int .i64 x.At), .lit (.int .i64 x.E)]
instance : Row PT := ⟨fun l => l.map PT.cells, PT.cells, 5, rfl, fun _ _ => rfl⟩

structure Parser where
  mk ::
  t : List Token
  i : Int
  deep : Int
  at_ : Int
  e : Int
def Parser.cells (x : Parser) : List C := [.sl 4 (Row.rows (α := Token) x.t), .lit (.int .i64 x.i), .lit (.int .i64 x.deep), .lit (.int .i64 x.at_), .lit (.int .i64 x.e)]
instance : Row Parser := ⟨fun l => l.map Parser.cells, Parser.cells, 5, rfl, fun _ _ => rfl⟩

structure Reader where
  mk ::
  s : Str
  at_ : Int
  l : List Token
def Reader.cells (x : Reader) : List C := [.str x.s, .lit (.int .i64 x.at_), .sl 4 (Row.rows (α := Token) x.l)]
instance : Row Reader := ⟨fun l => l.map Reader.cells, Reader.cells, 3, rfl, fun _ _ => rfl⟩

def lay : Lay := [
  (1, ⟨.func #[] #[] false, 1, 8, .nilFunc, [.c (.lit .nilFunc)], false, []⟩),
  (3, ⟨.int .i64, 1, 8, .int .i64 0, [.int .i64 0], false, []⟩),
  (4, ⟨.bool, 1, 1, .bool false, [.bool false], false, []⟩),
  (5, ⟨.int .u8, 1, 1, .int .u8 0, [.int .u8 0], false, []⟩),
  (9, ⟨.string, 1, 16, .string ⟨#[]⟩, [.str []], false, []⟩),
  (22, ⟨.func #[] #[4] false, 1, 8, .nilFunc, [.c (.lit .nilFunc)], false, []⟩),
  (23, ⟨.slice 26, 1, 24, .slice none 0 0, [.nil 6], false, []⟩),
  (24, ⟨.slice 38, 1, 24, .slice none 0 0, [.nil 10], false, []⟩),
  (26, ⟨.struct #[⟨ "Kind", 3, 0, false, "", "", 0⟩, ⟨ "N", 3, 1, false, "", "", 8⟩, ⟨ "S", 9, 2, false, "", "", 16⟩, ⟨ "T", 9, 3, false, "", "", 32⟩, ⟨ "Kids", 23, 4, false, "", "", 48⟩, ⟨ "Q", 24, 5, false, "", "", 72⟩], 6, 96, .agg #[.int .i64 0, .int .i64 0, .string ⟨#[]⟩, .string ⟨#[]⟩, .slice none 0 0, .slice none 0 0], [.int .i64 0, .int .i64 0, .str [], .str [], .nil 6, .nil 10], false, []⟩),
  (27, ⟨.int .i64, 1, 8, .int .i64 0, [.int .i64 0], false, []⟩),
  (33, ⟨.func #[9] #[4] false, 1, 8, .nilFunc, [.c (.lit .nilFunc)], false, []⟩),
  (34, ⟨.slice 83, 1, 24, .slice none 0 0, [.nil 7], false, []⟩),
  (35, ⟨.slice 65, 1, 24, .slice none 0 0, [.nil 7], false, []⟩),
  (36, ⟨.slice 85, 1, 24, .slice none 0 0, [.nil 7], false, []⟩),
  (38, ⟨.struct #[⟨ "Kind", 3, 0, false, "", "", 0⟩, ⟨ "Distinct", 4, 1, false, "", "", 8⟩, ⟨ "Items", 34, 2, false, "", "", 16⟩, ⟨ "From", 35, 3, false, "", "", 40⟩, ⟨ "Where", 23, 4, false, "", "", 64⟩, ⟨ "Group", 23, 5, false, "", "", 88⟩, ⟨ "Having", 23, 6, false, "", "", 112⟩, ⟨ "Order", 36, 7, false, "", "", 136⟩, ⟨ "Limit", 3, 8, false, "", "", 160⟩, ⟨ "Kids", 24, 9, false, "", "", 168⟩], 10, 192, .agg #[.int .i64 0, .bool false, .slice none 0 0, .slice none 0 0, .slice none 0 0, .slice none 0 0, .slice none 0 0, .slice none 0 0, .int .i64 0, .slice none 0 0], [.int .i64 0, .bool false, .nil 7, .nil 7, .nil 6, .nil 6, .nil 6, .nil 7, .int .i64 0, .nil 10], false, []⟩),
  (44, ⟨.slice 148, 1, 24, .slice none 0 0, [.nil 2], false, []⟩),
  (45, ⟨.slice 118, 1, 24, .slice none 0 0, [.nil 4], false, []⟩),
  (46, ⟨.slice 91, 1, 24, .slice none 0 0, [.nil 9], false, []⟩),
  (48, ⟨.struct #[⟨ "Vars", 44, 0, false, "", "", 0⟩, ⟨ "Procs", 45, 1, false, "", "", 24⟩, ⟨ "Body", 46, 2, false, "", "", 48⟩], 3, 72, .agg #[.slice none 0 0, .slice none 0 0, .slice none 0 0], [.nil 2, .nil 4, .nil 9], false, []⟩),
  (54, ⟨.slice 9, 1, 24, .slice none 0 0, [.nil 1], false, []⟩),
  (55, ⟨.slice 126, 1, 24, .slice none 0 0, [.nil 2], false, []⟩),
  (56, ⟨.slice 99, 1, 24, .slice none 0 0, [.nil 6], false, []⟩),
  (58, ⟨.struct #[⟨ "Levels", 54, 0, false, "", "", 0⟩, ⟨ "Edges", 55, 1, false, "", "", 24⟩, ⟨ "Tables", 56, 2, false, "", "", 48⟩, ⟨ "Channels", 55, 3, false, "", "", 72⟩, ⟨ "Principals", 55, 4, false, "", "", 96⟩, ⟨ "Limit", 3, 5, false, "", "", 120⟩], 6, 128, .agg #[.slice none 0 0, .slice none 0 0, .slice none 0 0, .slice none 0 0, .slice none 0 0, .int .i64 0], [.nil 1, .nil 2, .nil 6, .nil 2, .nil 2, .int .i64 0], false, []⟩),
  (65, ⟨.struct #[⟨ "Kind", 3, 0, false, "", "", 0⟩, ⟨ "Table", 9, 1, false, "", "", 8⟩, ⟨ "Visible", 4, 2, false, "", "", 24⟩, ⟨ "As", 9, 3, false, "", "", 32⟩, ⟨ "Q", 24, 4, false, "", "", 48⟩, ⟨ "Kids", 35, 5, false, "", "", 72⟩, ⟨ "On", 23, 6, false, "", "", 96⟩], 7, 120, .agg #[.int .i64 0, .string ⟨#[]⟩, .bool false, .string ⟨#[]⟩, .slice none 0 0, .slice none 0 0, .slice none 0 0], [.int .i64 0, .str [], .bool false, .str [], .nil 10, .nil 7, .nil 6], false, []⟩),
  (67, ⟨.pointer 105, 1, 8, .pointer none, [.c (.lit (.pointer none))], false, []⟩),
  (68, ⟨.func #[] #[26] false, 1, 8, .nilFunc, [.c (.lit .nilFunc)], false, []⟩),
  (69, ⟨.func #[67] #[26] false, 1, 8, .nilFunc, [.c (.lit .nilFunc)], false, []⟩),
  (70, ⟨.pointer 74, 1, 8, .pointer none, [.c (.lit (.pointer none))], false, []⟩),
  (72, ⟨.slice 107, 1, 24, .slice none 0 0, [.nil 4], false, []⟩),
  (74, ⟨.struct #[⟨ "T", 72, 0, false, "", "", 0⟩, ⟨ "I", 3, 1, false, "", "", 24⟩, ⟨ "Deep", 3, 2, false, "", "", 32⟩, ⟨ "At", 3, 3, false, "", "", 40⟩, ⟨ "E", 3, 4, false, "", "", 48⟩], 5, 56, .agg #[.slice none 0 0, .int .i64 0, .int .i64 0, .int .i64 0, .int .i64 0], [.nil 4, .int .i64 0, .int .i64 0, .int .i64 0, .int .i64 0], false, []⟩),
  (81, ⟨.func #[67] #[38] false, 1, 8, .nilFunc, [.c (.lit .nilFunc)], false, []⟩),
  (83, ⟨.struct #[⟨ "E", 26, 0, false, "", "", 0⟩, ⟨ "Name", 9, 6, false, "", "", 96⟩], 7, 112, .agg #[.int .i64 0, .int .i64 0, .string ⟨#[]⟩, .string ⟨#[]⟩, .slice none 0 0, .slice none 0 0, .string ⟨#[]⟩], [.int .i64 0, .int .i64 0, .str [], .str [], .nil 6, .nil 10, .str []], false, []⟩),
  (85, ⟨.struct #[⟨ "E", 26, 0, false, "", "", 0⟩, ⟨ "Desc", 4, 6, false, "", "", 96⟩], 7, 104, .agg #[.int .i64 0, .int .i64 0, .string ⟨#[]⟩, .string ⟨#[]⟩, .slice none 0 0, .slice none 0 0, .bool false], [.int .i64 0, .int .i64 0, .str [], .str [], .nil 6, .nil 10, .bool false], false, []⟩),
  (89, ⟨.func #[67] #[48] false, 1, 8, .nilFunc, [.c (.lit .nilFunc)], false, []⟩),
  (91, ⟨.struct #[⟨ "Kind", 3, 0, false, "", "", 0⟩, ⟨ "At", 3, 1, false, "", "", 8⟩, ⟨ "Table", 9, 2, false, "", "", 16⟩, ⟨ "Names", 54, 3, false, "", "", 32⟩, ⟨ "E", 23, 4, false, "", "", 56⟩, ⟨ "Q", 24, 5, false, "", "", 80⟩, ⟨ "Where", 23, 6, false, "", "", 104⟩, ⟨ "Body", 46, 7, false, "", "", 128⟩, ⟨ "Else", 46, 8, false, "", "", 152⟩], 9, 176, .agg #[.int .i64 0, .int .i64 0, .string ⟨#[]⟩, .slice none 0 0, .slice none 0 0, .slice none 0 0, .slice none 0 0, .slice none 0 0, .slice none 0 0], [.int .i64 0, .int .i64 0, .str [], .nil 1, .nil 6, .nil 10, .nil 6, .nil 9, .nil 9], false, []⟩),
  (95, ⟨.func #[67] #[58] false, 1, 8, .nilFunc, [.c (.lit .nilFunc)], false, []⟩),
  (97, ⟨.slice 101, 1, 24, .slice none 0 0, [.nil 4], false, []⟩),
  (99, ⟨.struct #[⟨ "Name", 9, 0, false, "", "", 0⟩, ⟨ "Rows", 9, 1, false, "", "", 16⟩, ⟨ "Cols", 97, 2, false, "", "", 32⟩, ⟨ "Key", 54, 3, false, "", "", 56⟩, ⟨ "Hide", 9, 4, false, "", "", 80⟩, ⟨ "When", 23, 5, false, "", "", 96⟩], 6, 120, .agg #[.string ⟨#[]⟩, .string ⟨#[]⟩, .slice none 0 0, .slice none 0 0, .string ⟨#[]⟩, .slice none 0 0], [.str [], .str [], .nil 4, .nil 1, .str [], .nil 6], false, []⟩),
  (101, ⟨.struct #[⟨ "Name", 9, 0, false, "", "", 0⟩, ⟨ "Type", 3, 1, false, "", "", 16⟩, ⟨ "Null", 4, 2, false, "", "", 24⟩, ⟨ "Level", 9, 3, false, "", "", 32⟩], 4, 48, .agg #[.string ⟨#[]⟩, .int .i64 0, .bool false, .string ⟨#[]⟩], [.str [], .int .i64 0, .bool false, .str []], true, []⟩),
  (105, ⟨.struct #[⟨ "t", 72, 0, false, "", "cordon/syntax", 0⟩, ⟨ "i", 3, 1, false, "", "cordon/syntax", 24⟩, ⟨ "deep", 3, 2, false, "", "cordon/syntax", 32⟩, ⟨ "at", 3, 3, false, "", "cordon/syntax", 40⟩, ⟨ "e", 27, 4, false, "", "cordon/syntax", 48⟩], 5, 56, .agg #[.slice none 0 0, .int .i64 0, .int .i64 0, .int .i64 0, .int .i64 0], [.nil 4, .int .i64 0, .int .i64 0, .int .i64 0, .int .i64 0], false, []⟩),
  (107, ⟨.struct #[⟨ "Kind", 3, 0, false, "", "", 0⟩, ⟨ "Text", 9, 1, false, "", "", 8⟩, ⟨ "N", 3, 2, false, "", "", 24⟩, ⟨ "At", 3, 3, false, "", "", 32⟩], 4, 40, .agg #[.int .i64 0, .string ⟨#[]⟩, .int .i64 0, .int .i64 0], [.int .i64 0, .str [], .int .i64 0, .int .i64 0], false, []⟩),
  (118, ⟨.struct #[⟨ "Name", 9, 0, false, "", "", 0⟩, ⟨ "Params", 44, 1, false, "", "", 16⟩, ⟨ "Vars", 44, 2, false, "", "", 40⟩, ⟨ "Body", 46, 3, false, "", "", 64⟩], 4, 88, .agg #[.string ⟨#[]⟩, .slice none 0 0, .slice none 0 0, .slice none 0 0], [.str [], .nil 2, .nil 2, .nil 9], false, []⟩),
  (122, ⟨.func #[] #[9] false, 1, 8, .nilFunc, [.c (.lit .nilFunc)], false, []⟩),
  (126, ⟨.struct #[⟨ "Low", 9, 0, false, "", "", 0⟩, ⟨ "High", 9, 1, false, "", "", 16⟩], 2, 32, .agg #[.string ⟨#[]⟩, .string ⟨#[]⟩], [.str [], .str []], false, []⟩),
  (130, ⟨.pointer 132, 1, 8, .pointer none, [.c (.lit (.pointer none))], false, []⟩),
  (132, ⟨.struct #[⟨ "s", 9, 0, false, "", "cordon/token", 0⟩, ⟨ "at", 3, 1, false, "", "cordon/token", 16⟩, ⟨ "l", 72, 2, false, "", "cordon/token", 24⟩], 3, 48, .agg #[.string ⟨#[]⟩, .int .i64 0, .slice none 0 0], [.str [], .int .i64 0, .nil 4], false, []⟩),
  (137, ⟨.func #[5] #[4] false, 1, 8, .nilFunc, [.c (.lit .nilFunc)], false, []⟩),
  (141, ⟨.func #[] #[83] false, 1, 8, .nilFunc, [.c (.lit .nilFunc)], false, []⟩),
  (145, ⟨.func #[] #[85] false, 1, 8, .nilFunc, [.c (.lit .nilFunc)], false, []⟩),
  (148, ⟨.struct #[⟨ "Name", 9, 0, false, "", "", 0⟩, ⟨ "Type", 3, 1, false, "", "", 16⟩], 2, 24, .agg #[.string ⟨#[]⟩, .int .i64 0], [.str [], .int .i64 0], false, []⟩),
  (149, ⟨.func #[] #[148] false, 1, 8, .nilFunc, [.c (.lit .nilFunc)], false, []⟩),
  (154, ⟨.func #[] #[101] false, 1, 8, .nilFunc, [.c (.lit .nilFunc)], false, []⟩),
  (156, ⟨.array 6 9, 6, 96, .agg #[.string ⟨#[]⟩, .string ⟨#[]⟩, .string ⟨#[]⟩, .string ⟨#[]⟩, .string ⟨#[]⟩, .string ⟨#[]⟩], [.str [], .str [], .str [], .str [], .str [], .str []], false, []⟩),
  (161, ⟨.pointer 91, 1, 8, .pointer none, [.c (.lit (.pointer none))], false, []⟩),
  (164, ⟨.pointer 167, 1, 8, .pointer none, [.c (.lit (.pointer none))], false, []⟩),
  (165, ⟨.slice 5, 1, 24, .slice none 0 0, [.nil 1], false, []⟩),
  (167, ⟨.struct #[⟨ "addr", 164, 0, false, "", "strings", 0⟩, ⟨ "buf", 165, 1, false, "", "strings", 8⟩], 2, 32, .agg #[.pointer none, .slice none 0 0], [.c (.lit (.pointer none)), .nil 1], false, [(0, 167)]⟩),
  (169, ⟨.interface #[("Error", 122)], 1, 16, .nilIface, [.c (.lit .nilIface)], false, []⟩),
  (172, ⟨.pointer 5, 1, 8, .pointer none, [.c (.lit (.pointer none))], false, []⟩),
  (173, ⟨.unsafePointer, 1, 8, .pointer none, [.c (.lit (.pointer none))], false, []⟩)]
theorem lay_ok : LOk prog lay :=
  lOk_cons (tOk underlying1 (by kernel_rfl) (by kernel_rfl) (by kernel_rfl) (by kernel_rfl) (by kernel_rfl) (by kernel_rfl)) <|
  lOk_cons (tOk underlying3 (by kernel_rfl) (by kernel_rfl) (by kernel_rfl) (by kernel_rfl) (by kernel_rfl) (by kernel_rfl)) <|
  lOk_cons (tOk underlying4 (by kernel_rfl) (by kernel_rfl) (by kernel_rfl) (by kernel_rfl) (by kernel_rfl) (by kernel_rfl)) <|
  lOk_cons (tOk underlying5 (by kernel_rfl) (by kernel_rfl) (by kernel_rfl) (by kernel_rfl) (by kernel_rfl) (by kernel_rfl)) <|
  lOk_cons (tOk underlying9 (by kernel_rfl) (by kernel_rfl) (by kernel_rfl) (by kernel_rfl) (by kernel_rfl) (by kernel_rfl)) <|
  lOk_cons (tOk underlying22 (by kernel_rfl) (by kernel_rfl) (by kernel_rfl) (by kernel_rfl) (by kernel_rfl) (by kernel_rfl)) <|
  lOk_cons (tOk underlying23 (by kernel_rfl) (by kernel_rfl) (by kernel_rfl) (by kernel_rfl) (by kernel_rfl) (by kernel_rfl)) <|
  lOk_cons (tOk underlying24 (by kernel_rfl) (by kernel_rfl) (by kernel_rfl) (by kernel_rfl) (by kernel_rfl) (by kernel_rfl)) <|
  lOk_cons (tOk underlying26 (by kernel_rfl) (by kernel_rfl) (by kernel_rfl) (by kernel_rfl) (by kernel_rfl) (by kernel_rfl)) <|
  lOk_cons (tOk underlying27 (by kernel_rfl) (by kernel_rfl) (by kernel_rfl) (by kernel_rfl) (by kernel_rfl) (by kernel_rfl)) <|
  lOk_cons (tOk underlying33 (by kernel_rfl) (by kernel_rfl) (by kernel_rfl) (by kernel_rfl) (by kernel_rfl) (by kernel_rfl)) <|
  lOk_cons (tOk underlying34 (by kernel_rfl) (by kernel_rfl) (by kernel_rfl) (by kernel_rfl) (by kernel_rfl) (by kernel_rfl)) <|
  lOk_cons (tOk underlying35 (by kernel_rfl) (by kernel_rfl) (by kernel_rfl) (by kernel_rfl) (by kernel_rfl) (by kernel_rfl)) <|
  lOk_cons (tOk underlying36 (by kernel_rfl) (by kernel_rfl) (by kernel_rfl) (by kernel_rfl) (by kernel_rfl) (by kernel_rfl)) <|
  lOk_cons (tOk underlying38 (by kernel_rfl) (by kernel_rfl) (by kernel_rfl) (by kernel_rfl) (by kernel_rfl) (by kernel_rfl)) <|
  lOk_cons (tOk underlying44 (by kernel_rfl) (by kernel_rfl) (by kernel_rfl) (by kernel_rfl) (by kernel_rfl) (by kernel_rfl)) <|
  lOk_cons (tOk underlying45 (by kernel_rfl) (by kernel_rfl) (by kernel_rfl) (by kernel_rfl) (by kernel_rfl) (by kernel_rfl)) <|
  lOk_cons (tOk underlying46 (by kernel_rfl) (by kernel_rfl) (by kernel_rfl) (by kernel_rfl) (by kernel_rfl) (by kernel_rfl)) <|
  lOk_cons (tOk underlying48 (by kernel_rfl) (by kernel_rfl) (by kernel_rfl) (by kernel_rfl) (by kernel_rfl) (by kernel_rfl)) <|
  lOk_cons (tOk underlying54 (by kernel_rfl) (by kernel_rfl) (by kernel_rfl) (by kernel_rfl) (by kernel_rfl) (by kernel_rfl)) <|
  lOk_cons (tOk underlying55 (by kernel_rfl) (by kernel_rfl) (by kernel_rfl) (by kernel_rfl) (by kernel_rfl) (by kernel_rfl)) <|
  lOk_cons (tOk underlying56 (by kernel_rfl) (by kernel_rfl) (by kernel_rfl) (by kernel_rfl) (by kernel_rfl) (by kernel_rfl)) <|
  lOk_cons (tOk underlying58 (by kernel_rfl) (by kernel_rfl) (by kernel_rfl) (by kernel_rfl) (by kernel_rfl) (by kernel_rfl)) <|
  lOk_cons (tOk underlying65 (by kernel_rfl) (by kernel_rfl) (by kernel_rfl) (by kernel_rfl) (by kernel_rfl) (by kernel_rfl)) <|
  lOk_cons (tOk underlying67 (by kernel_rfl) (by kernel_rfl) (by kernel_rfl) (by kernel_rfl) (by kernel_rfl) (by kernel_rfl)) <|
  lOk_cons (tOk underlying68 (by kernel_rfl) (by kernel_rfl) (by kernel_rfl) (by kernel_rfl) (by kernel_rfl) (by kernel_rfl)) <|
  lOk_cons (tOk underlying69 (by kernel_rfl) (by kernel_rfl) (by kernel_rfl) (by kernel_rfl) (by kernel_rfl) (by kernel_rfl)) <|
  lOk_cons (tOk underlying70 (by kernel_rfl) (by kernel_rfl) (by kernel_rfl) (by kernel_rfl) (by kernel_rfl) (by kernel_rfl)) <|
  lOk_cons (tOk underlying72 (by kernel_rfl) (by kernel_rfl) (by kernel_rfl) (by kernel_rfl) (by kernel_rfl) (by kernel_rfl)) <|
  lOk_cons (tOk underlying74 (by kernel_rfl) (by kernel_rfl) (by kernel_rfl) (by kernel_rfl) (by kernel_rfl) (by kernel_rfl)) <|
  lOk_cons (tOk underlying81 (by kernel_rfl) (by kernel_rfl) (by kernel_rfl) (by kernel_rfl) (by kernel_rfl) (by kernel_rfl)) <|
  lOk_cons (tOk underlying83 (by kernel_rfl) (by kernel_rfl) (by kernel_rfl) (by kernel_rfl) (by kernel_rfl) (by kernel_rfl)) <|
  lOk_cons (tOk underlying85 (by kernel_rfl) (by kernel_rfl) (by kernel_rfl) (by kernel_rfl) (by kernel_rfl) (by kernel_rfl)) <|
  lOk_cons (tOk underlying89 (by kernel_rfl) (by kernel_rfl) (by kernel_rfl) (by kernel_rfl) (by kernel_rfl) (by kernel_rfl)) <|
  lOk_cons (tOk underlying91 (by kernel_rfl) (by kernel_rfl) (by kernel_rfl) (by kernel_rfl) (by kernel_rfl) (by kernel_rfl)) <|
  lOk_cons (tOk underlying95 (by kernel_rfl) (by kernel_rfl) (by kernel_rfl) (by kernel_rfl) (by kernel_rfl) (by kernel_rfl)) <|
  lOk_cons (tOk underlying97 (by kernel_rfl) (by kernel_rfl) (by kernel_rfl) (by kernel_rfl) (by kernel_rfl) (by kernel_rfl)) <|
  lOk_cons (tOk underlying99 (by kernel_rfl) (by kernel_rfl) (by kernel_rfl) (by kernel_rfl) (by kernel_rfl) (by kernel_rfl)) <|
  lOk_cons (tOk underlying101 (by kernel_rfl) (by kernel_rfl) (by kernel_rfl) (by kernel_rfl) (by kernel_rfl) (by kernel_rfl)) <|
  lOk_cons (tOk underlying105 (by kernel_rfl) (by kernel_rfl) (by kernel_rfl) (by kernel_rfl) (by kernel_rfl) (by kernel_rfl)) <|
  lOk_cons (tOk underlying107 (by kernel_rfl) (by kernel_rfl) (by kernel_rfl) (by kernel_rfl) (by kernel_rfl) (by kernel_rfl)) <|
  lOk_cons (tOk underlying118 (by kernel_rfl) (by kernel_rfl) (by kernel_rfl) (by kernel_rfl) (by kernel_rfl) (by kernel_rfl)) <|
  lOk_cons (tOk underlying122 (by kernel_rfl) (by kernel_rfl) (by kernel_rfl) (by kernel_rfl) (by kernel_rfl) (by kernel_rfl)) <|
  lOk_cons (tOk underlying126 (by kernel_rfl) (by kernel_rfl) (by kernel_rfl) (by kernel_rfl) (by kernel_rfl) (by kernel_rfl)) <|
  lOk_cons (tOk underlying130 (by kernel_rfl) (by kernel_rfl) (by kernel_rfl) (by kernel_rfl) (by kernel_rfl) (by kernel_rfl)) <|
  lOk_cons (tOk underlying132 (by kernel_rfl) (by kernel_rfl) (by kernel_rfl) (by kernel_rfl) (by kernel_rfl) (by kernel_rfl)) <|
  lOk_cons (tOk underlying137 (by kernel_rfl) (by kernel_rfl) (by kernel_rfl) (by kernel_rfl) (by kernel_rfl) (by kernel_rfl)) <|
  lOk_cons (tOk underlying141 (by kernel_rfl) (by kernel_rfl) (by kernel_rfl) (by kernel_rfl) (by kernel_rfl) (by kernel_rfl)) <|
  lOk_cons (tOk underlying145 (by kernel_rfl) (by kernel_rfl) (by kernel_rfl) (by kernel_rfl) (by kernel_rfl) (by kernel_rfl)) <|
  lOk_cons (tOk underlying148 (by kernel_rfl) (by kernel_rfl) (by kernel_rfl) (by kernel_rfl) (by kernel_rfl) (by kernel_rfl)) <|
  lOk_cons (tOk underlying149 (by kernel_rfl) (by kernel_rfl) (by kernel_rfl) (by kernel_rfl) (by kernel_rfl) (by kernel_rfl)) <|
  lOk_cons (tOk underlying154 (by kernel_rfl) (by kernel_rfl) (by kernel_rfl) (by kernel_rfl) (by kernel_rfl) (by kernel_rfl)) <|
  lOk_cons (tOk underlying156 (by kernel_rfl) (by kernel_rfl) (by kernel_rfl) (by kernel_rfl) (by kernel_rfl) (by kernel_rfl)) <|
  lOk_cons (tOk underlying161 (by kernel_rfl) (by kernel_rfl) (by kernel_rfl) (by kernel_rfl) (by kernel_rfl) (by kernel_rfl)) <|
  lOk_cons (tOk underlying164 (by kernel_rfl) (by kernel_rfl) (by kernel_rfl) (by kernel_rfl) (by kernel_rfl) (by kernel_rfl)) <|
  lOk_cons (tOk underlying165 (by kernel_rfl) (by kernel_rfl) (by kernel_rfl) (by kernel_rfl) (by kernel_rfl) (by kernel_rfl)) <|
  lOk_cons (tOk underlying167 (by kernel_rfl) (by kernel_rfl) (by kernel_rfl) (by kernel_rfl) (by kernel_rfl) (by kernel_rfl)) <|
  lOk_cons (tOk underlying169 (by kernel_rfl) (by kernel_rfl) (by kernel_rfl) (by kernel_rfl) (by kernel_rfl) (by kernel_rfl)) <|
  lOk_cons (tOk underlying172 (by kernel_rfl) (by kernel_rfl) (by kernel_rfl) (by kernel_rfl) (by kernel_rfl) (by kernel_rfl)) <|
  lOk_cons (tOk underlying173 (by kernel_rfl) (by kernel_rfl) (by kernel_rfl) (by kernel_rfl) (by kernel_rfl) (by kernel_rfl)) <|
  lOk_nil
theorem ext146 (s : Str) (c : UInt8) : Has prog 146 [.str s, .int .u8 (c.toNat : Int)] [] [] (.int .i64 (idxByte s c)) := has_indexByteString func146 (by kernel_rfl) (by kernel_rfl) (by kernel_rfl) (by kernel_rfl) s c
theorem ext151 (x : V) (objs : List O) : Has prog 151 [x] objs objs x := has_same func151 (by kernel_rfl) (by kernel_rfl) (by kernel_rfl) (by kernel_rfl) x objs
theorem mix : prog.follows .mixedOrders = true := by kernel_rfl
noncomputable def cl {f : FuncId} {args : List V} {objs objs' : List O} {r : V} (is : List Nat) (_ : Has prog f args objs objs' r) (ks : List Nat := []) : Orc := .call is objs' r ks
theorem ent {f : FuncId} {fn : Func} {c : Code} {args : List V} {objs : List O} {Q : List O → V → Prop} (hfn : prog.funcs[f]? = some fn) (hb : fn.body = some c) (hname : (fn.name == "runtime.NumGoroutine") = false) (hsz : Nat.ble args.length fn.ntmps = true)
    (h : ∀ cx, AK prog cx [.code c] (startSt args objs fn.ntmps) (Fin lay fn.results.toList objs.length Q)) : HC prog f args objs Q := hc_fin lay_ok hfn hb hname (Nat.le_of_ble_eq_true hsz) fun cx => (h cx).aw
theorem tt {cx : Cx} {ks ks2 : List Item} {st st2 : St} {Q : Exit → St → Prop} (n : Nat) (os : List (Nat × PO)) (cs : List Co) (live : List Nat) (m : List (Nat × Nat)) (next : Nat) (l : List Pf) (h : AK prog cx ks2 st2 Q)
    (hx : pathA (Has prog) lay n ks st os cs live m next = some (ks2, st2, ptys l) := by kernel_rfl) : AK prog cx ks st Q := ak_to lay_ok mix n os cs live m next ks2 st2 (ptys l) hx (ptys_ok l) h
theorem rr {cx : Cx} {ks : List Item} {st : St} {rs : List ResultVar} {k : Nat} {objs : List O} {v : V} (n : Nat) (os : List (Nat × PO)) (cs : List Co) (m : List (Nat × Nat)) (nk : Nat) (l : List Pf)
    (hx : pathR (Has prog) lay rs n ks st os cs m nk true = some (objs, v, ptys l) := by kernel_rfl) (hk : Nat.ble k nk = true := by rfl) : AK prog cx ks st (Fin lay rs k fun o u => o = objs ∧ u = v) := ak_ret lay_ok mix n os cs m nk true objs v (ptys l) hx (ptys_ok l) (Nat.le_of_ble_eq_true hk) ⟨rfl, rfl⟩
end Go.Syn
