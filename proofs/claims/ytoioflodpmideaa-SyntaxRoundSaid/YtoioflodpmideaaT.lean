/- Part T of the model: each function answers as its plain twin in this text says, whenever that twin answers. No other condition. (Printed by a program of this work.) -/
import Derived.Test.YtoioflodpmideaaAbs22
import Derived.Test.YtoioflodpmideaaProg
namespace Go.Syn
open Go.Abs Go.Proofs.Try
set_option linter.unusedVariables false
mutual
inductive Expr where
  | mk (Kind : Int) (N : Int) (S : Str) (T : Str) (Kids : List Expr) (Q : List Query)
inductive From where
  | mk (Kind : Int) (Table : Str) (Visible : Bool) (As : Str) (Q : List Query) (Kids : List From) (On : List Expr)
inductive ItemT where
  | mk (E : Expr) (Name : Str)
inductive Key where
  | mk (E : Expr) (Desc : Bool)
inductive Query where
  | mk (Kind : Int) (Distinct : Bool) (Items : List ItemT) (From : List From) (Where : List Expr) (Group : List Expr) (Having : List Expr) (Order : List Key) (Limit : Int) (Kids : List Query)
end
def Expr.Kind : Expr → Int | .mk x _ _ _ _ _ => x
def Expr.N : Expr → Int | .mk _ x _ _ _ _ => x
def Expr.S : Expr → Str | .mk _ _ x _ _ _ => x
def Expr.T : Expr → Str | .mk _ _ _ x _ _ => x
def Expr.Kids : Expr → List Expr | .mk _ _ _ _ x _ => x
def Expr.Q : Expr → List Query | .mk _ _ _ _ _ x => x
def From.Kind : From → Int | .mk x _ _ _ _ _ _ => x
def From.Table : From → Str | .mk _ x _ _ _ _ _ => x
def From.Visible : From → Bool | .mk _ _ x _ _ _ _ => x
def From.As : From → Str | .mk _ _ _ x _ _ _ => x
def From.Q : From → List Query | .mk _ _ _ _ x _ _ => x
def From.Kids : From → List From | .mk _ _ _ _ _ x _ => x
def From.On : From → List Expr | .mk _ _ _ _ _ _ x => x
def ItemT.E : ItemT → Expr | .mk x _ => x
def ItemT.Name : ItemT → Str | .mk _ x => x
def Key.E : Key → Expr | .mk x _ => x
def Key.Desc : Key → Bool | .mk _ x => x
def Query.Kind : Query → Int | .mk x _ _ _ _ _ _ _ _ _ => x
def Query.Distinct : Query → Bool | .mk _ x _ _ _ _ _ _ _ _ => x
def Query.Items : Query → List ItemT | .mk _ _ x _ _ _ _ _ _ _ => x
def Query.From : Query → List From | .mk _ _ _ x _ _ _ _ _ _ => x
def Query.Where : Query → List Expr | .mk _ _ _ _ x _ _ _ _ _ => x
def Query.Group : Query → List Expr | .mk _ _ _ _ _ x _ _ _ _ => x
def Query.Having : Query → List Expr | .mk _ _ _ _ _ _ x _ _ _ => x
def Query.Order : Query → List Key | .mk _ _ _ _ _ _ _ x _ _ => x
def Query.Limit : Query → Int | .mk _ _ _ _ _ _ _ _ x _ => x
def Query.Kids : Query → List Query | .mk _ _ _ _ _ _ _ _ _ x => x
mutual
def Expr.cs : Expr → List C | .mk y0 y1 y2 y3 y4 y5 => [.lit (.int .i64 y0)] ++ [.lit (.int .i64 y1)] ++ [.str y2] ++ [.str y3] ++ [.sl 6 (Expr.rs y4)] ++ [.sl 10 (Query.rs y5)]
  termination_by structural x => x
def Expr.rs : List Expr → List (List C) | [] => [] | x :: l => x.cs :: Expr.rs l
  termination_by structural x => x
def From.cs : From → List C | .mk y0 y1 y2 y3 y4 y5 y6 => [.lit (.int .i64 y0)] ++ [.str y1] ++ [.lit (.bool y2)] ++ [.str y3] ++ [.sl 10 (Query.rs y4)] ++ [.sl 7 (From.rs y5)] ++ [.sl 6 (Expr.rs y6)]
  termination_by structural x => x
def From.rs : List From → List (List C) | [] => [] | x :: l => x.cs :: From.rs l
  termination_by structural x => x
def ItemT.cs : ItemT → List C | .mk y0 y1 => Expr.cs y0 ++ [.str y1]
  termination_by structural x => x
def ItemT.rs : List ItemT → List (List C) | [] => [] | x :: l => x.cs :: ItemT.rs l
  termination_by structural x => x
def Key.cs : Key → List C | .mk y0 y1 => Expr.cs y0 ++ [.lit (.bool y1)]
  termination_by structural x => x
def Key.rs : List Key → List (List C) | [] => [] | x :: l => x.cs :: Key.rs l
  termination_by structural x => x
def Query.cs : Query → List C | .mk y0 y1 y2 y3 y4 y5 y6 y7 y8 y9 => [.lit (.int .i64 y0)] ++ [.lit (.bool y1)] ++ [.sl 7 (ItemT.rs y2)] ++ [.sl 7 (From.rs y3)] ++ [.sl 6 (Expr.rs y4)] ++ [.sl 6 (Expr.rs y5)] ++ [.sl 6 (Expr.rs y6)] ++ [.sl 7 (Key.rs y7)] ++ [.lit (.int .i64 y8)] ++ [.sl 10 (Query.rs y9)]
  termination_by structural x => x
def Query.rs : List Query → List (List C) | [] => [] | x :: l => x.cs :: Query.rs l
  termination_by structural x => x
end
def Expr.cells (x : Expr) : List C := [.lit (.int .i64 x.Kind), .lit (.int .i64 x.N), .str x.S, .str x.T, .sl 6 (Expr.rs x.Kids), .sl 10 (Query.rs x.Q)]
theorem Expr.cons : ∀ (x : Expr) (l : List Expr), Expr.rs (x :: l) = x.cells :: Expr.rs l
  | .mk _ _ _ _ _ _, _ => rfl
instance : Row Expr := ⟨Expr.rs, Expr.cells, 6, rfl, Expr.cons⟩
def From.cells (x : From) : List C := [.lit (.int .i64 x.Kind), .str x.Table, .lit (.bool x.Visible), .str x.As, .sl 10 (Query.rs x.Q), .sl 7 (From.rs x.Kids), .sl 6 (Expr.rs x.On)]
theorem From.cons : ∀ (x : From) (l : List From), From.rs (x :: l) = x.cells :: From.rs l
  | .mk _ _ _ _ _ _ _, _ => rfl
instance : Row From := ⟨From.rs, From.cells, 7, rfl, From.cons⟩
def ItemT.cells (x : ItemT) : List C := [.lit (.int .i64 x.E.Kind), .lit (.int .i64 x.E.N), .str x.E.S, .str x.E.T, .sl 6 (Expr.rs x.E.Kids), .sl 10 (Query.rs x.E.Q), .str x.Name]
theorem ItemT.cons : ∀ (x : ItemT) (l : List ItemT), ItemT.rs (x :: l) = x.cells :: ItemT.rs l
  | .mk (.mk _ _ _ _ _ _) _, _ => rfl
instance : Row ItemT := ⟨ItemT.rs, ItemT.cells, 7, rfl, ItemT.cons⟩
def Key.cells (x : Key) : List C := [.lit (.int .i64 x.E.Kind), .lit (.int .i64 x.E.N), .str x.E.S, .str x.E.T, .sl 6 (Expr.rs x.E.Kids), .sl 10 (Query.rs x.E.Q), .lit (.bool x.Desc)]
theorem Key.cons : ∀ (x : Key) (l : List Key), Key.rs (x :: l) = x.cells :: Key.rs l
  | .mk (.mk _ _ _ _ _ _) _, _ => rfl
instance : Row Key := ⟨Key.rs, Key.cells, 7, rfl, Key.cons⟩
def Query.cells (x : Query) : List C := [.lit (.int .i64 x.Kind), .lit (.bool x.Distinct), .sl 7 (ItemT.rs x.Items), .sl 7 (From.rs x.From), .sl 6 (Expr.rs x.Where), .sl 6 (Expr.rs x.Group), .sl 6 (Expr.rs x.Having), .sl 7 (Key.rs x.Order), .lit (.int .i64 x.Limit), .sl 10 (Query.rs x.Kids)]
theorem Query.cons : ∀ (x : Query) (l : List Query), Query.rs (x :: l) = x.cells :: Query.rs l
  | .mk _ _ _ _ _ _ _ _ _ _, _ => rfl
instance : Row Query := ⟨Query.rs, Query.cells, 10, rfl, Query.cons⟩

structure Var where
  mk ::
  Name : Str
  Type_ : Int
def Var.cells (x : Var) : List C := [.str x.Name, .lit (.int .i64 x.Type_)]
instance : Row Var := ⟨fun l => l.map Var.cells, Var.cells, 2, rfl, fun _ _ => rfl⟩

mutual
inductive Stmt where
  | mk (Kind : Int) (At : Int) (Table : Str) (Names : List Str) (E : List Expr) (Q : List Query) (Where : List Expr) (Body : List Stmt) (Else : List Stmt)
end
def Stmt.Kind : Stmt → Int | .mk x _ _ _ _ _ _ _ _ => x
def Stmt.At : Stmt → Int | .mk _ x _ _ _ _ _ _ _ => x
def Stmt.Table : Stmt → Str | .mk _ _ x _ _ _ _ _ _ => x
def Stmt.Names : Stmt → List Str | .mk _ _ _ x _ _ _ _ _ => x
def Stmt.E : Stmt → List Expr | .mk _ _ _ _ x _ _ _ _ => x
def Stmt.Q : Stmt → List Query | .mk _ _ _ _ _ x _ _ _ => x
def Stmt.Where : Stmt → List Expr | .mk _ _ _ _ _ _ x _ _ => x
def Stmt.Body : Stmt → List Stmt | .mk _ _ _ _ _ _ _ x _ => x
def Stmt.Else : Stmt → List Stmt | .mk _ _ _ _ _ _ _ _ x => x
mutual
def Stmt.cs : Stmt → List C | .mk y0 y1 y2 y3 y4 y5 y6 y7 y8 => [.lit (.int .i64 y0)] ++ [.lit (.int .i64 y1)] ++ [.str y2] ++ [.sl 1 (Row.rows (α := Str) y3)] ++ [.sl 6 (Row.rows (α := Expr) y4)] ++ [.sl 10 (Row.rows (α := Query) y5)] ++ [.sl 6 (Row.rows (α := Expr) y6)] ++ [.sl 9 (Stmt.rs y7)] ++ [.sl 9 (Stmt.rs y8)]
  termination_by structural x => x
def Stmt.rs : List Stmt → List (List C) | [] => [] | x :: l => x.cs :: Stmt.rs l
  termination_by structural x => x
end
def Stmt.cells (x : Stmt) : List C := [.lit (.int .i64 x.Kind), .lit (.int .i64 x.At), .str x.Table, .sl 1 (Row.rows (α := Str) x.Names), .sl 6 (Row.rows (α := Expr) x.E), .sl 10 (Row.rows (α := Query) x.Q), .sl 6 (Row.rows (α := Expr) x.Where), .sl 9 (Stmt.rs x.Body), .sl 9 (Stmt.rs x.Else)]
theorem Stmt.cons : ∀ (x : Stmt) (l : List Stmt), Stmt.rs (x :: l) = x.cells :: Stmt.rs l
  | .mk _ _ _ _ _ _ _ _ _, _ => rfl
instance : Row Stmt := ⟨Stmt.rs, Stmt.cells, 9, rfl, Stmt.cons⟩

structure Proc where
  mk ::
  Name : Str
  Params : List Var
  Vars : List Var
  Body : List Stmt
def Proc.cells (x : Proc) : List C := [.str x.Name, .sl 2 (Row.rows (α := Var) x.Params), .sl 2 (Row.rows (α := Var) x.Vars), .sl 9 (Row.rows (α := Stmt) x.Body)]
instance : Row Proc := ⟨fun l => l.map Proc.cells, Proc.cells, 4, rfl, fun _ _ => rfl⟩

structure Script where
  mk ::
  Vars : List Var
  Procs : List Proc
  Body : List Stmt
def Script.cells (x : Script) : List C := [.sl 2 (Row.rows (α := Var) x.Vars), .sl 4 (Row.rows (α := Proc) x.Procs), .sl 9 (Row.rows (α := Stmt) x.Body)]
instance : Row Script := ⟨fun l => l.map Script.cells, Script.cells, 3, rfl, fun _ _ => rfl⟩

structure Token where
  mk ::
  Kind : Int
  Text : Str
  N : Int
  At : Int
def Token.cells (x : Token) : List C := [.lit (.int .i64 x.Kind), .str x.Text, .lit (.int .i64 x.N), .lit (.int .i64 x.At)]
instance : Row Token := ⟨fun l => l.map Token.cells, Token.cells, 4, rfl, fun _ _ => rfl⟩

structure Parser where
  mk ::
  t : List Token
  i : Int
  deep : Int
  at_ : Int
  e : Int
def Parser.cells (x : Parser) : List C := [.sl 4 (Row.rows (α := Token) x.t), .lit (.int .i64 x.i), .lit (.int .i64 x.deep), .lit (.int .i64 x.at_), .lit (.int .i64 x.e)]
instance : Row Parser := ⟨fun l => l.map Parser.cells, Parser.cells, 5, rfl, fun _ _ => rfl⟩

structure Reader where
  mk ::
  s : Str
  at_ : Int
  l : List Token
def Reader.cells (x : Reader) : List C := [.str x.s, .lit (.int .i64 x.at_), .sl 4 (Row.rows (α := Token) x.l)]
instance : Row Reader := ⟨fun l => l.map Reader.cells, Reader.cells, 3, rfl, fun _ _ => rfl⟩

def lay : Lay := [
  (1, ⟨.func #[] #[] false, 1, 8, .nilFunc, [.c (.lit .nilFunc)], false, []⟩),
  (3, ⟨.int .i64, 1, 8, .int .i64 0, [.int .i64 0], false, []⟩),
  (4, ⟨.bool, 1, 1, .bool false, [.bool false], false, []⟩),
  (5, ⟨.int .u8, 1, 1, .int .u8 0, [.int .u8 0], false, []⟩),
  (9, ⟨.string, 1, 16, .string ⟨#[]⟩, [.str []], false, []⟩),
  (22, ⟨.func #[] #[4] false, 1, 8, .nilFunc, [.c (.lit .nilFunc)], false, []⟩),
  (23, ⟨.slice 26, 1, 24, .slice none 0 0, [.nil 6], false, []⟩),
  (24, ⟨.slice 36, 1, 24, .slice none 0 0, [.nil 10], false, []⟩),
  (26, ⟨.struct #[⟨ "Kind", 3, 0, false, "", "", 0⟩, ⟨ "N", 3, 1, false, "", "", 8⟩, ⟨ "S", 9, 2, false, "", "", 16⟩, ⟨ "T", 9, 3, false, "", "", 32⟩, ⟨ "Kids", 23, 4, false, "", "", 48⟩, ⟨ "Q", 24, 5, false, "", "", 72⟩], 6, 96, .agg #[.int .i64 0, .int .i64 0, .string ⟨#[]⟩, .string ⟨#[]⟩, .slice none 0 0, .slice none 0 0], [.int .i64 0, .int .i64 0, .str [], .str [], .nil 6, .nil 10], false, []⟩),
  (27, ⟨.int .i64, 1, 8, .int .i64 0, [.int .i64 0], false, []⟩),
  (31, ⟨.func #[9] #[4] false, 1, 8, .nilFunc, [.c (.lit .nilFunc)], false, []⟩),
  (32, ⟨.slice 86, 1, 24, .slice none 0 0, [.nil 7], false, []⟩),
  (33, ⟨.slice 47, 1, 24, .slice none 0 0, [.nil 7], false, []⟩),
  (34, ⟨.slice 88, 1, 24, .slice none 0 0, [.nil 7], false, []⟩),
  (36, ⟨.struct #[⟨ "Kind", 3, 0, false, "", "", 0⟩, ⟨ "Distinct", 4, 1, false, "", "", 8⟩, ⟨ "Items", 32, 2, false, "", "", 16⟩, ⟨ "From", 33, 3, false, "", "", 40⟩, ⟨ "Where", 23, 4, false, "", "", 64⟩, ⟨ "Group", 23, 5, false, "", "", 88⟩, ⟨ "Having", 23, 6, false, "", "", 112⟩, ⟨ "Order", 34, 7, false, "", "", 136⟩, ⟨ "Limit", 3, 8, false, "", "", 160⟩, ⟨ "Kids", 24, 9, false, "", "", 168⟩], 10, 192, .agg #[.int .i64 0, .bool false, .slice none 0 0, .slice none 0 0, .slice none 0 0, .slice none 0 0, .slice none 0 0, .slice none 0 0, .int .i64 0, .slice none 0 0], [.int .i64 0, .bool false, .nil 7, .nil 7, .nil 6, .nil 6, .nil 6, .nil 7, .int .i64 0, .nil 10], false, []⟩),
  (39, ⟨.slice 99, 1, 24, .slice none 0 0, [.nil 2], false, []⟩),
  (40, ⟨.slice 73, 1, 24, .slice none 0 0, [.nil 4], false, []⟩),
  (41, ⟨.slice 105, 1, 24, .slice none 0 0, [.nil 9], false, []⟩),
  (43, ⟨.struct #[⟨ "Vars", 39, 0, false, "", "", 0⟩, ⟨ "Procs", 40, 1, false, "", "", 24⟩, ⟨ "Body", 41, 2, false, "", "", 48⟩], 3, 72, .agg #[.slice none 0 0, .slice none 0 0, .slice none 0 0], [.nil 2, .nil 4, .nil 9], false, []⟩),
  (47, ⟨.struct #[⟨ "Kind", 3, 0, false, "", "", 0⟩, ⟨ "Table", 9, 1, false, "", "", 8⟩, ⟨ "Visible", 4, 2, false, "", "", 24⟩, ⟨ "As", 9, 3, false, "", "", 32⟩, ⟨ "Q", 24, 4, false, "", "", 48⟩, ⟨ "Kids", 33, 5, false, "", "", 72⟩, ⟨ "On", 23, 6, false, "", "", 96⟩], 7, 120, .agg #[.int .i64 0, .string ⟨#[]⟩, .bool false, .string ⟨#[]⟩, .slice none 0 0, .slice none 0 0, .slice none 0 0], [.int .i64 0, .str [], .bool false, .str [], .nil 10, .nil 7, .nil 6], false, []⟩),
  (49, ⟨.pointer 64, 1, 8, .pointer none, [.c (.lit (.pointer none))], false, []⟩),
  (50, ⟨.func #[] #[26] false, 1, 8, .nilFunc, [.c (.lit .nilFunc)], false, []⟩),
  (51, ⟨.func #[49] #[26] false, 1, 8, .nilFunc, [.c (.lit .nilFunc)], false, []⟩),
  (56, ⟨.func #[49] #[36] false, 1, 8, .nilFunc, [.c (.lit .nilFunc)], false, []⟩),
  (59, ⟨.func #[49] #[43] false, 1, 8, .nilFunc, [.c (.lit .nilFunc)], false, []⟩),
  (60, ⟨.slice 66, 1, 24, .slice none 0 0, [.nil 4], false, []⟩),
  (64, ⟨.struct #[⟨ "t", 60, 0, false, "", "cordon/syntax", 0⟩, ⟨ "i", 3, 1, false, "", "cordon/syntax", 24⟩, ⟨ "deep", 3, 2, false, "", "cordon/syntax", 32⟩, ⟨ "at", 3, 3, false, "", "cordon/syntax", 40⟩, ⟨ "e", 27, 4, false, "", "cordon/syntax", 48⟩], 5, 56, .agg #[.slice none 0 0, .int .i64 0, .int .i64 0, .int .i64 0, .int .i64 0], [.nil 4, .int .i64 0, .int .i64 0, .int .i64 0, .int .i64 0], false, []⟩),
  (66, ⟨.struct #[⟨ "Kind", 3, 0, false, "", "", 0⟩, ⟨ "Text", 9, 1, false, "", "", 8⟩, ⟨ "N", 3, 2, false, "", "", 24⟩, ⟨ "At", 3, 3, false, "", "", 32⟩], 4, 40, .agg #[.int .i64 0, .string ⟨#[]⟩, .int .i64 0, .int .i64 0], [.int .i64 0, .str [], .int .i64 0, .int .i64 0], false, []⟩),
  (73, ⟨.struct #[⟨ "Name", 9, 0, false, "", "", 0⟩, ⟨ "Params", 39, 1, false, "", "", 16⟩, ⟨ "Vars", 39, 2, false, "", "", 40⟩, ⟨ "Body", 41, 3, false, "", "", 64⟩], 4, 88, .agg #[.string ⟨#[]⟩, .slice none 0 0, .slice none 0 0, .slice none 0 0], [.str [], .nil 2, .nil 2, .nil 9], false, []⟩),
  (76, ⟨.pointer 78, 1, 8, .pointer none, [.c (.lit (.pointer none))], false, []⟩),
  (78, ⟨.struct #[⟨ "s", 9, 0, false, "", "cordon/token", 0⟩, ⟨ "at", 3, 1, false, "", "cordon/token", 16⟩, ⟨ "l", 60, 2, false, "", "cordon/token", 24⟩], 3, 48, .agg #[.string ⟨#[]⟩, .int .i64 0, .slice none 0 0], [.str [], .int .i64 0, .nil 4], false, []⟩),
  (81, ⟨.slice 9, 1, 24, .slice none 0 0, [.nil 1], false, []⟩),
  (86, ⟨.struct #[⟨ "E", 26, 0, false, "", "", 0⟩, ⟨ "Name", 9, 6, false, "", "", 96⟩], 7, 112, .agg #[.int .i64 0, .int .i64 0, .string ⟨#[]⟩, .string ⟨#[]⟩, .slice none 0 0, .slice none 0 0, .string ⟨#[]⟩], [.int .i64 0, .int .i64 0, .str [], .str [], .nil 6, .nil 10, .str []], false, []⟩),
  (88, ⟨.struct #[⟨ "E", 26, 0, false, "", "", 0⟩, ⟨ "Desc", 4, 6, false, "", "", 96⟩], 7, 104, .agg #[.int .i64 0, .int .i64 0, .string ⟨#[]⟩, .string ⟨#[]⟩, .slice none 0 0, .slice none 0 0, .bool false], [.int .i64 0, .int .i64 0, .str [], .str [], .nil 6, .nil 10, .bool false], false, []⟩),
  (92, ⟨.func #[] #[86] false, 1, 8, .nilFunc, [.c (.lit .nilFunc)], false, []⟩),
  (96, ⟨.func #[] #[88] false, 1, 8, .nilFunc, [.c (.lit .nilFunc)], false, []⟩),
  (99, ⟨.struct #[⟨ "Name", 9, 0, false, "", "", 0⟩, ⟨ "Type", 3, 1, false, "", "", 16⟩], 2, 24, .agg #[.string ⟨#[]⟩, .int .i64 0], [.str [], .int .i64 0], false, []⟩),
  (100, ⟨.func #[] #[99] false, 1, 8, .nilFunc, [.c (.lit .nilFunc)], false, []⟩),
  (101, ⟨.func #[] #[9] false, 1, 8, .nilFunc, [.c (.lit .nilFunc)], false, []⟩),
  (105, ⟨.struct #[⟨ "Kind", 3, 0, false, "", "", 0⟩, ⟨ "At", 3, 1, false, "", "", 8⟩, ⟨ "Table", 9, 2, false, "", "", 16⟩, ⟨ "Names", 81, 3, false, "", "", 32⟩, ⟨ "E", 23, 4, false, "", "", 56⟩, ⟨ "Q", 24, 5, false, "", "", 80⟩, ⟨ "Where", 23, 6, false, "", "", 104⟩, ⟨ "Body", 41, 7, false, "", "", 128⟩, ⟨ "Else", 41, 8, false, "", "", 152⟩], 9, 176, .agg #[.int .i64 0, .int .i64 0, .string ⟨#[]⟩, .slice none 0 0, .slice none 0 0, .slice none 0 0, .slice none 0 0, .slice none 0 0, .slice none 0 0], [.int .i64 0, .int .i64 0, .str [], .nil 1, .nil 6, .nil 10, .nil 6, .nil 9, .nil 9], false, []⟩),
  (109, ⟨.func #[5] #[4] false, 1, 8, .nilFunc, [.c (.lit .nilFunc)], false, []⟩),
  (110, ⟨.array 6 9, 6, 96, .agg #[.string ⟨#[]⟩, .string ⟨#[]⟩, .string ⟨#[]⟩, .string ⟨#[]⟩, .string ⟨#[]⟩, .string ⟨#[]⟩], [.str [], .str [], .str [], .str [], .str [], .str []], false, []⟩),
  (114, ⟨.pointer 105, 1, 8, .pointer none, [.c (.lit (.pointer none))], false, []⟩),
  (117, ⟨.pointer 120, 1, 8, .pointer none, [.c (.lit (.pointer none))], false, []⟩),
  (118, ⟨.slice 5, 1, 24, .slice none 0 0, [.nil 1], false, []⟩),
  (120, ⟨.struct #[⟨ "addr", 117, 0, false, "", "strings", 0⟩, ⟨ "buf", 118, 1, false, "", "strings", 8⟩], 2, 32, .agg #[.pointer none, .slice none 0 0], [.c (.lit (.pointer none)), .nil 1], false, [(0, 120)]⟩),
  (122, ⟨.interface #[("Error", 101)], 1, 16, .nilIface, [.c (.lit .nilIface)], false, []⟩),
  (125, ⟨.pointer 5, 1, 8, .pointer none, [.c (.lit (.pointer none))], false, []⟩),
  (126, ⟨.unsafePointer, 1, 8, .pointer none, [.c (.lit (.pointer none))], false, []⟩)]
theorem lay_ok : LOk prog lay :=
  lOk_cons (tOk underlying1 (by kernel_rfl) (by kernel_rfl) (by kernel_rfl) (by kernel_rfl) (by kernel_rfl) (by kernel_rfl)) <|
  lOk_cons (tOk underlying3 (by kernel_rfl) (by kernel_rfl) (by kernel_rfl) (by kernel_rfl) (by kernel_rfl) (by kernel_rfl)) <|
  lOk_cons (tOk underlying4 (by kernel_rfl) (by kernel_rfl) (by kernel_rfl) (by kernel_rfl) (by kernel_rfl) (by kernel_rfl)) <|
  lOk_cons (tOk underlying5 (by kernel_rfl) (by kernel_rfl) (by kernel_rfl) (by kernel_rfl) (by kernel_rfl) (by kernel_rfl)) <|
  lOk_cons (tOk underlying9 (by kernel_rfl) (by kernel_rfl) (by kernel_rfl) (by kernel_rfl) (by kernel_rfl) (by kernel_rfl)) <|
  lOk_cons (tOk underlying22 (by kernel_rfl) (by kernel_rfl) (by kernel_rfl) (by kernel_rfl) (by kernel_rfl) (by kernel_rfl)) <|
  lOk_cons (tOk underlying23 (by kernel_rfl) (by kernel_rfl) (by kernel_rfl) (by kernel_rfl) (by kernel_rfl) (by kernel_rfl)) <|
  lOk_cons (tOk underlying24 (by kernel_rfl) (by kernel_rfl) (by kernel_rfl) (by kernel_rfl) (by kernel_rfl) (by kernel_rfl)) <|
  lOk_cons (tOk underlying26 (by kernel_rfl) (by kernel_rfl) (by kernel_rfl) (by kernel_rfl) (by kernel_rfl) (by kernel_rfl)) <|
  lOk_cons (tOk underlying27 (by kernel_rfl) (by kernel_rfl) (by kernel_rfl) (by kernel_rfl) (by kernel_rfl) (by kernel_rfl)) <|
  lOk_cons (tOk underlying31 (by kernel_rfl) (by kernel_rfl) (by kernel_rfl) (by kernel_rfl) (by kernel_rfl) (by kernel_rfl)) <|
  lOk_cons (tOk underlying32 (by kernel_rfl) (by kernel_rfl) (by kernel_rfl) (by kernel_rfl) (by kernel_rfl) (by kernel_rfl)) <|
  lOk_cons (tOk underlying33 (by kernel_rfl) (by kernel_rfl) (by kernel_rfl) (by kernel_rfl) (by kernel_rfl) (by kernel_rfl)) <|
  lOk_cons (tOk underlying34 (by kernel_rfl) (by kernel_rfl) (by kernel_rfl) (by kernel_rfl) (by kernel_rfl) (by kernel_rfl)) <|
  lOk_cons (tOk underlying36 (by kernel_rfl) (by kernel_rfl) (by kernel_rfl) (by kernel_rfl) (by kernel_rfl) (by kernel_rfl)) <|
  lOk_cons (tOk underlying39 (by kernel_rfl) (by kernel_rfl) (by kernel_rfl) (by kernel_rfl) (by kernel_rfl) (by kernel_rfl)) <|
  lOk_cons (tOk underlying40 (by kernel_rfl) (by kernel_rfl) (by kernel_rfl) (by kernel_rfl) (by kernel_rfl) (by kernel_rfl)) <|
  lOk_cons (tOk underlying41 (by kernel_rfl) (by kernel_rfl) (by kernel_rfl) (by kernel_rfl) (by kernel_rfl) (by kernel_rfl)) <|
  lOk_cons (tOk underlying43 (by kernel_rfl) (by kernel_rfl) (by kernel_rfl) (by kernel_rfl) (by kernel_rfl) (by kernel_rfl)) <|
  lOk_cons (tOk underlying47 (by kernel_rfl) (by kernel_rfl) (by kernel_rfl) (by kernel_rfl) (by kernel_rfl) (by kernel_rfl)) <|
  lOk_cons (tOk underlying49 (by kernel_rfl) (by kernel_rfl) (by kernel_rfl) (by kernel_rfl) (by kernel_rfl) (by kernel_rfl)) <|
  lOk_cons (tOk underlying50 (by kernel_rfl) (by kernel_rfl) (by kernel_rfl) (by kernel_rfl) (by kernel_rfl) (by kernel_rfl)) <|
  lOk_cons (tOk underlying51 (by kernel_rfl) (by kernel_rfl) (by kernel_rfl) (by kernel_rfl) (by kernel_rfl) (by kernel_rfl)) <|
  lOk_cons (tOk underlying56 (by kernel_rfl) (by kernel_rfl) (by kernel_rfl) (by kernel_rfl) (by kernel_rfl) (by kernel_rfl)) <|
  lOk_cons (tOk underlying59 (by kernel_rfl) (by kernel_rfl) (by kernel_rfl) (by kernel_rfl) (by kernel_rfl) (by kernel_rfl)) <|
  lOk_cons (tOk underlying60 (by kernel_rfl) (by kernel_rfl) (by kernel_rfl) (by kernel_rfl) (by kernel_rfl) (by kernel_rfl)) <|
  lOk_cons (tOk underlying64 (by kernel_rfl) (by kernel_rfl) (by kernel_rfl) (by kernel_rfl) (by kernel_rfl) (by kernel_rfl)) <|
  lOk_cons (tOk underlying66 (by kernel_rfl) (by kernel_rfl) (by kernel_rfl) (by kernel_rfl) (by kernel_rfl) (by kernel_rfl)) <|
  lOk_cons (tOk underlying73 (by kernel_rfl) (by kernel_rfl) (by kernel_rfl) (by kernel_rfl) (by kernel_rfl) (by kernel_rfl)) <|
  lOk_cons (tOk underlying76 (by kernel_rfl) (by kernel_rfl) (by kernel_rfl) (by kernel_rfl) (by kernel_rfl) (by kernel_rfl)) <|
  lOk_cons (tOk underlying78 (by kernel_rfl) (by kernel_rfl) (by kernel_rfl) (by kernel_rfl) (by kernel_rfl) (by kernel_rfl)) <|
  lOk_cons (tOk underlying81 (by kernel_rfl) (by kernel_rfl) (by kernel_rfl) (by kernel_rfl) (by kernel_rfl) (by kernel_rfl)) <|
  lOk_cons (tOk underlying86 (by kernel_rfl) (by kernel_rfl) (by kernel_rfl) (by kernel_rfl) (by kernel_rfl) (by kernel_rfl)) <|
  lOk_cons (tOk underlying88 (by kernel_rfl) (by kernel_rfl) (by kernel_rfl) (by kernel_rfl) (by kernel_rfl) (by kernel_rfl)) <|
  lOk_cons (tOk underlying92 (by kernel_rfl) (by kernel_rfl) (by kernel_rfl) (by kernel_rfl) (by kernel_rfl) (by kernel_rfl)) <|
  lOk_cons (tOk underlying96 (by kernel_rfl) (by kernel_rfl) (by kernel_rfl) (by kernel_rfl) (by kernel_rfl) (by kernel_rfl)) <|
  lOk_cons (tOk underlying99 (by kernel_rfl) (by kernel_rfl) (by kernel_rfl) (by kernel_rfl) (by kernel_rfl) (by kernel_rfl)) <|
  lOk_cons (tOk underlying100 (by kernel_rfl) (by kernel_rfl) (by kernel_rfl) (by kernel_rfl) (by kernel_rfl) (by kernel_rfl)) <|
  lOk_cons (tOk underlying101 (by kernel_rfl) (by kernel_rfl) (by kernel_rfl) (by kernel_rfl) (by kernel_rfl) (by kernel_rfl)) <|
  lOk_cons (tOk underlying105 (by kernel_rfl) (by kernel_rfl) (by kernel_rfl) (by kernel_rfl) (by kernel_rfl) (by kernel_rfl)) <|
  lOk_cons (tOk underlying109 (by kernel_rfl) (by kernel_rfl) (by kernel_rfl) (by kernel_rfl) (by kernel_rfl) (by kernel_rfl)) <|
  lOk_cons (tOk underlying110 (by kernel_rfl) (by kernel_rfl) (by kernel_rfl) (by kernel_rfl) (by kernel_rfl) (by kernel_rfl)) <|
  lOk_cons (tOk underlying114 (by kernel_rfl) (by kernel_rfl) (by kernel_rfl) (by kernel_rfl) (by kernel_rfl) (by kernel_rfl)) <|
  lOk_cons (tOk underlying117 (by kernel_rfl) (by kernel_rfl) (by kernel_rfl) (by kernel_rfl) (by kernel_rfl) (by kernel_rfl)) <|
  lOk_cons (tOk underlying118 (by kernel_rfl) (by kernel_rfl) (by kernel_rfl) (by kernel_rfl) (by kernel_rfl) (by kernel_rfl)) <|
  lOk_cons (tOk underlying120 (by kernel_rfl) (by kernel_rfl) (by kernel_rfl) (by kernel_rfl) (by kernel_rfl) (by kernel_rfl)) <|
  lOk_cons (tOk underlying122 (by kernel_rfl) (by kernel_rfl) (by kernel_rfl) (by kernel_rfl) (by kernel_rfl) (by kernel_rfl)) <|
  lOk_cons (tOk underlying125 (by kernel_rfl) (by kernel_rfl) (by kernel_rfl) (by kernel_rfl) (by kernel_rfl) (by kernel_rfl)) <|
  lOk_cons (tOk underlying126 (by kernel_rfl) (by kernel_rfl) (by kernel_rfl) (by kernel_rfl) (by kernel_rfl) (by kernel_rfl)) <|
  lOk_nil
theorem ext92 (s : Str) (c : UInt8) : Has prog 92 [.str s, .int .u8 (c.toNat : Int)] [] [] (.int .i64 (idxByte s c)) := has_indexByteString func92 (by kernel_rfl) (by kernel_rfl) (by kernel_rfl) (by kernel_rfl) s c
theorem ext96 (x : V) (objs : List O) : Has prog 96 [x] objs objs x := has_same func96 (by kernel_rfl) (by kernel_rfl) (by kernel_rfl) (by kernel_rfl) x objs
theorem mix : prog.follows .mixedOrders = true := by kernel_rfl
noncomputable def cl {f : FuncId} {args : List V} {objs objs' : List O} {r : V} (is : List Nat) (_ : Has prog f args objs objs' r) (ks : List Nat := []) : Orc := .call is objs' r ks
theorem ent {f : FuncId} {fn : Func} {c : Code} {args : List V} {objs : List O} {Q : List O → V → Prop} (hfn : prog.funcs[f]? = some fn) (hb : fn.body = some c) (hname : (fn.name == "runtime.NumGoroutine") = false) (hsz : Nat.ble args.length fn.ntmps = true)
    (h : ∀ cx, AK prog cx [.code c] (startSt args objs fn.ntmps) (Fin lay fn.results.toList objs.length Q)) : HC prog f args objs Q := hc_fin lay_ok hfn hb hname (Nat.le_of_ble_eq_true hsz) fun cx => (h cx).aw
theorem tt {cx : Cx} {ks ks2 : List Item} {st st2 : St} {Q : Exit → St → Prop} (n : Nat) (os : List (Nat × PO)) (cs : List Co) (live : List Nat) (m : List (Nat × Nat)) (next : Nat) (l : List Pf) (h : AK prog cx ks2 st2 Q)
    (hx : pathA (Has prog) lay n ks st os cs live m next = some (ks2, st2, ptys l) := by kernel_rfl) : AK prog cx ks st Q := ak_to lay_ok mix n os cs live m next ks2 st2 (ptys l) hx (ptys_ok l) h
theorem rr {cx : Cx} {ks : List Item} {st : St} {rs : List ResultVar} {k : Nat} {objs : List O} {v : V} (n : Nat) (os : List (Nat × PO)) (cs : List Co) (m : List (Nat × Nat)) (nk : Nat) (l : List Pf)
    (hx : pathR (Has prog) lay rs n ks st os cs m nk true = some (objs, v, ptys l) := by kernel_rfl) (hk : Nat.ble k nk = true := by rfl) : AK prog cx ks st (Fin lay rs k fun o u => o = objs ∧ u = v) := ak_ret lay_ok mix n os cs m nk true objs v (ptys l) hx (ptys_ok l) (Nat.le_of_ble_eq_true hk) ⟨rfl, rfl⟩
end Go.Syn
