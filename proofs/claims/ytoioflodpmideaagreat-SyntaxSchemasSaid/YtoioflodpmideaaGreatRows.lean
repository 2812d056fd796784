/-
  No cell of these rows narrows 'for every input' (looked for: loops, veiled, ifaces, maps, wideKeys, modest, calm, conditions, laid).
  DERIVED. THE GIVEN ROWS OF THIS SEAT. 4 by the template 'for every input the law returns true; each argument reads behind the call as it read before'; 0 by the template 'total and deterministic' (their statements: YtoioflodpmideaaGreatTotals.lean).
  GIVEN WITH THE SEED: the statements are not yours to turn. If you find one false, say at which input.
  Laid BY PROGRAM, IN A SANDBOX (cutbox-rows.mjs): the forced cells as the released guide's own fill.sh prints them over the translation ef0bd23020a5c980… (all of the seat's roots in one cut). By AI agents, Wed Nov 11 2026. No macro, syntax, notation, axiom, sorry.
-/
import Derived.Test.YtoioflodpmideaaGreatChecked
import GoSem.Claim
import GoSem.ClaimJoined
import GoSem.ClaimMapViews
import Derived.JoinedTies
import Derived.KernelRfl
namespace Go.Proofs.YtoioflodpmideaaGreat
/- THE CELL 'sum', in the pinned program and in every row, IS THE sha256 OF THE DUMP (.gsa) THAT YtoioflodpmideaaGreatProg.lean LOADS. Nothing in Lean hashes anything: it is a label: what it is worth is what the hold of that sum in a sandbox is worth. -/
noncomputable def Tryz.pinned : Pinned := { name := "ytoioflodpmideaagreat", sum := "ef0bd23020a5c9804428c018370ecb177ba013a5e6f0795dc2d41a96c1a32b08", checked := Tryz.checked }
namespace Rows
def none {H : Type} : Left H := { results := [], args := [] }

/-- 'cordonlaw06.SyntaxExprs': WHATEVER THE INPUT: true; the input reads as it did. -/
def syntaxExprsSpec : ChangeSpec := { name := "syntaxExprs", fn := fun _ => fun
  | [d] => { results := [.lit (.bool true)], args := [d] }
  | _ => none }
def syntaxExprsRow : OpenClaim := { program := "ytoioflodpmideaagreat", sum := "ef0bd23020a5c9804428c018370ecb177ba013a5e6f0795dc2d41a96c1a32b08", func := "cordon/cordonlaw06.SyntaxExprs", spec := "syntaxExprs", inPlace := ["internal/bytealg.IndexByteString", "internal/abi.NoEscape"], unfollowed := true, recurses := true, apart := false }
def SyntaxExprsSaid : Prop := syntaxExprsRow.holds Tryz.pinned (OpenSpec.ofChange syntaxExprsSpec)

/-- ITS FALSE NEIGHBOUR: 'it returns false'. Refute it at one input. -/
def syntaxExprsWrong : ChangeSpec := { name := "syntaxExprs", fn := fun _ => fun
  | [d] => { results := [.lit (.bool false)], args := [d] }
  | _ => none }
def SyntaxExprsWrongFalsely : Prop := syntaxExprsRow.holds Tryz.pinned (OpenSpec.ofChange syntaxExprsWrong)

/-- 'cordonlaw06.SyntaxQueries': WHATEVER THE INPUT: true; the input reads as it did. -/
def syntaxQueriesSpec : ChangeSpec := { name := "syntaxQueries", fn := fun _ => fun
  | [d] => { results := [.lit (.bool true)], args := [d] }
  | _ => none }
def syntaxQueriesRow : OpenClaim := { program := "ytoioflodpmideaagreat", sum := "ef0bd23020a5c9804428c018370ecb177ba013a5e6f0795dc2d41a96c1a32b08", func := "cordon/cordonlaw06.SyntaxQueries", spec := "syntaxQueries", inPlace := ["internal/bytealg.IndexByteString", "internal/abi.NoEscape"], unfollowed := true, recurses := true, apart := false }
def SyntaxQueriesSaid : Prop := syntaxQueriesRow.holds Tryz.pinned (OpenSpec.ofChange syntaxQueriesSpec)

/-- ITS FALSE NEIGHBOUR: 'it returns false'. Refute it at one input. -/
def syntaxQueriesWrong : ChangeSpec := { name := "syntaxQueries", fn := fun _ => fun
  | [d] => { results := [.lit (.bool false)], args := [d] }
  | _ => none }
def SyntaxQueriesWrongFalsely : Prop := syntaxQueriesRow.holds Tryz.pinned (OpenSpec.ofChange syntaxQueriesWrong)

/-- 'cordonlaw06.SyntaxJoins': WHATEVER THE INPUT: true; the input reads as it did. -/
def syntaxJoinsSpec : ChangeSpec := { name := "syntaxJoins", fn := fun _ => fun
  | [d1, d2] => { results := [.lit (.bool true)], args := [d1, d2] }
  | _ => none }
def syntaxJoinsRow : OpenClaim := { program := "ytoioflodpmideaagreat", sum := "ef0bd23020a5c9804428c018370ecb177ba013a5e6f0795dc2d41a96c1a32b08", func := "cordon/cordonlaw06.SyntaxJoins", spec := "syntaxJoins", inPlace := ["internal/bytealg.IndexByteString", "internal/abi.NoEscape"], unfollowed := true, recurses := true, apart := false }
def SyntaxJoinsSaid : Prop := syntaxJoinsRow.holds Tryz.pinned (OpenSpec.ofChange syntaxJoinsSpec)

/-- ITS FALSE NEIGHBOUR: 'it returns false'. Refute it at one input. -/
def syntaxJoinsWrong : ChangeSpec := { name := "syntaxJoins", fn := fun _ => fun
  | [d1, d2] => { results := [.lit (.bool false)], args := [d1, d2] }
  | _ => none }
def SyntaxJoinsWrongFalsely : Prop := syntaxJoinsRow.holds Tryz.pinned (OpenSpec.ofChange syntaxJoinsWrong)

/-- 'cordonlaw06.SyntaxSchemas': WHATEVER THE INPUT: true; the input reads as it did. -/
def syntaxSchemasSpec : ChangeSpec := { name := "syntaxSchemas", fn := fun _ => fun
  | [d] => { results := [.lit (.bool true)], args := [d] }
  | _ => none }
def syntaxSchemasRow : OpenClaim := { program := "ytoioflodpmideaagreat", sum := "ef0bd23020a5c9804428c018370ecb177ba013a5e6f0795dc2d41a96c1a32b08", func := "cordon/cordonlaw06.SyntaxSchemas", spec := "syntaxSchemas", inPlace := ["internal/bytealg.IndexByteString", "internal/abi.NoEscape"], unfollowed := true, recurses := true, apart := false }
def SyntaxSchemasSaid : Prop := syntaxSchemasRow.holds Tryz.pinned (OpenSpec.ofChange syntaxSchemasSpec)

/-- ITS FALSE NEIGHBOUR: 'it returns false'. Refute it at one input. -/
def syntaxSchemasWrong : ChangeSpec := { name := "syntaxSchemas", fn := fun _ => fun
  | [d] => { results := [.lit (.bool false)], args := [d] }
  | _ => none }
def SyntaxSchemasWrongFalsely : Prop := syntaxSchemasRow.holds Tryz.pinned (OpenSpec.ofChange syntaxSchemasWrong)

/- THE SECOND FORM. 'bulk': how many values and letters a reading holds, each counted each time it is reached (what is shared counts as often as it is met; a slice's spare places count too). A statement '..UptoSaid' is the law's where the arguments, and the package variables that the reading takes, are together of bulk at most 1048576: NARROWER than '..Said'. Prove '..Said' where nothing that the law and all that it calls make is longer than what came in: it says more and counts as full. Else prove '..UptoSaid'. A law counts once. -/
mutual
def uptoBulk {H : Type} : DataW H → Nat
  | .lit (.string bytes) => bytes.length + 1
  | .lit _ => 1
  | .nil => 1
  | .ptr d => uptoBulk d + 1
  | .slice elems spare => uptoBulkAll elems + uptoBulkAll spare + 1
  | .agg parts => uptoBulkAll parts + 1
  | .iface _ d => uptoBulk d + 1
  | .map entries => uptoBulkEntries entries + 1
  | .held _ => 1
def uptoBulkAll {H : Type} : List (DataW H) → Nat
  | [] => 0
  | d :: r => uptoBulk d + uptoBulkAll r
def uptoBulkEntries {H : Type} : List (Lit × DataW H) → Nat
  | [] => 0
  | x :: r => uptoBulkEntry x + uptoBulkEntries r
def uptoBulkEntry {H : Type} : Lit × DataW H → Nat
  | (.string bytes, d) => bytes.length + uptoBulk d + 1
  | (_, d) => uptoBulk d + 1
 end
def uptoSmall : (H : Type) → List (DataW H) → Bool := fun _ ds => decide (uptoBulkAll ds ≤ 1048576)
def OpenSpec.upto (s : _root_.Go.ChangeSpec) : _root_.Go.OpenSpec := { _root_.Go.OpenSpec.ofChange s with cond := some uptoSmall }

/-- 'cordonlaw06.SyntaxExprs', WHERE WHAT IT READS IS OF BULK AT MOST 1048576: true; the input reads as it did. -/
def syntaxExprsUptoRow : OpenClaim := { program := "ytoioflodpmideaagreat", sum := "ef0bd23020a5c9804428c018370ecb177ba013a5e6f0795dc2d41a96c1a32b08", func := "cordon/cordonlaw06.SyntaxExprs", spec := "syntaxExprs", inPlace := ["internal/bytealg.IndexByteString", "internal/abi.NoEscape"], unfollowed := true, recurses := true, apart := false, narrowed := true }
def SyntaxExprsUptoSaid : Prop := syntaxExprsUptoRow.holds Tryz.pinned (OpenSpec.upto syntaxExprsSpec)

/-- 'cordonlaw06.SyntaxQueries', WHERE WHAT IT READS IS OF BULK AT MOST 1048576: true; the input reads as it did. -/
def syntaxQueriesUptoRow : OpenClaim := { program := "ytoioflodpmideaagreat", sum := "ef0bd23020a5c9804428c018370ecb177ba013a5e6f0795dc2d41a96c1a32b08", func := "cordon/cordonlaw06.SyntaxQueries", spec := "syntaxQueries", inPlace := ["internal/bytealg.IndexByteString", "internal/abi.NoEscape"], unfollowed := true, recurses := true, apart := false, narrowed := true }
def SyntaxQueriesUptoSaid : Prop := syntaxQueriesUptoRow.holds Tryz.pinned (OpenSpec.upto syntaxQueriesSpec)

/-- 'cordonlaw06.SyntaxJoins', WHERE WHAT IT READS IS OF BULK AT MOST 1048576: true; the input reads as it did. -/
def syntaxJoinsUptoRow : OpenClaim := { program := "ytoioflodpmideaagreat", sum := "ef0bd23020a5c9804428c018370ecb177ba013a5e6f0795dc2d41a96c1a32b08", func := "cordon/cordonlaw06.SyntaxJoins", spec := "syntaxJoins", inPlace := ["internal/bytealg.IndexByteString", "internal/abi.NoEscape"], unfollowed := true, recurses := true, apart := false, narrowed := true }
def SyntaxJoinsUptoSaid : Prop := syntaxJoinsUptoRow.holds Tryz.pinned (OpenSpec.upto syntaxJoinsSpec)

/-- 'cordonlaw06.SyntaxSchemas', WHERE WHAT IT READS IS OF BULK AT MOST 1048576: true; the input reads as it did. -/
def syntaxSchemasUptoRow : OpenClaim := { program := "ytoioflodpmideaagreat", sum := "ef0bd23020a5c9804428c018370ecb177ba013a5e6f0795dc2d41a96c1a32b08", func := "cordon/cordonlaw06.SyntaxSchemas", spec := "syntaxSchemas", inPlace := ["internal/bytealg.IndexByteString", "internal/abi.NoEscape"], unfollowed := true, recurses := true, apart := false, narrowed := true }
def SyntaxSchemasUptoSaid : Prop := syntaxSchemasUptoRow.holds Tryz.pinned (OpenSpec.upto syntaxSchemasSpec)

end Rows
end Go.Proofs.YtoioflodpmideaaGreat
