/-
  No cell of these rows narrows 'for every input' (looked for: loops, veiled, ifaces, maps, wideKeys, modest, calm, conditions, laid).
  DERIVED. THE GIVEN ROWS OF THIS SEAT. 4 by the template 'for every input the law returns true; each argument reads behind the call as it read before'; 0 by the template 'total and deterministic' (their statements: YtiolpknfdabijaaTotals.lean).
  GIVEN WITH THE SEED: the statements are not yours to turn. If you find one false, say at which input.
  Laid BY PROGRAM, IN A SANDBOX (cutbox-rows.mjs): the forced cells as the released guide's own fill.sh prints them over the translation 25dac429e6faa5ce… (all of the seat's roots in one cut). By AI agents, Wed Nov 11 2026. No macro, syntax, notation, axiom, sorry.
-/
import Derived.Test.YtiolpknfdabijaaChecked
import GoSem.Claim
import GoSem.ClaimJoined
import GoSem.ClaimMapViews
import Derived.JoinedTies
import Derived.KernelRfl
namespace Go.Proofs.Ytiolpknfdabijaa
/- THE CELL 'sum', in the pinned program and in every row, IS THE sha256 OF THE DUMP (.gsa) THAT YtiolpknfdabijaaProg.lean LOADS. Nothing in Lean hashes anything: it is a label: what it is worth is what the hold of that sum in a sandbox is worth. -/
noncomputable def Try.pinned : Pinned := { name := "ytiolpknfdabijaa", sum := "25dac429e6faa5ced0ce64eb1eb2e50b0709b10c0e3740813953dc1124460dec", checked := Try.checked }
namespace Rows
def none {H : Type} : Left H := { results := [], args := [] }

/-- 'quiverlaw13.ListsUnions': WHATEVER THE INPUT: true; the input reads as it did. -/
def listsUnionsSpec : ChangeSpec := { name := "listsUnions", fn := fun _ => fun
  | [d1, d2, d3] => { results := [.lit (.bool true)], args := [d1, d2, d3] }
  | _ => none }
def listsUnionsRow : OpenClaim := { program := "ytiolpknfdabijaa", sum := "25dac429e6faa5ced0ce64eb1eb2e50b0709b10c0e3740813953dc1124460dec", func := "quiver/quiverlaw13.ListsUnions", spec := "listsUnions", unfollowed := true, recurses := true, apart := false }
def ListsUnionsSaid : Prop := listsUnionsRow.holds Try.pinned (OpenSpec.ofChange listsUnionsSpec)

/-- ITS FALSE NEIGHBOUR: 'it returns false'. Refute it at one input. -/
def listsUnionsWrong : ChangeSpec := { name := "listsUnions", fn := fun _ => fun
  | [d1, d2, d3] => { results := [.lit (.bool false)], args := [d1, d2, d3] }
  | _ => none }
def ListsUnionsWrongFalsely : Prop := listsUnionsRow.holds Try.pinned (OpenSpec.ofChange listsUnionsWrong)

/-- 'quiverlaw13.ListsParts': WHATEVER THE INPUT: true; the input reads as it did. -/
def listsPartsSpec : ChangeSpec := { name := "listsParts", fn := fun _ => fun
  | [d1, d2] => { results := [.lit (.bool true)], args := [d1, d2] }
  | _ => none }
def listsPartsRow : OpenClaim := { program := "ytiolpknfdabijaa", sum := "25dac429e6faa5ced0ce64eb1eb2e50b0709b10c0e3740813953dc1124460dec", func := "quiver/quiverlaw13.ListsParts", spec := "listsParts", unfollowed := true, recurses := true, apart := false }
def ListsPartsSaid : Prop := listsPartsRow.holds Try.pinned (OpenSpec.ofChange listsPartsSpec)

/-- ITS FALSE NEIGHBOUR: 'it returns false'. Refute it at one input. -/
def listsPartsWrong : ChangeSpec := { name := "listsParts", fn := fun _ => fun
  | [d1, d2] => { results := [.lit (.bool false)], args := [d1, d2] }
  | _ => none }
def ListsPartsWrongFalsely : Prop := listsPartsRow.holds Try.pinned (OpenSpec.ofChange listsPartsWrong)

/-- 'quiverlaw13.ListsDoes': WHATEVER THE INPUT: true; the input reads as it did. -/
def listsDoesSpec : ChangeSpec := { name := "listsDoes", fn := fun _ => fun
  | [d1, d2] => { results := [.lit (.bool true)], args := [d1, d2] }
  | _ => none }
def listsDoesRow : OpenClaim := { program := "ytiolpknfdabijaa", sum := "25dac429e6faa5ced0ce64eb1eb2e50b0709b10c0e3740813953dc1124460dec", func := "quiver/quiverlaw13.ListsDoes", spec := "listsDoes", unfollowed := true, recurses := true, apart := false }
def ListsDoesSaid : Prop := listsDoesRow.holds Try.pinned (OpenSpec.ofChange listsDoesSpec)

/-- ITS FALSE NEIGHBOUR: 'it returns false'. Refute it at one input. -/
def listsDoesWrong : ChangeSpec := { name := "listsDoes", fn := fun _ => fun
  | [d1, d2] => { results := [.lit (.bool false)], args := [d1, d2] }
  | _ => none }
def ListsDoesWrongFalsely : Prop := listsDoesRow.holds Try.pinned (OpenSpec.ofChange listsDoesWrong)

/-- 'quiverlaw13.ListsAgree': WHATEVER THE INPUT: true; the input reads as it did. -/
def listsAgreeSpec : ChangeSpec := { name := "listsAgree", fn := fun _ => fun
  | [d1, d2, d3] => { results := [.lit (.bool true)], args := [d1, d2, d3] }
  | _ => none }
def listsAgreeRow : OpenClaim := { program := "ytiolpknfdabijaa", sum := "25dac429e6faa5ced0ce64eb1eb2e50b0709b10c0e3740813953dc1124460dec", func := "quiver/quiverlaw13.ListsAgree", spec := "listsAgree", unfollowed := true, recurses := true, apart := false }
def ListsAgreeSaid : Prop := listsAgreeRow.holds Try.pinned (OpenSpec.ofChange listsAgreeSpec)

/-- ITS FALSE NEIGHBOUR: 'it returns false'. Refute it at one input. -/
def listsAgreeWrong : ChangeSpec := { name := "listsAgree", fn := fun _ => fun
  | [d1, d2, d3] => { results := [.lit (.bool false)], args := [d1, d2, d3] }
  | _ => none }
def ListsAgreeWrongFalsely : Prop := listsAgreeRow.holds Try.pinned (OpenSpec.ofChange listsAgreeWrong)

/- THE SECOND FORM. 'bulk': how many values and letters a reading holds, each counted each time it is reached (what is shared counts as often as it is met; a slice's spare places count too). A statement '..UptoSaid' is the law's where the arguments, and the package variables that the reading takes, are together of bulk at most 1048576: NARROWER than '..Said'. Prove '..Said' where nothing that the law and all that it calls make is longer than what came in: it says more and counts as full. Else prove '..UptoSaid'. A law counts once. -/
mutual
def uptoBulk {H : Type} : DataW H → Nat
  | .lit (.string bytes) => bytes.length + 1
  | .lit _ => 1
  | .nil => 1
  | .ptr d => uptoBulk d + 1
  | .slice elems spare => uptoBulkAll elems + uptoBulkAll spare + 1
  | .agg parts => uptoBulkAll parts + 1
  | .iface _ d => uptoBulk d + 1
  | .map entries => uptoBulkEntries entries + 1
  | .held _ => 1
def uptoBulkAll {H : Type} : List (DataW H) → Nat
  | [] => 0
  | d :: r => uptoBulk d + uptoBulkAll r
def uptoBulkEntries {H : Type} : List (Lit × DataW H) → Nat
  | [] => 0
  | x :: r => uptoBulkEntry x + uptoBulkEntries r
def uptoBulkEntry {H : Type} : Lit × DataW H → Nat
  | (.string bytes, d) => bytes.length + uptoBulk d + 1
  | (_, d) => uptoBulk d + 1
 end
def uptoSmall : (H : Type) → List (DataW H) → Bool := fun _ ds => decide (uptoBulkAll ds ≤ 1048576)
def OpenSpec.upto (s : _root_.Go.ChangeSpec) : _root_.Go.OpenSpec := { _root_.Go.OpenSpec.ofChange s with cond := some uptoSmall }

/-- 'quiverlaw13.ListsUnions', WHERE WHAT IT READS IS OF BULK AT MOST 1048576: true; the input reads as it did. -/
def listsUnionsUptoRow : OpenClaim := { program := "ytiolpknfdabijaa", sum := "25dac429e6faa5ced0ce64eb1eb2e50b0709b10c0e3740813953dc1124460dec", func := "quiver/quiverlaw13.ListsUnions", spec := "listsUnions", unfollowed := true, recurses := true, apart := false, narrowed := true }
def ListsUnionsUptoSaid : Prop := listsUnionsUptoRow.holds Try.pinned (OpenSpec.upto listsUnionsSpec)

/-- 'quiverlaw13.ListsParts', WHERE WHAT IT READS IS OF BULK AT MOST 1048576: true; the input reads as it did. -/
def listsPartsUptoRow : OpenClaim := { program := "ytiolpknfdabijaa", sum := "25dac429e6faa5ced0ce64eb1eb2e50b0709b10c0e3740813953dc1124460dec", func := "quiver/quiverlaw13.ListsParts", spec := "listsParts", unfollowed := true, recurses := true, apart := false, narrowed := true }
def ListsPartsUptoSaid : Prop := listsPartsUptoRow.holds Try.pinned (OpenSpec.upto listsPartsSpec)

/-- 'quiverlaw13.ListsDoes', WHERE WHAT IT READS IS OF BULK AT MOST 1048576: true; the input reads as it did. -/
def listsDoesUptoRow : OpenClaim := { program := "ytiolpknfdabijaa", sum := "25dac429e6faa5ced0ce64eb1eb2e50b0709b10c0e3740813953dc1124460dec", func := "quiver/quiverlaw13.ListsDoes", spec := "listsDoes", unfollowed := true, recurses := true, apart := false, narrowed := true }
def ListsDoesUptoSaid : Prop := listsDoesUptoRow.holds Try.pinned (OpenSpec.upto listsDoesSpec)

/-- 'quiverlaw13.ListsAgree', WHERE WHAT IT READS IS OF BULK AT MOST 1048576: true; the input reads as it did. -/
def listsAgreeUptoRow : OpenClaim := { program := "ytiolpknfdabijaa", sum := "25dac429e6faa5ced0ce64eb1eb2e50b0709b10c0e3740813953dc1124460dec", func := "quiver/quiverlaw13.ListsAgree", spec := "listsAgree", unfollowed := true, recurses := true, apart := false, narrowed := true }
def ListsAgreeUptoSaid : Prop := listsAgreeUptoRow.holds Try.pinned (OpenSpec.upto listsAgreeSpec)

end Rows
end Go.Proofs.Ytiolpknfdabijaa
