/-
  DERIVED. GIVEN WITH THE SEED: THE CARDS: each row of YtiolpknfdabijaaDoorRows.lean that lists a variable, with what it lists TIED to the program's text (the seventh form; the later family's looks); each row that meets fmt, with fmt's text TOLD by the authors' own Lean function (tested against real Go, not proved from fmt's source: count such statements apart). THE CARD IS WHAT COUNTS. Prove the row's statement (the work); the ties are given (YtiolpknfdabijaaDoorTie.lean); close each card by the builder's one call (the guide's Derived/Test/ToyasCard.lean, 'card_holds'). Laid BY PROGRAM, IN A SANDBOX (cutbox-door.mjs). By AI agents, Wed Nov 11 2026. No macro, syntax, notation, axiom, sorry.
-/
import Derived.Test.YtiolpknfdabijaaDoorRows
import GoSem.ClaimSeven
namespace Go.Proofs.YtiolpknfdabijaaDoor
namespace Rows

/-- THE TIED CARD OF 'quiverlaw10.MaskBack'. -/
def maskBackCard : Claim7 := { stood := { row := maskBackRow, standIns := [], harness := (true, "8c0035fe2df916c60a918cbee0d5627e298ed06e41e9f1732d50917a1fe1d421"), looks := false }, kinds := [], alts := [], laidByText := true, laidKinds := [.data], laidTests := true, laidLooks := .later }
def MaskBackCardSaid : Prop := Claim7.holds Tryd.pinned (.plain (OpenSpec.ofChange maskBackSpec)) maskBackCard

/-- THE SECOND FORM's CARD OF 'quiverlaw10.MaskBack'. -/
def maskBackUptoCard : Claim7 := { stood := { row := maskBackUptoRow, standIns := [], harness := (true, "8c0035fe2df916c60a918cbee0d5627e298ed06e41e9f1732d50917a1fe1d421"), looks := false }, kinds := [], alts := [], laidByText := true, laidKinds := [.data], laidTests := true, laidLooks := .later }
def MaskBackUptoCardSaid : Prop := Claim7.holds Tryd.pinned (.plain (OpenSpec.upto maskBackSpec)) maskBackUptoCard
end Rows
end Go.Proofs.YtiolpknfdabijaaDoor
