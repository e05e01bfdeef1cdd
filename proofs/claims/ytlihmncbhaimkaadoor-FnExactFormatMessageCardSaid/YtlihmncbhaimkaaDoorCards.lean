/-
  DERIVED. GIVEN WITH THE SEED: THE CARDS: each row of YtlihmncbhaimkaaDoorRows.lean that lists a variable, with what it lists TIED to the program's text (the seventh form; the later family's looks); each row that meets fmt, with fmt's text TOLD by the authors' own Lean function (tested against real Go, not proved from fmt's source: count such statements apart). THE CARD IS WHAT COUNTS. Prove the row's statement (the work); the ties are given (YtlihmncbhaimkaaDoorTie.lean); close each card by the builder's one call (the guide's Derived/Test/ToyasCard.lean, 'card_holds'). Laid BY PROGRAM, IN A SANDBOX (cutbox-door.mjs). By AI agents, Wed Nov 11 2026. No macro, syntax, notation, axiom, sorry.
-/
import Derived.Test.YtlihmncbhaimkaaDoorRows
import GoSem.ClaimSeven
namespace Go.Proofs.YtlihmncbhaimkaaDoor
namespace Rows

/-- THE TIED CARD OF 'laws.FnExactFormatTag'. -/
def fnExactFormatTagCard : Claim7 := { stood := { row := fnExactFormatTagRow, standIns := [], harness := (true, "323df1d0363a3dd1012e7b633d112f43f1b3489000bb17c02bbe6a9421778ade"), looks := false }, kinds := [], alts := [], laidByText := true, laidKinds := [.data, .data, .data], laidTests := true, laidLooks := .later }
def FnExactFormatTagCardSaid : Prop := Claim7.holds Tryd.pinned (.plain (OpenSpec.ofChange fnExactFormatTagSpec)) fnExactFormatTagCard

/-- THE TIED CARD OF 'laws.FnExactFormatTurns'. -/
def fnExactFormatTurnsCard : Claim7 := { stood := { row := fnExactFormatTurnsRow, standIns := [], harness := (true, "323df1d0363a3dd1012e7b633d112f43f1b3489000bb17c02bbe6a9421778ade"), looks := false }, kinds := [], alts := [], laidByText := true, laidKinds := [.data, .data, .data], laidTests := true, laidLooks := .later }
def FnExactFormatTurnsCardSaid : Prop := Claim7.holds Tryd.pinned (.plain (OpenSpec.ofChange fnExactFormatTurnsSpec)) fnExactFormatTurnsCard

/-- THE TIED CARD OF 'laws.FnExactFormatMessage'. -/
def fnExactFormatMessageCard : Claim7 := { stood := { row := fnExactFormatMessageRow, standIns := [], harness := (true, "323df1d0363a3dd1012e7b633d112f43f1b3489000bb17c02bbe6a9421778ade"), looks := false }, kinds := [], alts := [], laidByText := true, laidKinds := [.data, .data, .data, .data], laidTests := true, laidLooks := .later }
def FnExactFormatMessageCardSaid : Prop := Claim7.holds Tryd.pinned (.plain (OpenSpec.ofChange fnExactFormatMessageSpec)) fnExactFormatMessageCard

/-- THE TIED CARD OF 'laws.FnExactFormatEntity'. -/
def fnExactFormatEntityCard : Claim7 := { stood := { row := fnExactFormatEntityRow, standIns := [], harness := (true, "323df1d0363a3dd1012e7b633d112f43f1b3489000bb17c02bbe6a9421778ade"), looks := false }, kinds := [], alts := [], laidByText := true, laidKinds := [.data, .data, .data], laidTests := true, laidLooks := .later }
def FnExactFormatEntityCardSaid : Prop := Claim7.holds Tryd.pinned (.plain (OpenSpec.ofChange fnExactFormatEntitySpec)) fnExactFormatEntityCard

/-- THE SECOND FORM's CARD OF 'laws.FnExactFormatTag'. -/
def fnExactFormatTagUptoCard : Claim7 := { stood := { row := fnExactFormatTagUptoRow, standIns := [], harness := (true, "323df1d0363a3dd1012e7b633d112f43f1b3489000bb17c02bbe6a9421778ade"), looks := false }, kinds := [], alts := [], laidByText := true, laidKinds := [.data, .data, .data], laidTests := true, laidLooks := .later }
def FnExactFormatTagUptoCardSaid : Prop := Claim7.holds Tryd.pinned (.plain (OpenSpec.upto fnExactFormatTagSpec)) fnExactFormatTagUptoCard

/-- THE SECOND FORM's CARD OF 'laws.FnExactFormatTurns'. -/
def fnExactFormatTurnsUptoCard : Claim7 := { stood := { row := fnExactFormatTurnsUptoRow, standIns := [], harness := (true, "323df1d0363a3dd1012e7b633d112f43f1b3489000bb17c02bbe6a9421778ade"), looks := false }, kinds := [], alts := [], laidByText := true, laidKinds := [.data, .data, .data], laidTests := true, laidLooks := .later }
def FnExactFormatTurnsUptoCardSaid : Prop := Claim7.holds Tryd.pinned (.plain (OpenSpec.upto fnExactFormatTurnsSpec)) fnExactFormatTurnsUptoCard

/-- THE SECOND FORM's CARD OF 'laws.FnExactFormatMessage'. -/
def fnExactFormatMessageUptoCard : Claim7 := { stood := { row := fnExactFormatMessageUptoRow, standIns := [], harness := (true, "323df1d0363a3dd1012e7b633d112f43f1b3489000bb17c02bbe6a9421778ade"), looks := false }, kinds := [], alts := [], laidByText := true, laidKinds := [.data, .data, .data, .data], laidTests := true, laidLooks := .later }
def FnExactFormatMessageUptoCardSaid : Prop := Claim7.holds Tryd.pinned (.plain (OpenSpec.upto fnExactFormatMessageSpec)) fnExactFormatMessageUptoCard

/-- THE SECOND FORM's CARD OF 'laws.FnExactFormatEntity'. -/
def fnExactFormatEntityUptoCard : Claim7 := { stood := { row := fnExactFormatEntityUptoRow, standIns := [], harness := (true, "323df1d0363a3dd1012e7b633d112f43f1b3489000bb17c02bbe6a9421778ade"), looks := false }, kinds := [], alts := [], laidByText := true, laidKinds := [.data, .data, .data], laidTests := true, laidLooks := .later }
def FnExactFormatEntityUptoCardSaid : Prop := Claim7.holds Tryd.pinned (.plain (OpenSpec.upto fnExactFormatEntitySpec)) fnExactFormatEntityUptoCard
end Rows
end Go.Proofs.YtlihmncbhaimkaaDoor
