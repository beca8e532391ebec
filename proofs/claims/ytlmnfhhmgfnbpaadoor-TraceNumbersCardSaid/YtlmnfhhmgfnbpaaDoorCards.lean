/-
  DERIVED. GIVEN WITH THE SEED: THE CARDS: each row of YtlmnfhhmgfnbpaaDoorRows.lean that lists a variable, with what it lists TIED to the program's text (the seventh form; the later family's looks); each row that meets fmt, with fmt's text TOLD by the authors' own Lean function (tested against real Go, not proved from fmt's source: count such statements apart). THE CARD IS WHAT COUNTS. Prove the row's statement (the work); the ties are given (YtlmnfhhmgfnbpaaDoorTie.lean); close each card by the builder's one call (the guide's Derived/Test/ToyasCard.lean, 'card_holds'). Laid BY PROGRAM, IN A SANDBOX (cutbox-door.mjs). By AI agents, Wed Nov 11 2026. No macro, syntax, notation, axiom, sorry.
-/
import Derived.Test.YtlmnfhhmgfnbpaaDoorRows
import GoSem.ClaimSeven
namespace Go.Proofs.YtlmnfhhmgfnbpaaDoor
namespace Rows

/-- THE TIED CARD OF 'cortadolaw45.TraceTells'. -/
def traceTellsCard : Claim7 := { stood := { row := traceTellsRow, standIns := [], harness := (true, "974c5c0124016d7dbe8327be3fc332c5e9ee92867cf2e5f5bcaff0ad3316aeb8"), looks := true }, kinds := [], alts := [], laidByText := true, laidKinds := [.data, .data, .data, .data], laidTests := true, laidLooks := .later }
def TraceTellsCardSaid : Prop := Claim7.holds Tryd.pinned (.plain (OpenSpec.ofChange traceTellsSpec)) traceTellsCard

/-- THE TIED CARD OF 'cortadolaw45.TraceNumbers'. -/
def traceNumbersCard : Claim7 := { stood := { row := traceNumbersRow, standIns := [], harness := (true, "974c5c0124016d7dbe8327be3fc332c5e9ee92867cf2e5f5bcaff0ad3316aeb8"), looks := true }, kinds := [], alts := [], laidByText := true, laidKinds := [.data, .data, .data, .data, .sentinel, .sentinel], laidTests := true, laidLooks := .later }
def TraceNumbersCardSaid : Prop := Claim7.holds Tryd.pinned (.plain (OpenSpec.ofChange traceNumbersSpec)) traceNumbersCard

/-- THE TIED CARD OF 'cortadolaw46.ShellParses'. -/
def shellParsesCard : Claim7 := { stood := { row := shellParsesRow, standIns := [], harness := (true, "974c5c0124016d7dbe8327be3fc332c5e9ee92867cf2e5f5bcaff0ad3316aeb8"), looks := true }, kinds := [], alts := [], laidByText := true, laidKinds := [.data, .data, .data, .data, .data, .sentinel, .sentinel, .pinned], laidTests := true, laidLooks := .later }
def ShellParsesCardSaid : Prop := Claim7.holds Tryd.pinned (.plain (OpenSpec.ofChange shellParsesSpec)) shellParsesCard

/-- THE TIED CARD OF 'cortadolaw46.ShellSkips'. -/
def shellSkipsCard : Claim7 := { stood := { row := shellSkipsRow, standIns := [], harness := (true, "974c5c0124016d7dbe8327be3fc332c5e9ee92867cf2e5f5bcaff0ad3316aeb8"), looks := true }, kinds := [], alts := [], laidByText := true, laidKinds := [.data, .data, .data, .data, .data, .sentinel, .sentinel, .pinned], laidTests := true, laidLooks := .later }
def ShellSkipsCardSaid : Prop := Claim7.holds Tryd.pinned (.plain (OpenSpec.ofChange shellSkipsSpec)) shellSkipsCard

/-- THE TIED CARD OF 'cortadolaw45.TraceBack'. -/
def traceBackCard : Claim7 := { stood := { row := traceBackRow, standIns := [], harness := (true, "974c5c0124016d7dbe8327be3fc332c5e9ee92867cf2e5f5bcaff0ad3316aeb8"), looks := true }, kinds := [], alts := [], laidByText := true, laidKinds := [.data, .data, .data, .data, .data, .sentinel, .sentinel, .pinned], laidTests := true, laidLooks := .later }
def TraceBackCardSaid : Prop := Claim7.holds Tryd.pinned (.plain (OpenSpec.ofChange traceBackSpec)) traceBackCard

/-- THE SECOND FORM's CARD OF 'cortadolaw45.TraceTells'. -/
def traceTellsUptoCard : Claim7 := { stood := { row := traceTellsUptoRow, standIns := [], harness := (true, "974c5c0124016d7dbe8327be3fc332c5e9ee92867cf2e5f5bcaff0ad3316aeb8"), looks := true }, kinds := [], alts := [], laidByText := true, laidKinds := [.data, .data, .data, .data], laidTests := true, laidLooks := .later }
def TraceTellsUptoCardSaid : Prop := Claim7.holds Tryd.pinned (.plain (OpenSpec.upto traceTellsSpec)) traceTellsUptoCard

/-- THE SECOND FORM's CARD OF 'cortadolaw45.TraceNumbers'. -/
def traceNumbersUptoCard : Claim7 := { stood := { row := traceNumbersUptoRow, standIns := [], harness := (true, "974c5c0124016d7dbe8327be3fc332c5e9ee92867cf2e5f5bcaff0ad3316aeb8"), looks := true }, kinds := [], alts := [], laidByText := true, laidKinds := [.data, .data, .data, .data, .sentinel, .sentinel], laidTests := true, laidLooks := .later }
def TraceNumbersUptoCardSaid : Prop := Claim7.holds Tryd.pinned (.plain (OpenSpec.upto traceNumbersSpec)) traceNumbersUptoCard

/-- THE SECOND FORM's CARD OF 'cortadolaw46.ShellParses'. -/
def shellParsesUptoCard : Claim7 := { stood := { row := shellParsesUptoRow, standIns := [], harness := (true, "974c5c0124016d7dbe8327be3fc332c5e9ee92867cf2e5f5bcaff0ad3316aeb8"), looks := true }, kinds := [], alts := [], laidByText := true, laidKinds := [.data, .data, .data, .data, .data, .sentinel, .sentinel, .pinned], laidTests := true, laidLooks := .later }
def ShellParsesUptoCardSaid : Prop := Claim7.holds Tryd.pinned (.plain (OpenSpec.upto shellParsesSpec)) shellParsesUptoCard

/-- THE SECOND FORM's CARD OF 'cortadolaw46.ShellSkips'. -/
def shellSkipsUptoCard : Claim7 := { stood := { row := shellSkipsUptoRow, standIns := [], harness := (true, "974c5c0124016d7dbe8327be3fc332c5e9ee92867cf2e5f5bcaff0ad3316aeb8"), looks := true }, kinds := [], alts := [], laidByText := true, laidKinds := [.data, .data, .data, .data, .data, .sentinel, .sentinel, .pinned], laidTests := true, laidLooks := .later }
def ShellSkipsUptoCardSaid : Prop := Claim7.holds Tryd.pinned (.plain (OpenSpec.upto shellSkipsSpec)) shellSkipsUptoCard

/-- THE SECOND FORM's CARD OF 'cortadolaw45.TraceBack'. -/
def traceBackUptoCard : Claim7 := { stood := { row := traceBackUptoRow, standIns := [], harness := (true, "974c5c0124016d7dbe8327be3fc332c5e9ee92867cf2e5f5bcaff0ad3316aeb8"), looks := true }, kinds := [], alts := [], laidByText := true, laidKinds := [.data, .data, .data, .data, .data, .sentinel, .sentinel, .pinned], laidTests := true, laidLooks := .later }
def TraceBackUptoCardSaid : Prop := Claim7.holds Tryd.pinned (.plain (OpenSpec.upto traceBackSpec)) traceBackUptoCard
end Rows
end Go.Proofs.YtlmnfhhmgfnbpaaDoor
