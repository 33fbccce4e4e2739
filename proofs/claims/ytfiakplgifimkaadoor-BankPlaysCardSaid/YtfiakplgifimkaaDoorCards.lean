/-
  DERIVED. GIVEN WITH THE SEED: THE CARDS: each row of YtfiakplgifimkaaDoorRows.lean that lists a variable, with what it lists TIED to the program's text (the seventh form; the later family's looks); each row that meets fmt, with fmt's text TOLD by the authors' own Lean function (tested against real Go, not proved from fmt's source: count such statements apart). THE CARD IS WHAT COUNTS. Prove the row's statement (the work); the ties are given (YtfiakplgifimkaaDoorTie.lean); close each card by the builder's one call (the guide's Derived/Test/ToyasCard.lean, 'card_holds'). Laid BY PROGRAM, IN A SANDBOX (cutbox-door.mjs). By AI agents, Wed Nov 11 2026. No macro, syntax, notation, axiom, sorry.
-/
import Derived.Test.YtfiakplgifimkaaDoorRows
import GoSem.ClaimSeven
namespace Go.Proofs.YtfiakplgifimkaaDoor
namespace Rows

/-- THE TIED CARD OF 'tesseralaw15.DiskKeeps'. -/
def diskKeepsCard : Claim7 := { stood := { row := diskKeepsRow, standIns := [], harness := (true, "f4337d277b0bab2cf4ebf66f4295ee5edbfe3c9144273043ae1e79ed4d0dbcb4"), looks := true }, kinds := [], alts := [], laidByText := true, laidKinds := [.sentinel, .sentinel, .sentinel], laidTests := true, laidLooks := .later }
def DiskKeepsCardSaid : Prop := Claim7.holds Tryd.pinned (.plain (OpenSpec.ofChange diskKeepsSpec)) diskKeepsCard

/-- THE TIED CARD OF 'tesseralaw15.DiskMeters'. -/
def diskMetersCard : Claim7 := { stood := { row := diskMetersRow, standIns := [], harness := (true, "f4337d277b0bab2cf4ebf66f4295ee5edbfe3c9144273043ae1e79ed4d0dbcb4"), looks := true }, kinds := [], alts := [], laidByText := true, laidKinds := [.sentinel, .sentinel, .sentinel], laidTests := true, laidLooks := .later }
def DiskMetersCardSaid : Prop := Claim7.holds Tryd.pinned (.plain (OpenSpec.ofChange diskMetersSpec)) diskMetersCard

/-- THE TIED CARD OF 'tesseralaw15.DiskLooks'. -/
def diskLooksCard : Claim7 := { stood := { row := diskLooksRow, standIns := [], harness := (true, "f4337d277b0bab2cf4ebf66f4295ee5edbfe3c9144273043ae1e79ed4d0dbcb4"), looks := true }, kinds := [], alts := [], laidByText := true, laidKinds := [.sentinel, .sentinel, .sentinel], laidTests := true, laidLooks := .later }
def DiskLooksCardSaid : Prop := Claim7.holds Tryd.pinned (.plain (OpenSpec.ofChange diskLooksSpec)) diskLooksCard

/-- THE TIED CARD OF 'tesseralaw15.DiskPlays'. -/
def diskPlaysCard : Claim7 := { stood := { row := diskPlaysRow, standIns := [], harness := (true, "f4337d277b0bab2cf4ebf66f4295ee5edbfe3c9144273043ae1e79ed4d0dbcb4"), looks := true }, kinds := [], alts := [], laidByText := true, laidKinds := [.sentinel, .sentinel, .sentinel, .sentinel, .sentinel, .sentinel, .sentinel, .sentinel, .sentinel, .sentinel, .sentinel, .sentinel, .sentinel, .sentinel, .sentinel, .sentinel, .sentinel, .sentinel, .sentinel, .sentinel, .sentinel, .sentinel, .sentinel, .sentinel, .sentinel], laidTests := true, laidLooks := .later }
def DiskPlaysCardSaid : Prop := Claim7.holds Tryd.pinned (.plain (OpenSpec.ofChange diskPlaysSpec)) diskPlaysCard

/-- THE TIED CARD OF 'tesseralaw16.BankArms'. -/
def bankArmsCard : Claim7 := { stood := { row := bankArmsRow, standIns := [], harness := (true, "f4337d277b0bab2cf4ebf66f4295ee5edbfe3c9144273043ae1e79ed4d0dbcb4"), looks := true }, kinds := [], alts := [], laidByText := true, laidKinds := [.sentinel, .sentinel, .sentinel, .sentinel, .sentinel, .sentinel], laidTests := true, laidLooks := .later }
def BankArmsCardSaid : Prop := Claim7.holds Tryd.pinned (.plain (OpenSpec.ofChange bankArmsSpec)) bankArmsCard

/-- THE TIED CARD OF 'tesseralaw16.BankMeters'. -/
def bankMetersCard : Claim7 := { stood := { row := bankMetersRow, standIns := [], harness := (true, "f4337d277b0bab2cf4ebf66f4295ee5edbfe3c9144273043ae1e79ed4d0dbcb4"), looks := true }, kinds := [], alts := [], laidByText := true, laidKinds := [.sentinel, .sentinel, .sentinel, .sentinel, .sentinel, .sentinel], laidTests := true, laidLooks := .later }
def BankMetersCardSaid : Prop := Claim7.holds Tryd.pinned (.plain (OpenSpec.ofChange bankMetersSpec)) bankMetersCard

/-- THE TIED CARD OF 'tesseralaw16.BankPlays'. -/
def bankPlaysCard : Claim7 := { stood := { row := bankPlaysRow, standIns := [], harness := (true, "f4337d277b0bab2cf4ebf66f4295ee5edbfe3c9144273043ae1e79ed4d0dbcb4"), looks := true }, kinds := [], alts := [], laidByText := true, laidKinds := [.sentinel, .sentinel, .sentinel, .sentinel, .sentinel, .sentinel, .sentinel, .sentinel, .sentinel, .sentinel, .sentinel, .sentinel, .sentinel, .sentinel, .sentinel, .sentinel, .sentinel, .sentinel, .sentinel, .sentinel, .sentinel, .sentinel, .sentinel, .sentinel, .sentinel], laidTests := true, laidLooks := .later }
def BankPlaysCardSaid : Prop := Claim7.holds Tryd.pinned (.plain (OpenSpec.ofChange bankPlaysSpec)) bankPlaysCard

/-- THE SECOND FORM's CARD OF 'tesseralaw15.DiskKeeps'. -/
def diskKeepsUptoCard : Claim7 := { stood := { row := diskKeepsUptoRow, standIns := [], harness := (true, "f4337d277b0bab2cf4ebf66f4295ee5edbfe3c9144273043ae1e79ed4d0dbcb4"), looks := true }, kinds := [], alts := [], laidByText := true, laidKinds := [.sentinel, .sentinel, .sentinel], laidTests := true, laidLooks := .later }
def DiskKeepsUptoCardSaid : Prop := Claim7.holds Tryd.pinned (.plain (OpenSpec.upto diskKeepsSpec)) diskKeepsUptoCard

/-- THE SECOND FORM's CARD OF 'tesseralaw15.DiskMeters'. -/
def diskMetersUptoCard : Claim7 := { stood := { row := diskMetersUptoRow, standIns := [], harness := (true, "f4337d277b0bab2cf4ebf66f4295ee5edbfe3c9144273043ae1e79ed4d0dbcb4"), looks := true }, kinds := [], alts := [], laidByText := true, laidKinds := [.sentinel, .sentinel, .sentinel], laidTests := true, laidLooks := .later }
def DiskMetersUptoCardSaid : Prop := Claim7.holds Tryd.pinned (.plain (OpenSpec.upto diskMetersSpec)) diskMetersUptoCard

/-- THE SECOND FORM's CARD OF 'tesseralaw15.DiskLooks'. -/
def diskLooksUptoCard : Claim7 := { stood := { row := diskLooksUptoRow, standIns := [], harness := (true, "f4337d277b0bab2cf4ebf66f4295ee5edbfe3c9144273043ae1e79ed4d0dbcb4"), looks := true }, kinds := [], alts := [], laidByText := true, laidKinds := [.sentinel, .sentinel, .sentinel], laidTests := true, laidLooks := .later }
def DiskLooksUptoCardSaid : Prop := Claim7.holds Tryd.pinned (.plain (OpenSpec.upto diskLooksSpec)) diskLooksUptoCard

/-- THE SECOND FORM's CARD OF 'tesseralaw15.DiskPlays'. -/
def diskPlaysUptoCard : Claim7 := { stood := { row := diskPlaysUptoRow, standIns := [], harness := (true, "f4337d277b0bab2cf4ebf66f4295ee5edbfe3c9144273043ae1e79ed4d0dbcb4"), looks := true }, kinds := [], alts := [], laidByText := true, laidKinds := [.sentinel, .sentinel, .sentinel, .sentinel, .sentinel, .sentinel, .sentinel, .sentinel, .sentinel, .sentinel, .sentinel, .sentinel, .sentinel, .sentinel, .sentinel, .sentinel, .sentinel, .sentinel, .sentinel, .sentinel, .sentinel, .sentinel, .sentinel, .sentinel, .sentinel], laidTests := true, laidLooks := .later }
def DiskPlaysUptoCardSaid : Prop := Claim7.holds Tryd.pinned (.plain (OpenSpec.upto diskPlaysSpec)) diskPlaysUptoCard

/-- THE SECOND FORM's CARD OF 'tesseralaw16.BankArms'. -/
def bankArmsUptoCard : Claim7 := { stood := { row := bankArmsUptoRow, standIns := [], harness := (true, "f4337d277b0bab2cf4ebf66f4295ee5edbfe3c9144273043ae1e79ed4d0dbcb4"), looks := true }, kinds := [], alts := [], laidByText := true, laidKinds := [.sentinel, .sentinel, .sentinel, .sentinel, .sentinel, .sentinel], laidTests := true, laidLooks := .later }
def BankArmsUptoCardSaid : Prop := Claim7.holds Tryd.pinned (.plain (OpenSpec.upto bankArmsSpec)) bankArmsUptoCard

/-- THE SECOND FORM's CARD OF 'tesseralaw16.BankMeters'. -/
def bankMetersUptoCard : Claim7 := { stood := { row := bankMetersUptoRow, standIns := [], harness := (true, "f4337d277b0bab2cf4ebf66f4295ee5edbfe3c9144273043ae1e79ed4d0dbcb4"), looks := true }, kinds := [], alts := [], laidByText := true, laidKinds := [.sentinel, .sentinel, .sentinel, .sentinel, .sentinel, .sentinel], laidTests := true, laidLooks := .later }
def BankMetersUptoCardSaid : Prop := Claim7.holds Tryd.pinned (.plain (OpenSpec.upto bankMetersSpec)) bankMetersUptoCard

/-- THE SECOND FORM's CARD OF 'tesseralaw16.BankPlays'. -/
def bankPlaysUptoCard : Claim7 := { stood := { row := bankPlaysUptoRow, standIns := [], harness := (true, "f4337d277b0bab2cf4ebf66f4295ee5edbfe3c9144273043ae1e79ed4d0dbcb4"), looks := true }, kinds := [], alts := [], laidByText := true, laidKinds := [.sentinel, .sentinel, .sentinel, .sentinel, .sentinel, .sentinel, .sentinel, .sentinel, .sentinel, .sentinel, .sentinel, .sentinel, .sentinel, .sentinel, .sentinel, .sentinel, .sentinel, .sentinel, .sentinel, .sentinel, .sentinel, .sentinel, .sentinel, .sentinel, .sentinel], laidTests := true, laidLooks := .later }
def BankPlaysUptoCardSaid : Prop := Claim7.holds Tryd.pinned (.plain (OpenSpec.upto bankPlaysSpec)) bankPlaysUptoCard
end Rows
end Go.Proofs.YtfiakplgifimkaaDoor
