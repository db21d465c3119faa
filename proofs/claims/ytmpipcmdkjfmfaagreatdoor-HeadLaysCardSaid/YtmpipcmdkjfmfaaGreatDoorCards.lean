/-
  DERIVED. GIVEN WITH THE SEED: THE CARDS: each row of YtmpipcmdkjfmfaaGreatDoorRows.lean that lists a variable, with what it lists TIED to the program's text (the seventh form; the later family's looks); each row that meets fmt, with fmt's text TOLD by the authors' own Lean function (tested against real Go, not proved from fmt's source: count such statements apart). THE CARD IS WHAT COUNTS. Prove the row's statement (the work); the ties are given (YtmpipcmdkjfmfaaGreatDoorTie.lean); close each card by the builder's one call (the guide's Derived/Test/ToyasCard.lean, 'card_holds'). Laid BY PROGRAM, IN A SANDBOX (cutbox-door.mjs). By AI agents, Wed Nov 11 2026. No macro, syntax, notation, axiom, sorry.
-/
import Derived.Test.YtmpipcmdkjfmfaaGreatDoorRows
import GoSem.ClaimSeven
namespace Go.Proofs.YtmpipcmdkjfmfaaGreatDoor
namespace Rows

/-- THE TIED CARD OF 'pannierlaw20.HeadCodes'. -/
def headCodesCard : Claim7 := { stood := { row := headCodesRow, standIns := [], harness := (true, "27957bf86564f8e723651d10fb1fdd58dabd5c14829a1a4ec9bf5fcb4e875c93"), looks := true }, kinds := [], alts := [], laidByText := true, laidKinds := [.data, .data, .handle, .sentinel, .sentinel, .sentinel, .sentinel, .sentinel, .pinned], laidTests := true, laidLooks := .later }
def HeadCodesCardSaid : Prop := Claim7.holds Tryz.pinned (.plain (OpenSpec.ofChange headCodesSpec)) headCodesCard

/-- THE TIED CARD OF 'pannierlaw20.HeadBack'. -/
def headBackCard : Claim7 := { stood := { row := headBackRow, standIns := [], harness := (true, "27957bf86564f8e723651d10fb1fdd58dabd5c14829a1a4ec9bf5fcb4e875c93"), looks := true }, kinds := [], alts := [], laidByText := true, laidKinds := [.data, .data, .handle, .sentinel, .sentinel, .sentinel, .sentinel, .sentinel, .pinned], laidTests := true, laidLooks := .later }
def HeadBackCardSaid : Prop := Claim7.holds Tryz.pinned (.plain (OpenSpec.ofChange headBackSpec)) headBackCard

/-- THE TIED CARD OF 'pannierlaw20.HeadLays'. -/
def headLaysCard : Claim7 := { stood := { row := headLaysRow, standIns := [], harness := (true, "27957bf86564f8e723651d10fb1fdd58dabd5c14829a1a4ec9bf5fcb4e875c93"), looks := true }, kinds := [], alts := [], laidByText := true, laidKinds := [.data, .data, .handle, .sentinel, .sentinel, .sentinel, .sentinel, .sentinel, .pinned], laidTests := true, laidLooks := .later }
def HeadLaysCardSaid : Prop := Claim7.holds Tryz.pinned (.plain (OpenSpec.ofChange headLaysSpec)) headLaysCard

/-- THE TIED CARD OF 'pannierlaw20.HeadSafe'. -/
def headSafeCard : Claim7 := { stood := { row := headSafeRow, standIns := [], harness := (true, "27957bf86564f8e723651d10fb1fdd58dabd5c14829a1a4ec9bf5fcb4e875c93"), looks := true }, kinds := [], alts := [], laidByText := true, laidKinds := [.data, .data, .handle, .sentinel, .sentinel, .sentinel, .sentinel, .sentinel, .pinned], laidTests := true, laidLooks := .later }
def HeadSafeCardSaid : Prop := Claim7.holds Tryz.pinned (.plain (OpenSpec.ofChange headSafeSpec)) headSafeCard

/-- THE TIED CARD OF 'pannierlaw22.PagerSafe'. -/
def pagerSafeCard : Claim7 := { stood := { row := pagerSafeRow, standIns := [], harness := (true, "27957bf86564f8e723651d10fb1fdd58dabd5c14829a1a4ec9bf5fcb4e875c93"), looks := true }, kinds := [], alts := [], laidByText := true, laidKinds := [.data, .data, .handle, .sentinel, .sentinel, .sentinel, .sentinel, .sentinel, .sentinel, .sentinel, .sentinel, .sentinel, .pinned], laidTests := true, laidLooks := .later }
def PagerSafeCardSaid : Prop := Claim7.holds Tryz.pinned (.plain (OpenSpec.ofChange pagerSafeSpec)) pagerSafeCard

/-- THE TIED CARD OF 'pannierlaw22.PagerNone'. -/
def pagerNoneCard : Claim7 := { stood := { row := pagerNoneRow, standIns := [], harness := (true, "27957bf86564f8e723651d10fb1fdd58dabd5c14829a1a4ec9bf5fcb4e875c93"), looks := true }, kinds := [], alts := [], laidByText := true, laidKinds := [.data, .data, .handle, .sentinel, .sentinel, .sentinel, .sentinel, .sentinel, .sentinel, .sentinel, .sentinel, .sentinel, .pinned], laidTests := true, laidLooks := .later }
def PagerNoneCardSaid : Prop := Claim7.holds Tryz.pinned (.plain (OpenSpec.ofChange pagerNoneSpec)) pagerNoneCard

/-- THE TIED CARD OF 'pannierlaw22.PagerLeft'. -/
def pagerLeftCard : Claim7 := { stood := { row := pagerLeftRow, standIns := [], harness := (true, "27957bf86564f8e723651d10fb1fdd58dabd5c14829a1a4ec9bf5fcb4e875c93"), looks := true }, kinds := [], alts := [], laidByText := true, laidKinds := [.data, .data, .handle, .sentinel, .sentinel, .sentinel, .sentinel, .sentinel, .sentinel, .sentinel, .sentinel, .sentinel, .pinned], laidTests := true, laidLooks := .later }
def PagerLeftCardSaid : Prop := Claim7.holds Tryz.pinned (.plain (OpenSpec.ofChange pagerLeftSpec)) pagerLeftCard

/-- THE TIED CARD OF 'pannierlaw22.PagerPlays'. -/
def pagerPlaysCard : Claim7 := { stood := { row := pagerPlaysRow, standIns := [], harness := (true, "27957bf86564f8e723651d10fb1fdd58dabd5c14829a1a4ec9bf5fcb4e875c93"), looks := true }, kinds := [], alts := [], laidByText := true, laidKinds := [.data, .data, .handle, .sentinel, .sentinel, .sentinel, .sentinel, .sentinel, .sentinel, .sentinel, .sentinel, .sentinel, .pinned], laidTests := true, laidLooks := .later }
def PagerPlaysCardSaid : Prop := Claim7.holds Tryz.pinned (.plain (OpenSpec.ofChange pagerPlaysSpec)) pagerPlaysCard

/-- THE TIED CARD OF 'pannierlaw24.ChainBack'. -/
def chainBackCard : Claim7 := { stood := { row := chainBackRow, standIns := [], harness := (true, "27957bf86564f8e723651d10fb1fdd58dabd5c14829a1a4ec9bf5fcb4e875c93"), looks := true }, kinds := [], alts := [], laidByText := true, laidKinds := [.data, .data, .handle, .sentinel, .sentinel, .sentinel, .sentinel, .sentinel, .sentinel, .sentinel, .sentinel, .sentinel, .sentinel, .pinned], laidTests := true, laidLooks := .later }
def ChainBackCardSaid : Prop := Claim7.holds Tryz.pinned (.plain (OpenSpec.ofChange chainBackSpec)) chainBackCard

/-- THE TIED CARD OF 'pannierlaw24.ChainFull'. -/
def chainFullCard : Claim7 := { stood := { row := chainFullRow, standIns := [], harness := (true, "27957bf86564f8e723651d10fb1fdd58dabd5c14829a1a4ec9bf5fcb4e875c93"), looks := true }, kinds := [], alts := [], laidByText := true, laidKinds := [.data, .data, .handle, .sentinel, .sentinel, .sentinel, .sentinel, .sentinel, .sentinel, .sentinel, .sentinel, .sentinel, .sentinel, .pinned], laidTests := true, laidLooks := .later }
def ChainFullCardSaid : Prop := Claim7.holds Tryz.pinned (.plain (OpenSpec.ofChange chainFullSpec)) chainFullCard

/-- THE TIED CARD OF 'pannierlaw20.HeadReads'. -/
def headReadsCard : Claim7 := { stood := { row := headReadsRow, standIns := [], harness := (true, "27957bf86564f8e723651d10fb1fdd58dabd5c14829a1a4ec9bf5fcb4e875c93"), looks := true }, kinds := [], alts := [], laidByText := true, laidKinds := [.data, .data, .handle, .sentinel, .sentinel, .sentinel, .sentinel, .sentinel, .pinned], laidTests := true, laidLooks := .later }
def HeadReadsCardSaid : Prop := Claim7.holds Tryz.pinned (.plain (OpenSpec.ofChange headReadsSpec)) headReadsCard

/-- THE SECOND FORM's CARD OF 'pannierlaw20.HeadCodes'. -/
def headCodesUptoCard : Claim7 := { stood := { row := headCodesUptoRow, standIns := [], harness := (true, "27957bf86564f8e723651d10fb1fdd58dabd5c14829a1a4ec9bf5fcb4e875c93"), looks := true }, kinds := [], alts := [], laidByText := true, laidKinds := [.data, .data, .handle, .sentinel, .sentinel, .sentinel, .sentinel, .sentinel, .pinned], laidTests := true, laidLooks := .later }
def HeadCodesUptoCardSaid : Prop := Claim7.holds Tryz.pinned (.plain (OpenSpec.upto headCodesSpec)) headCodesUptoCard

/-- THE SECOND FORM's CARD OF 'pannierlaw20.HeadBack'. -/
def headBackUptoCard : Claim7 := { stood := { row := headBackUptoRow, standIns := [], harness := (true, "27957bf86564f8e723651d10fb1fdd58dabd5c14829a1a4ec9bf5fcb4e875c93"), looks := true }, kinds := [], alts := [], laidByText := true, laidKinds := [.data, .data, .handle, .sentinel, .sentinel, .sentinel, .sentinel, .sentinel, .pinned], laidTests := true, laidLooks := .later }
def HeadBackUptoCardSaid : Prop := Claim7.holds Tryz.pinned (.plain (OpenSpec.upto headBackSpec)) headBackUptoCard

/-- THE SECOND FORM's CARD OF 'pannierlaw20.HeadLays'. -/
def headLaysUptoCard : Claim7 := { stood := { row := headLaysUptoRow, standIns := [], harness := (true, "27957bf86564f8e723651d10fb1fdd58dabd5c14829a1a4ec9bf5fcb4e875c93"), looks := true }, kinds := [], alts := [], laidByText := true, laidKinds := [.data, .data, .handle, .sentinel, .sentinel, .sentinel, .sentinel, .sentinel, .pinned], laidTests := true, laidLooks := .later }
def HeadLaysUptoCardSaid : Prop := Claim7.holds Tryz.pinned (.plain (OpenSpec.upto headLaysSpec)) headLaysUptoCard

/-- THE SECOND FORM's CARD OF 'pannierlaw20.HeadSafe'. -/
def headSafeUptoCard : Claim7 := { stood := { row := headSafeUptoRow, standIns := [], harness := (true, "27957bf86564f8e723651d10fb1fdd58dabd5c14829a1a4ec9bf5fcb4e875c93"), looks := true }, kinds := [], alts := [], laidByText := true, laidKinds := [.data, .data, .handle, .sentinel, .sentinel, .sentinel, .sentinel, .sentinel, .pinned], laidTests := true, laidLooks := .later }
def HeadSafeUptoCardSaid : Prop := Claim7.holds Tryz.pinned (.plain (OpenSpec.upto headSafeSpec)) headSafeUptoCard

/-- THE SECOND FORM's CARD OF 'pannierlaw22.PagerSafe'. -/
def pagerSafeUptoCard : Claim7 := { stood := { row := pagerSafeUptoRow, standIns := [], harness := (true, "27957bf86564f8e723651d10fb1fdd58dabd5c14829a1a4ec9bf5fcb4e875c93"), looks := true }, kinds := [], alts := [], laidByText := true, laidKinds := [.data, .data, .handle, .sentinel, .sentinel, .sentinel, .sentinel, .sentinel, .sentinel, .sentinel, .sentinel, .sentinel, .pinned], laidTests := true, laidLooks := .later }
def PagerSafeUptoCardSaid : Prop := Claim7.holds Tryz.pinned (.plain (OpenSpec.upto pagerSafeSpec)) pagerSafeUptoCard

/-- THE SECOND FORM's CARD OF 'pannierlaw22.PagerNone'. -/
def pagerNoneUptoCard : Claim7 := { stood := { row := pagerNoneUptoRow, standIns := [], harness := (true, "27957bf86564f8e723651d10fb1fdd58dabd5c14829a1a4ec9bf5fcb4e875c93"), looks := true }, kinds := [], alts := [], laidByText := true, laidKinds := [.data, .data, .handle, .sentinel, .sentinel, .sentinel, .sentinel, .sentinel, .sentinel, .sentinel, .sentinel, .sentinel, .pinned], laidTests := true, laidLooks := .later }
def PagerNoneUptoCardSaid : Prop := Claim7.holds Tryz.pinned (.plain (OpenSpec.upto pagerNoneSpec)) pagerNoneUptoCard

/-- THE SECOND FORM's CARD OF 'pannierlaw22.PagerLeft'. -/
def pagerLeftUptoCard : Claim7 := { stood := { row := pagerLeftUptoRow, standIns := [], harness := (true, "27957bf86564f8e723651d10fb1fdd58dabd5c14829a1a4ec9bf5fcb4e875c93"), looks := true }, kinds := [], alts := [], laidByText := true, laidKinds := [.data, .data, .handle, .sentinel, .sentinel, .sentinel, .sentinel, .sentinel, .sentinel, .sentinel, .sentinel, .sentinel, .pinned], laidTests := true, laidLooks := .later }
def PagerLeftUptoCardSaid : Prop := Claim7.holds Tryz.pinned (.plain (OpenSpec.upto pagerLeftSpec)) pagerLeftUptoCard

/-- THE SECOND FORM's CARD OF 'pannierlaw22.PagerPlays'. -/
def pagerPlaysUptoCard : Claim7 := { stood := { row := pagerPlaysUptoRow, standIns := [], harness := (true, "27957bf86564f8e723651d10fb1fdd58dabd5c14829a1a4ec9bf5fcb4e875c93"), looks := true }, kinds := [], alts := [], laidByText := true, laidKinds := [.data, .data, .handle, .sentinel, .sentinel, .sentinel, .sentinel, .sentinel, .sentinel, .sentinel, .sentinel, .sentinel, .pinned], laidTests := true, laidLooks := .later }
def PagerPlaysUptoCardSaid : Prop := Claim7.holds Tryz.pinned (.plain (OpenSpec.upto pagerPlaysSpec)) pagerPlaysUptoCard

/-- THE SECOND FORM's CARD OF 'pannierlaw24.ChainBack'. -/
def chainBackUptoCard : Claim7 := { stood := { row := chainBackUptoRow, standIns := [], harness := (true, "27957bf86564f8e723651d10fb1fdd58dabd5c14829a1a4ec9bf5fcb4e875c93"), looks := true }, kinds := [], alts := [], laidByText := true, laidKinds := [.data, .data, .handle, .sentinel, .sentinel, .sentinel, .sentinel, .sentinel, .sentinel, .sentinel, .sentinel, .sentinel, .sentinel, .pinned], laidTests := true, laidLooks := .later }
def ChainBackUptoCardSaid : Prop := Claim7.holds Tryz.pinned (.plain (OpenSpec.upto chainBackSpec)) chainBackUptoCard

/-- THE SECOND FORM's CARD OF 'pannierlaw24.ChainFull'. -/
def chainFullUptoCard : Claim7 := { stood := { row := chainFullUptoRow, standIns := [], harness := (true, "27957bf86564f8e723651d10fb1fdd58dabd5c14829a1a4ec9bf5fcb4e875c93"), looks := true }, kinds := [], alts := [], laidByText := true, laidKinds := [.data, .data, .handle, .sentinel, .sentinel, .sentinel, .sentinel, .sentinel, .sentinel, .sentinel, .sentinel, .sentinel, .sentinel, .pinned], laidTests := true, laidLooks := .later }
def ChainFullUptoCardSaid : Prop := Claim7.holds Tryz.pinned (.plain (OpenSpec.upto chainFullSpec)) chainFullUptoCard

/-- THE SECOND FORM's CARD OF 'pannierlaw20.HeadReads'. -/
def headReadsUptoCard : Claim7 := { stood := { row := headReadsUptoRow, standIns := [], harness := (true, "27957bf86564f8e723651d10fb1fdd58dabd5c14829a1a4ec9bf5fcb4e875c93"), looks := true }, kinds := [], alts := [], laidByText := true, laidKinds := [.data, .data, .handle, .sentinel, .sentinel, .sentinel, .sentinel, .sentinel, .pinned], laidTests := true, laidLooks := .later }
def HeadReadsUptoCardSaid : Prop := Claim7.holds Tryz.pinned (.plain (OpenSpec.upto headReadsSpec)) headReadsUptoCard
end Rows
end Go.Proofs.YtmpipcmdkjfmfaaGreatDoor
