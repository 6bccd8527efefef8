/-
  DERIVED. GIVEN WITH THE SEED: THE CARDS: each row of YtjeooibbhchmgaaDoorRows.lean that lists a variable, with what it lists TIED to the program's text (the seventh form; the later family's looks); each row that meets fmt, with fmt's text TOLD by the authors' own Lean function (tested against real Go, not proved from fmt's source: count such statements apart). THE CARD IS WHAT COUNTS. Prove the row's statement (the work); the ties are given (YtjeooibbhchmgaaDoorTie.lean); close each card by the builder's one call (the guide's Derived/Test/ToyasCard.lean, 'card_holds'). Laid BY PROGRAM, IN A SANDBOX (cutbox-door.mjs). By AI agents, Wed Nov 11 2026. No macro, syntax, notation, axiom, sorry.
-/
import Derived.Test.YtjeooibbhchmgaaDoorRows
import GoSem.ClaimSeven
namespace Go.Proofs.YtjeooibbhchmgaaDoor
namespace Rows

/-- THE TIED CARD OF 'towpathlaw11.NameTells'. -/
def nameTellsCard : Claim7 := { stood := { row := nameTellsRow, standIns := [], harness := (true, "bf727b2018d7eb8d9de04a2a45bab842551312b8eb138bdd4ee70d9f5140a099"), looks := false }, kinds := [], alts := [], laidByText := true, laidKinds := [.data, .pinned], laidTests := true, laidLooks := .later }
def NameTellsCardSaid : Prop := Claim7.holds Tryd.pinned (.plain (OpenSpec.ofChange nameTellsSpec)) nameTellsCard

/-- THE TIED CARD OF 'towpathlaw11.NameOrders'. -/
def nameOrdersCard : Claim7 := { stood := { row := nameOrdersRow, standIns := [], harness := (true, "bf727b2018d7eb8d9de04a2a45bab842551312b8eb138bdd4ee70d9f5140a099"), looks := false }, kinds := [], alts := [], laidByText := true, laidKinds := [.data, .pinned], laidTests := true, laidLooks := .later }
def NameOrdersCardSaid : Prop := Claim7.holds Tryd.pinned (.plain (OpenSpec.ofChange nameOrdersSpec)) nameOrdersCard

/-- THE TIED CARD OF 'towpathlaw11.NameLimits'. -/
def nameLimitsCard : Claim7 := { stood := { row := nameLimitsRow, standIns := [], harness := (true, "bf727b2018d7eb8d9de04a2a45bab842551312b8eb138bdd4ee70d9f5140a099"), looks := false }, kinds := [], alts := [], laidByText := true, laidKinds := [.data, .pinned], laidTests := true, laidLooks := .later }
def NameLimitsCardSaid : Prop := Claim7.holds Tryd.pinned (.plain (OpenSpec.ofChange nameLimitsSpec)) nameLimitsCard

/-- THE TIED CARD OF 'towpathlaw11.NameBytes'. -/
def nameBytesCard : Claim7 := { stood := { row := nameBytesRow, standIns := [], harness := (true, "bf727b2018d7eb8d9de04a2a45bab842551312b8eb138bdd4ee70d9f5140a099"), looks := false }, kinds := [], alts := [], laidByText := true, laidKinds := [.data, .pinned], laidTests := true, laidLooks := .later }
def NameBytesCardSaid : Prop := Claim7.holds Tryd.pinned (.plain (OpenSpec.ofChange nameBytesSpec)) nameBytesCard

/-- THE TIED CARD OF 'towpathlaw11.NameFolds'. -/
def nameFoldsCard : Claim7 := { stood := { row := nameFoldsRow, standIns := [], harness := (true, "bf727b2018d7eb8d9de04a2a45bab842551312b8eb138bdd4ee70d9f5140a099"), looks := false }, kinds := [], alts := [], laidByText := true, laidKinds := [.data, .pinned], laidTests := true, laidLooks := .later }
def NameFoldsCardSaid : Prop := Claim7.holds Tryd.pinned (.plain (OpenSpec.ofChange nameFoldsSpec)) nameFoldsCard

/-- THE TIED CARD OF 'towpathlaw11.NameClips'. -/
def nameClipsCard : Claim7 := { stood := { row := nameClipsRow, standIns := [], harness := (true, "bf727b2018d7eb8d9de04a2a45bab842551312b8eb138bdd4ee70d9f5140a099"), looks := false }, kinds := [], alts := [], laidByText := true, laidKinds := [.data, .pinned], laidTests := true, laidLooks := .later }
def NameClipsCardSaid : Prop := Claim7.holds Tryd.pinned (.plain (OpenSpec.ofChange nameClipsSpec)) nameClipsCard

/-- THE TIED CARD OF 'towpathlaw11.NameLine'. -/
def nameLineCard : Claim7 := { stood := { row := nameLineRow, standIns := [], harness := (true, "bf727b2018d7eb8d9de04a2a45bab842551312b8eb138bdd4ee70d9f5140a099"), looks := false }, kinds := [], alts := [], laidByText := true, laidKinds := [.data, .pinned], laidTests := true, laidLooks := .later }
def NameLineCardSaid : Prop := Claim7.holds Tryd.pinned (.plain (OpenSpec.ofChange nameLineSpec)) nameLineCard

/-- THE TIED CARD OF 'towpathlaw11.NameRunes'. -/
def nameRunesCard : Claim7 := { stood := { row := nameRunesRow, standIns := [], harness := (true, "bf727b2018d7eb8d9de04a2a45bab842551312b8eb138bdd4ee70d9f5140a099"), looks := false }, kinds := [], alts := [], laidByText := true, laidKinds := [.data, .pinned], laidTests := true, laidLooks := .later }
def NameRunesCardSaid : Prop := Claim7.holds Tryd.pinned (.plain (OpenSpec.ofChange nameRunesSpec)) nameRunesCard

/-- THE SECOND FORM's CARD OF 'towpathlaw11.NameTells'. -/
def nameTellsUptoCard : Claim7 := { stood := { row := nameTellsUptoRow, standIns := [], harness := (true, "bf727b2018d7eb8d9de04a2a45bab842551312b8eb138bdd4ee70d9f5140a099"), looks := false }, kinds := [], alts := [], laidByText := true, laidKinds := [.data, .pinned], laidTests := true, laidLooks := .later }
def NameTellsUptoCardSaid : Prop := Claim7.holds Tryd.pinned (.plain (OpenSpec.upto nameTellsSpec)) nameTellsUptoCard

/-- THE SECOND FORM's CARD OF 'towpathlaw11.NameOrders'. -/
def nameOrdersUptoCard : Claim7 := { stood := { row := nameOrdersUptoRow, standIns := [], harness := (true, "bf727b2018d7eb8d9de04a2a45bab842551312b8eb138bdd4ee70d9f5140a099"), looks := false }, kinds := [], alts := [], laidByText := true, laidKinds := [.data, .pinned], laidTests := true, laidLooks := .later }
def NameOrdersUptoCardSaid : Prop := Claim7.holds Tryd.pinned (.plain (OpenSpec.upto nameOrdersSpec)) nameOrdersUptoCard

/-- THE SECOND FORM's CARD OF 'towpathlaw11.NameLimits'. -/
def nameLimitsUptoCard : Claim7 := { stood := { row := nameLimitsUptoRow, standIns := [], harness := (true, "bf727b2018d7eb8d9de04a2a45bab842551312b8eb138bdd4ee70d9f5140a099"), looks := false }, kinds := [], alts := [], laidByText := true, laidKinds := [.data, .pinned], laidTests := true, laidLooks := .later }
def NameLimitsUptoCardSaid : Prop := Claim7.holds Tryd.pinned (.plain (OpenSpec.upto nameLimitsSpec)) nameLimitsUptoCard

/-- THE SECOND FORM's CARD OF 'towpathlaw11.NameBytes'. -/
def nameBytesUptoCard : Claim7 := { stood := { row := nameBytesUptoRow, standIns := [], harness := (true, "bf727b2018d7eb8d9de04a2a45bab842551312b8eb138bdd4ee70d9f5140a099"), looks := false }, kinds := [], alts := [], laidByText := true, laidKinds := [.data, .pinned], laidTests := true, laidLooks := .later }
def NameBytesUptoCardSaid : Prop := Claim7.holds Tryd.pinned (.plain (OpenSpec.upto nameBytesSpec)) nameBytesUptoCard

/-- THE SECOND FORM's CARD OF 'towpathlaw11.NameFolds'. -/
def nameFoldsUptoCard : Claim7 := { stood := { row := nameFoldsUptoRow, standIns := [], harness := (true, "bf727b2018d7eb8d9de04a2a45bab842551312b8eb138bdd4ee70d9f5140a099"), looks := false }, kinds := [], alts := [], laidByText := true, laidKinds := [.data, .pinned], laidTests := true, laidLooks := .later }
def NameFoldsUptoCardSaid : Prop := Claim7.holds Tryd.pinned (.plain (OpenSpec.upto nameFoldsSpec)) nameFoldsUptoCard

/-- THE SECOND FORM's CARD OF 'towpathlaw11.NameClips'. -/
def nameClipsUptoCard : Claim7 := { stood := { row := nameClipsUptoRow, standIns := [], harness := (true, "bf727b2018d7eb8d9de04a2a45bab842551312b8eb138bdd4ee70d9f5140a099"), looks := false }, kinds := [], alts := [], laidByText := true, laidKinds := [.data, .pinned], laidTests := true, laidLooks := .later }
def NameClipsUptoCardSaid : Prop := Claim7.holds Tryd.pinned (.plain (OpenSpec.upto nameClipsSpec)) nameClipsUptoCard

/-- THE SECOND FORM's CARD OF 'towpathlaw11.NameLine'. -/
def nameLineUptoCard : Claim7 := { stood := { row := nameLineUptoRow, standIns := [], harness := (true, "bf727b2018d7eb8d9de04a2a45bab842551312b8eb138bdd4ee70d9f5140a099"), looks := false }, kinds := [], alts := [], laidByText := true, laidKinds := [.data, .pinned], laidTests := true, laidLooks := .later }
def NameLineUptoCardSaid : Prop := Claim7.holds Tryd.pinned (.plain (OpenSpec.upto nameLineSpec)) nameLineUptoCard

/-- THE SECOND FORM's CARD OF 'towpathlaw11.NameRunes'. -/
def nameRunesUptoCard : Claim7 := { stood := { row := nameRunesUptoRow, standIns := [], harness := (true, "bf727b2018d7eb8d9de04a2a45bab842551312b8eb138bdd4ee70d9f5140a099"), looks := false }, kinds := [], alts := [], laidByText := true, laidKinds := [.data, .pinned], laidTests := true, laidLooks := .later }
def NameRunesUptoCardSaid : Prop := Claim7.holds Tryd.pinned (.plain (OpenSpec.upto nameRunesSpec)) nameRunesUptoCard
end Rows
end Go.Proofs.YtjeooibbhchmgaaDoor
