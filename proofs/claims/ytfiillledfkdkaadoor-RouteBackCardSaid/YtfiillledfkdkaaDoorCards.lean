/-
  DERIVED. GIVEN WITH THE SEED: THE CARDS: each row of YtfiillledfkdkaaDoorRows.lean that lists a variable, with what it lists TIED to the program's text (the seventh form; the later family's looks); each row that meets fmt, with fmt's text TOLD by the authors' own Lean function (tested against real Go, not proved from fmt's source: count such statements apart). THE CARD IS WHAT COUNTS. Prove the row's statement (the work); the ties are given (YtfiillledfkdkaaDoorTie.lean); close each card by the builder's one call (the guide's Derived/Test/ToyasCard.lean, 'card_holds'). Laid BY PROGRAM, IN A SANDBOX (cutbox-door.mjs). By AI agents, Wed Nov 11 2026. No macro, syntax, notation, axiom, sorry.
-/
import Derived.Test.YtfiillledfkdkaaDoorRows
import GoSem.ClaimSeven
namespace Go.Proofs.YtfiillledfkdkaaDoor
namespace Rows

/-- THE TIED CARD OF 'towpathlaw21.RouteTells'. -/
def routeTellsCard : Claim7 := { stood := { row := routeTellsRow, standIns := [], harness := (true, "b3608e068c0b42f5412661cf276a996db538cf43fbaa97878f03b284c175a6e3"), looks := false }, kinds := [], alts := [], laidByText := true, laidKinds := [.data, .pinned], laidTests := true, laidLooks := .later }
def RouteTellsCardSaid : Prop := Claim7.holds Tryd.pinned (.plain (OpenSpec.ofChange routeTellsSpec)) routeTellsCard

/-- THE TIED CARD OF 'towpathlaw21.RouteBetter'. -/
def routeBetterCard : Claim7 := { stood := { row := routeBetterRow, standIns := [], harness := (true, "b3608e068c0b42f5412661cf276a996db538cf43fbaa97878f03b284c175a6e3"), looks := false }, kinds := [], alts := [], laidByText := true, laidKinds := [.data, .pinned], laidTests := true, laidLooks := .later }
def RouteBetterCardSaid : Prop := Claim7.holds Tryd.pinned (.plain (OpenSpec.ofChange routeBetterSpec)) routeBetterCard

/-- THE TIED CARD OF 'towpathlaw21.RouteBack'. -/
def routeBackCard : Claim7 := { stood := { row := routeBackRow, standIns := [], harness := (true, "b3608e068c0b42f5412661cf276a996db538cf43fbaa97878f03b284c175a6e3"), looks := false }, kinds := [], alts := [], laidByText := true, laidKinds := [.data, .pinned], laidTests := true, laidLooks := .later }
def RouteBackCardSaid : Prop := Claim7.holds Tryd.pinned (.plain (OpenSpec.ofChange routeBackSpec)) routeBackCard

/-- THE TIED CARD OF 'towpathlaw21.RouteReads'. -/
def routeReadsCard : Claim7 := { stood := { row := routeReadsRow, standIns := [], harness := (true, "b3608e068c0b42f5412661cf276a996db538cf43fbaa97878f03b284c175a6e3"), looks := false }, kinds := [], alts := [], laidByText := true, laidKinds := [.data, .pinned], laidTests := true, laidLooks := .later }
def RouteReadsCardSaid : Prop := Claim7.holds Tryd.pinned (.plain (OpenSpec.ofChange routeReadsSpec)) routeReadsCard

/-- THE TIED CARD OF 'towpathlaw21.RouteLimits'. -/
def routeLimitsCard : Claim7 := { stood := { row := routeLimitsRow, standIns := [], harness := (true, "b3608e068c0b42f5412661cf276a996db538cf43fbaa97878f03b284c175a6e3"), looks := false }, kinds := [], alts := [], laidByText := true, laidKinds := [.data, .pinned], laidTests := true, laidLooks := .later }
def RouteLimitsCardSaid : Prop := Claim7.holds Tryd.pinned (.plain (OpenSpec.ofChange routeLimitsSpec)) routeLimitsCard

/-- THE TIED CARD OF 'towpathlaw21.RouteWalks'. -/
def routeWalksCard : Claim7 := { stood := { row := routeWalksRow, standIns := [], harness := (true, "b3608e068c0b42f5412661cf276a996db538cf43fbaa97878f03b284c175a6e3"), looks := false }, kinds := [], alts := [], laidByText := true, laidKinds := [.data, .pinned], laidTests := true, laidLooks := .later }
def RouteWalksCardSaid : Prop := Claim7.holds Tryd.pinned (.plain (OpenSpec.ofChange routeWalksSpec)) routeWalksCard

/-- THE TIED CARD OF 'towpathlaw21.RouteTotal'. -/
def routeTotalCard : Claim7 := { stood := { row := routeTotalRow, standIns := [], harness := (true, "b3608e068c0b42f5412661cf276a996db538cf43fbaa97878f03b284c175a6e3"), looks := false }, kinds := [], alts := [], laidByText := true, laidKinds := [.data, .pinned], laidTests := true, laidLooks := .later }
def RouteTotalCardSaid : Prop := Claim7.holds Tryd.pinned (.plain (OpenSpec.ofChange routeTotalSpec)) routeTotalCard

/-- THE SECOND FORM's CARD OF 'towpathlaw21.RouteTells'. -/
def routeTellsUptoCard : Claim7 := { stood := { row := routeTellsUptoRow, standIns := [], harness := (true, "b3608e068c0b42f5412661cf276a996db538cf43fbaa97878f03b284c175a6e3"), looks := false }, kinds := [], alts := [], laidByText := true, laidKinds := [.data, .pinned], laidTests := true, laidLooks := .later }
def RouteTellsUptoCardSaid : Prop := Claim7.holds Tryd.pinned (.plain (OpenSpec.upto routeTellsSpec)) routeTellsUptoCard

/-- THE SECOND FORM's CARD OF 'towpathlaw21.RouteBetter'. -/
def routeBetterUptoCard : Claim7 := { stood := { row := routeBetterUptoRow, standIns := [], harness := (true, "b3608e068c0b42f5412661cf276a996db538cf43fbaa97878f03b284c175a6e3"), looks := false }, kinds := [], alts := [], laidByText := true, laidKinds := [.data, .pinned], laidTests := true, laidLooks := .later }
def RouteBetterUptoCardSaid : Prop := Claim7.holds Tryd.pinned (.plain (OpenSpec.upto routeBetterSpec)) routeBetterUptoCard

/-- THE SECOND FORM's CARD OF 'towpathlaw21.RouteBack'. -/
def routeBackUptoCard : Claim7 := { stood := { row := routeBackUptoRow, standIns := [], harness := (true, "b3608e068c0b42f5412661cf276a996db538cf43fbaa97878f03b284c175a6e3"), looks := false }, kinds := [], alts := [], laidByText := true, laidKinds := [.data, .pinned], laidTests := true, laidLooks := .later }
def RouteBackUptoCardSaid : Prop := Claim7.holds Tryd.pinned (.plain (OpenSpec.upto routeBackSpec)) routeBackUptoCard

/-- THE SECOND FORM's CARD OF 'towpathlaw21.RouteReads'. -/
def routeReadsUptoCard : Claim7 := { stood := { row := routeReadsUptoRow, standIns := [], harness := (true, "b3608e068c0b42f5412661cf276a996db538cf43fbaa97878f03b284c175a6e3"), looks := false }, kinds := [], alts := [], laidByText := true, laidKinds := [.data, .pinned], laidTests := true, laidLooks := .later }
def RouteReadsUptoCardSaid : Prop := Claim7.holds Tryd.pinned (.plain (OpenSpec.upto routeReadsSpec)) routeReadsUptoCard

/-- THE SECOND FORM's CARD OF 'towpathlaw21.RouteLimits'. -/
def routeLimitsUptoCard : Claim7 := { stood := { row := routeLimitsUptoRow, standIns := [], harness := (true, "b3608e068c0b42f5412661cf276a996db538cf43fbaa97878f03b284c175a6e3"), looks := false }, kinds := [], alts := [], laidByText := true, laidKinds := [.data, .pinned], laidTests := true, laidLooks := .later }
def RouteLimitsUptoCardSaid : Prop := Claim7.holds Tryd.pinned (.plain (OpenSpec.upto routeLimitsSpec)) routeLimitsUptoCard

/-- THE SECOND FORM's CARD OF 'towpathlaw21.RouteWalks'. -/
def routeWalksUptoCard : Claim7 := { stood := { row := routeWalksUptoRow, standIns := [], harness := (true, "b3608e068c0b42f5412661cf276a996db538cf43fbaa97878f03b284c175a6e3"), looks := false }, kinds := [], alts := [], laidByText := true, laidKinds := [.data, .pinned], laidTests := true, laidLooks := .later }
def RouteWalksUptoCardSaid : Prop := Claim7.holds Tryd.pinned (.plain (OpenSpec.upto routeWalksSpec)) routeWalksUptoCard

/-- THE SECOND FORM's CARD OF 'towpathlaw21.RouteTotal'. -/
def routeTotalUptoCard : Claim7 := { stood := { row := routeTotalUptoRow, standIns := [], harness := (true, "b3608e068c0b42f5412661cf276a996db538cf43fbaa97878f03b284c175a6e3"), looks := false }, kinds := [], alts := [], laidByText := true, laidKinds := [.data, .pinned], laidTests := true, laidLooks := .later }
def RouteTotalUptoCardSaid : Prop := Claim7.holds Tryd.pinned (.plain (OpenSpec.upto routeTotalSpec)) routeTotalUptoCard
end Rows
end Go.Proofs.YtfiillledfkdkaaDoor
