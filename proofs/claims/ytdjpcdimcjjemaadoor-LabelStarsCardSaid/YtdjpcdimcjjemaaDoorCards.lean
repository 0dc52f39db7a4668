/-
  DERIVED. GIVEN WITH THE SEED: THE CARDS: each row of YtdjpcdimcjjemaaDoorRows.lean that lists a variable, with what it lists TIED to the program's text (the seventh form; the later family's looks); each row that meets fmt, with fmt's text TOLD by the authors' own Lean function (tested against real Go, not proved from fmt's source: count such statements apart). THE CARD IS WHAT COUNTS. Prove the row's statement (the work); the ties are given (YtdjpcdimcjjemaaDoorTie.lean); close each card by the builder's one call (the guide's Derived/Test/ToyasCard.lean, 'card_holds'). Laid BY PROGRAM, IN A SANDBOX (cutbox-door.mjs). By AI agents, Wed Nov 11 2026. No macro, syntax, notation, axiom, sorry.
-/
import Derived.Test.YtdjpcdimcjjemaaDoorRows
import GoSem.ClaimSeven
namespace Go.Proofs.YtdjpcdimcjjemaaDoor
namespace Rows

/-- THE TIED CARD OF 'outriderlaw03.LabelLower'. -/
def labelLowerCard : Claim7 := { stood := { row := labelLowerRow, standIns := [], harness := (true, "9450fcd3371584d2a680e544a234c6f7ac1be48f5bc03cc77e614c8b185fb476"), looks := false }, kinds := [], alts := [], laidByText := true, laidKinds := [.data, .pinned], laidTests := true, laidLooks := .later }
def LabelLowerCardSaid : Prop := Claim7.holds Tryd.pinned (.plain (OpenSpec.ofChange labelLowerSpec)) labelLowerCard

/-- THE TIED CARD OF 'outriderlaw03.LabelTexts'. -/
def labelTextsCard : Claim7 := { stood := { row := labelTextsRow, standIns := [], harness := (true, "9450fcd3371584d2a680e544a234c6f7ac1be48f5bc03cc77e614c8b185fb476"), looks := false }, kinds := [], alts := [], laidByText := true, laidKinds := [.data, .pinned], laidTests := true, laidLooks := .later }
def LabelTextsCardSaid : Prop := Claim7.holds Tryd.pinned (.plain (OpenSpec.ofChange labelTextsSpec)) labelTextsCard

/-- THE TIED CARD OF 'outriderlaw03.LabelStars'. -/
def labelStarsCard : Claim7 := { stood := { row := labelStarsRow, standIns := [], harness := (true, "9450fcd3371584d2a680e544a234c6f7ac1be48f5bc03cc77e614c8b185fb476"), looks := false }, kinds := [], alts := [], laidByText := true, laidKinds := [.data, .pinned], laidTests := true, laidLooks := .later }
def LabelStarsCardSaid : Prop := Claim7.holds Tryd.pinned (.plain (OpenSpec.ofChange labelStarsSpec)) labelStarsCard

/-- THE TIED CARD OF 'outriderlaw03.LabelUnder'. -/
def labelUnderCard : Claim7 := { stood := { row := labelUnderRow, standIns := [], harness := (true, "9450fcd3371584d2a680e544a234c6f7ac1be48f5bc03cc77e614c8b185fb476"), looks := false }, kinds := [], alts := [], laidByText := true, laidKinds := [.data, .pinned], laidTests := true, laidLooks := .later }
def LabelUnderCardSaid : Prop := Claim7.holds Tryd.pinned (.plain (OpenSpec.ofChange labelUnderSpec)) labelUnderCard

/-- THE SECOND FORM's CARD OF 'outriderlaw03.LabelLower'. -/
def labelLowerUptoCard : Claim7 := { stood := { row := labelLowerUptoRow, standIns := [], harness := (true, "9450fcd3371584d2a680e544a234c6f7ac1be48f5bc03cc77e614c8b185fb476"), looks := false }, kinds := [], alts := [], laidByText := true, laidKinds := [.data, .pinned], laidTests := true, laidLooks := .later }
def LabelLowerUptoCardSaid : Prop := Claim7.holds Tryd.pinned (.plain (OpenSpec.upto labelLowerSpec)) labelLowerUptoCard

/-- THE SECOND FORM's CARD OF 'outriderlaw03.LabelTexts'. -/
def labelTextsUptoCard : Claim7 := { stood := { row := labelTextsUptoRow, standIns := [], harness := (true, "9450fcd3371584d2a680e544a234c6f7ac1be48f5bc03cc77e614c8b185fb476"), looks := false }, kinds := [], alts := [], laidByText := true, laidKinds := [.data, .pinned], laidTests := true, laidLooks := .later }
def LabelTextsUptoCardSaid : Prop := Claim7.holds Tryd.pinned (.plain (OpenSpec.upto labelTextsSpec)) labelTextsUptoCard

/-- THE SECOND FORM's CARD OF 'outriderlaw03.LabelStars'. -/
def labelStarsUptoCard : Claim7 := { stood := { row := labelStarsUptoRow, standIns := [], harness := (true, "9450fcd3371584d2a680e544a234c6f7ac1be48f5bc03cc77e614c8b185fb476"), looks := false }, kinds := [], alts := [], laidByText := true, laidKinds := [.data, .pinned], laidTests := true, laidLooks := .later }
def LabelStarsUptoCardSaid : Prop := Claim7.holds Tryd.pinned (.plain (OpenSpec.upto labelStarsSpec)) labelStarsUptoCard

/-- THE SECOND FORM's CARD OF 'outriderlaw03.LabelUnder'. -/
def labelUnderUptoCard : Claim7 := { stood := { row := labelUnderUptoRow, standIns := [], harness := (true, "9450fcd3371584d2a680e544a234c6f7ac1be48f5bc03cc77e614c8b185fb476"), looks := false }, kinds := [], alts := [], laidByText := true, laidKinds := [.data, .pinned], laidTests := true, laidLooks := .later }
def LabelUnderUptoCardSaid : Prop := Claim7.holds Tryd.pinned (.plain (OpenSpec.upto labelUnderSpec)) labelUnderUptoCard
end Rows
end Go.Proofs.YtdjpcdimcjjemaaDoor
