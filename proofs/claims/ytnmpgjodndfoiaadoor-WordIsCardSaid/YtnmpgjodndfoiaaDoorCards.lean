/-
  DERIVED. GIVEN WITH THE SEED: THE CARDS: each row of YtnmpgjodndfoiaaDoorRows.lean that lists a variable, with what it lists TIED to the program's text (the seventh form; the later family's looks); each row that meets fmt, with fmt's text TOLD by the authors' own Lean function (tested against real Go, not proved from fmt's source: count such statements apart). THE CARD IS WHAT COUNTS. Prove the row's statement (the work); the ties are given (YtnmpgjodndfoiaaDoorTie.lean); close each card by the builder's one call (the guide's Derived/Test/ToyasCard.lean, 'card_holds'). Laid BY PROGRAM, IN A SANDBOX (cutbox-door.mjs). By AI agents, Wed Nov 11 2026. No macro, syntax, notation, axiom, sorry.
-/
import Derived.Test.YtnmpgjodndfoiaaDoorRows
import GoSem.ClaimSeven
namespace Go.Proofs.YtnmpgjodndfoiaaDoor
namespace Rows

/-- THE TIED CARD OF 'leveelaw01.WordOrder'. -/
def wordOrderCard : Claim7 := { stood := { row := wordOrderRow, standIns := [], harness := (true, "2d34b44dc1c7a6973b02d2ac0483fcc611aa08081e93493b45002251322bbe66"), looks := true }, kinds := [], alts := [], laidByText := true, laidKinds := [.data, .data, .data], laidTests := true, laidLooks := .later }
def WordOrderCardSaid : Prop := Claim7.holds Tryd.pinned (.plain (OpenSpec.ofChange wordOrderSpec)) wordOrderCard

/-- THE TIED CARD OF 'leveelaw01.WordSets'. -/
def wordSetsCard : Claim7 := { stood := { row := wordSetsRow, standIns := [], harness := (true, "2d34b44dc1c7a6973b02d2ac0483fcc611aa08081e93493b45002251322bbe66"), looks := true }, kinds := [], alts := [], laidByText := true, laidKinds := [.data, .data, .data], laidTests := true, laidLooks := .later }
def WordSetsCardSaid : Prop := Claim7.holds Tryd.pinned (.plain (OpenSpec.ofChange wordSetsSpec)) wordSetsCard

/-- THE TIED CARD OF 'leveelaw01.WordPacks'. -/
def wordPacksCard : Claim7 := { stood := { row := wordPacksRow, standIns := [], harness := (true, "2d34b44dc1c7a6973b02d2ac0483fcc611aa08081e93493b45002251322bbe66"), looks := true }, kinds := [], alts := [], laidByText := true, laidKinds := [.data, .data, .data], laidTests := true, laidLooks := .later }
def WordPacksCardSaid : Prop := Claim7.holds Tryd.pinned (.plain (OpenSpec.ofChange wordPacksSpec)) wordPacksCard

/-- THE TIED CARD OF 'leveelaw01.WordUnpacks'. -/
def wordUnpacksCard : Claim7 := { stood := { row := wordUnpacksRow, standIns := [], harness := (true, "2d34b44dc1c7a6973b02d2ac0483fcc611aa08081e93493b45002251322bbe66"), looks := true }, kinds := [], alts := [], laidByText := true, laidKinds := [.data, .data, .data], laidTests := true, laidLooks := .later }
def WordUnpacksCardSaid : Prop := Claim7.holds Tryd.pinned (.plain (OpenSpec.ofChange wordUnpacksSpec)) wordUnpacksCard

/-- THE TIED CARD OF 'leveelaw01.WordLists'. -/
def wordListsCard : Claim7 := { stood := { row := wordListsRow, standIns := [], harness := (true, "2d34b44dc1c7a6973b02d2ac0483fcc611aa08081e93493b45002251322bbe66"), looks := true }, kinds := [], alts := [], laidByText := true, laidKinds := [.data, .data, .data], laidTests := true, laidLooks := .later }
def WordListsCardSaid : Prop := Claim7.holds Tryd.pinned (.plain (OpenSpec.ofChange wordListsSpec)) wordListsCard

/-- THE TIED CARD OF 'leveelaw01.WordIs'. -/
def wordIsCard : Claim7 := { stood := { row := wordIsRow, standIns := [], harness := (true, "2d34b44dc1c7a6973b02d2ac0483fcc611aa08081e93493b45002251322bbe66"), looks := true }, kinds := [], alts := [], laidByText := true, laidKinds := [.data, .data, .data, .sentinel, .sentinel], laidTests := true, laidLooks := .later }
def WordIsCardSaid : Prop := Claim7.holds Tryd.pinned (.plain (OpenSpec.ofChange wordIsSpec)) wordIsCard

/-- THE TIED CARD OF 'leveelaw01.WordHexes'. -/
def wordHexesCard : Claim7 := { stood := { row := wordHexesRow, standIns := [], harness := (true, "2d34b44dc1c7a6973b02d2ac0483fcc611aa08081e93493b45002251322bbe66"), looks := true }, kinds := [], alts := [], laidByText := true, laidKinds := [.data, .data, .data, .sentinel, .sentinel], laidTests := true, laidLooks := .later }
def WordHexesCardSaid : Prop := Claim7.holds Tryd.pinned (.plain (OpenSpec.ofChange wordHexesSpec)) wordHexesCard

/-- THE SECOND FORM's CARD OF 'leveelaw01.WordOrder'. -/
def wordOrderUptoCard : Claim7 := { stood := { row := wordOrderUptoRow, standIns := [], harness := (true, "2d34b44dc1c7a6973b02d2ac0483fcc611aa08081e93493b45002251322bbe66"), looks := true }, kinds := [], alts := [], laidByText := true, laidKinds := [.data, .data, .data], laidTests := true, laidLooks := .later }
def WordOrderUptoCardSaid : Prop := Claim7.holds Tryd.pinned (.plain (OpenSpec.upto wordOrderSpec)) wordOrderUptoCard

/-- THE SECOND FORM's CARD OF 'leveelaw01.WordSets'. -/
def wordSetsUptoCard : Claim7 := { stood := { row := wordSetsUptoRow, standIns := [], harness := (true, "2d34b44dc1c7a6973b02d2ac0483fcc611aa08081e93493b45002251322bbe66"), looks := true }, kinds := [], alts := [], laidByText := true, laidKinds := [.data, .data, .data], laidTests := true, laidLooks := .later }
def WordSetsUptoCardSaid : Prop := Claim7.holds Tryd.pinned (.plain (OpenSpec.upto wordSetsSpec)) wordSetsUptoCard

/-- THE SECOND FORM's CARD OF 'leveelaw01.WordPacks'. -/
def wordPacksUptoCard : Claim7 := { stood := { row := wordPacksUptoRow, standIns := [], harness := (true, "2d34b44dc1c7a6973b02d2ac0483fcc611aa08081e93493b45002251322bbe66"), looks := true }, kinds := [], alts := [], laidByText := true, laidKinds := [.data, .data, .data], laidTests := true, laidLooks := .later }
def WordPacksUptoCardSaid : Prop := Claim7.holds Tryd.pinned (.plain (OpenSpec.upto wordPacksSpec)) wordPacksUptoCard

/-- THE SECOND FORM's CARD OF 'leveelaw01.WordUnpacks'. -/
def wordUnpacksUptoCard : Claim7 := { stood := { row := wordUnpacksUptoRow, standIns := [], harness := (true, "2d34b44dc1c7a6973b02d2ac0483fcc611aa08081e93493b45002251322bbe66"), looks := true }, kinds := [], alts := [], laidByText := true, laidKinds := [.data, .data, .data], laidTests := true, laidLooks := .later }
def WordUnpacksUptoCardSaid : Prop := Claim7.holds Tryd.pinned (.plain (OpenSpec.upto wordUnpacksSpec)) wordUnpacksUptoCard

/-- THE SECOND FORM's CARD OF 'leveelaw01.WordLists'. -/
def wordListsUptoCard : Claim7 := { stood := { row := wordListsUptoRow, standIns := [], harness := (true, "2d34b44dc1c7a6973b02d2ac0483fcc611aa08081e93493b45002251322bbe66"), looks := true }, kinds := [], alts := [], laidByText := true, laidKinds := [.data, .data, .data], laidTests := true, laidLooks := .later }
def WordListsUptoCardSaid : Prop := Claim7.holds Tryd.pinned (.plain (OpenSpec.upto wordListsSpec)) wordListsUptoCard

/-- THE SECOND FORM's CARD OF 'leveelaw01.WordIs'. -/
def wordIsUptoCard : Claim7 := { stood := { row := wordIsUptoRow, standIns := [], harness := (true, "2d34b44dc1c7a6973b02d2ac0483fcc611aa08081e93493b45002251322bbe66"), looks := true }, kinds := [], alts := [], laidByText := true, laidKinds := [.data, .data, .data, .sentinel, .sentinel], laidTests := true, laidLooks := .later }
def WordIsUptoCardSaid : Prop := Claim7.holds Tryd.pinned (.plain (OpenSpec.upto wordIsSpec)) wordIsUptoCard

/-- THE SECOND FORM's CARD OF 'leveelaw01.WordHexes'. -/
def wordHexesUptoCard : Claim7 := { stood := { row := wordHexesUptoRow, standIns := [], harness := (true, "2d34b44dc1c7a6973b02d2ac0483fcc611aa08081e93493b45002251322bbe66"), looks := true }, kinds := [], alts := [], laidByText := true, laidKinds := [.data, .data, .data, .sentinel, .sentinel], laidTests := true, laidLooks := .later }
def WordHexesUptoCardSaid : Prop := Claim7.holds Tryd.pinned (.plain (OpenSpec.upto wordHexesSpec)) wordHexesUptoCard
end Rows
end Go.Proofs.YtnmpgjodndfoiaaDoor
