/-
  DERIVED. GIVEN WITH THE SEED: THE CARDS: each row of YtchccgdjelhenaaDoorRows.lean that lists a variable, with what it lists TIED to the program's text (the seventh form; the later family's looks); each row that meets fmt, with fmt's text TOLD by the authors' own Lean function (tested against real Go, not proved from fmt's source: count such statements apart). THE CARD IS WHAT COUNTS. Prove the row's statement (the work); the ties are given (YtchccgdjelhenaaDoorTie.lean); close each card by the builder's one call (the guide's Derived/Test/ToyasCard.lean, 'card_holds'). Laid BY PROGRAM, IN A SANDBOX (cutbox-door.mjs). By AI agents, Wed Nov 11 2026. No macro, syntax, notation, axiom, sorry.
-/
import Derived.Test.YtchccgdjelhenaaDoorRows
import GoSem.ClaimSeven
namespace Go.Proofs.YtchccgdjelhenaaDoor
namespace Rows

/-- THE TIED CARD OF 'laws.FnExactNameRead'. -/
def fnExactNameReadCard : Claim7 := { stood := { row := fnExactNameReadRow, standIns := [], harness := (true, "36eb64964a87af143b1181dedb2aba441876bf81261ef567faa431572b8b2696"), looks := false }, kinds := [], alts := [], laidByText := true, laidKinds := [.data, .pinned], laidTests := true, laidLooks := .later }
def FnExactNameReadCardSaid : Prop := Claim7.holds Tryd.pinned (.plain (OpenSpec.ofChange fnExactNameReadSpec)) fnExactNameReadCard

/-- THE TIED CARD OF 'laws.FnExactFilterRead'. -/
def fnExactFilterReadCard : Claim7 := { stood := { row := fnExactFilterReadRow, standIns := [], harness := (true, "36eb64964a87af143b1181dedb2aba441876bf81261ef567faa431572b8b2696"), looks := false }, kinds := [], alts := [], laidByText := true, laidKinds := [.data, .pinned], laidTests := true, laidLooks := .later }
def FnExactFilterReadCardSaid : Prop := Claim7.holds Tryd.pinned (.plain (OpenSpec.ofChange fnExactFilterReadSpec)) fnExactFilterReadCard

/-- THE TIED CARD OF 'laws.FnNameStrict'. -/
def fnNameStrictCard : Claim7 := { stood := { row := fnNameStrictRow, standIns := [], harness := (true, "36eb64964a87af143b1181dedb2aba441876bf81261ef567faa431572b8b2696"), looks := false }, kinds := [], alts := [], laidByText := true, laidKinds := [.data, .pinned], laidTests := true, laidLooks := .later }
def FnNameStrictCardSaid : Prop := Claim7.holds Tryd.pinned (.plain (OpenSpec.ofChange fnNameStrictSpec)) fnNameStrictCard

/-- THE TIED CARD OF 'laws.FnFilterStrict'. -/
def fnFilterStrictCard : Claim7 := { stood := { row := fnFilterStrictRow, standIns := [], harness := (true, "36eb64964a87af143b1181dedb2aba441876bf81261ef567faa431572b8b2696"), looks := false }, kinds := [], alts := [], laidByText := true, laidKinds := [.data, .pinned], laidTests := true, laidLooks := .later }
def FnFilterStrictCardSaid : Prop := Claim7.holds Tryd.pinned (.plain (OpenSpec.ofChange fnFilterStrictSpec)) fnFilterStrictCard

/-- THE TIED CARD OF 'laws.FnNameOne'. -/
def fnNameOneCard : Claim7 := { stood := { row := fnNameOneRow, standIns := [], harness := (true, "36eb64964a87af143b1181dedb2aba441876bf81261ef567faa431572b8b2696"), looks := false }, kinds := [], alts := [], laidByText := true, laidKinds := [.data, .pinned], laidTests := true, laidLooks := .later }
def FnNameOneCardSaid : Prop := Claim7.holds Tryd.pinned (.plain (OpenSpec.ofChange fnNameOneSpec)) fnNameOneCard

/-- THE SECOND FORM's CARD OF 'laws.FnExactNameRead'. -/
def fnExactNameReadUptoCard : Claim7 := { stood := { row := fnExactNameReadUptoRow, standIns := [], harness := (true, "36eb64964a87af143b1181dedb2aba441876bf81261ef567faa431572b8b2696"), looks := false }, kinds := [], alts := [], laidByText := true, laidKinds := [.data, .pinned], laidTests := true, laidLooks := .later }
def FnExactNameReadUptoCardSaid : Prop := Claim7.holds Tryd.pinned (.plain (OpenSpec.upto fnExactNameReadSpec)) fnExactNameReadUptoCard

/-- THE SECOND FORM's CARD OF 'laws.FnExactFilterRead'. -/
def fnExactFilterReadUptoCard : Claim7 := { stood := { row := fnExactFilterReadUptoRow, standIns := [], harness := (true, "36eb64964a87af143b1181dedb2aba441876bf81261ef567faa431572b8b2696"), looks := false }, kinds := [], alts := [], laidByText := true, laidKinds := [.data, .pinned], laidTests := true, laidLooks := .later }
def FnExactFilterReadUptoCardSaid : Prop := Claim7.holds Tryd.pinned (.plain (OpenSpec.upto fnExactFilterReadSpec)) fnExactFilterReadUptoCard

/-- THE SECOND FORM's CARD OF 'laws.FnNameStrict'. -/
def fnNameStrictUptoCard : Claim7 := { stood := { row := fnNameStrictUptoRow, standIns := [], harness := (true, "36eb64964a87af143b1181dedb2aba441876bf81261ef567faa431572b8b2696"), looks := false }, kinds := [], alts := [], laidByText := true, laidKinds := [.data, .pinned], laidTests := true, laidLooks := .later }
def FnNameStrictUptoCardSaid : Prop := Claim7.holds Tryd.pinned (.plain (OpenSpec.upto fnNameStrictSpec)) fnNameStrictUptoCard

/-- THE SECOND FORM's CARD OF 'laws.FnFilterStrict'. -/
def fnFilterStrictUptoCard : Claim7 := { stood := { row := fnFilterStrictUptoRow, standIns := [], harness := (true, "36eb64964a87af143b1181dedb2aba441876bf81261ef567faa431572b8b2696"), looks := false }, kinds := [], alts := [], laidByText := true, laidKinds := [.data, .pinned], laidTests := true, laidLooks := .later }
def FnFilterStrictUptoCardSaid : Prop := Claim7.holds Tryd.pinned (.plain (OpenSpec.upto fnFilterStrictSpec)) fnFilterStrictUptoCard

/-- THE SECOND FORM's CARD OF 'laws.FnNameOne'. -/
def fnNameOneUptoCard : Claim7 := { stood := { row := fnNameOneUptoRow, standIns := [], harness := (true, "36eb64964a87af143b1181dedb2aba441876bf81261ef567faa431572b8b2696"), looks := false }, kinds := [], alts := [], laidByText := true, laidKinds := [.data, .pinned], laidTests := true, laidLooks := .later }
def FnNameOneUptoCardSaid : Prop := Claim7.holds Tryd.pinned (.plain (OpenSpec.upto fnNameOneSpec)) fnNameOneUptoCard
end Rows
end Go.Proofs.YtchccgdjelhenaaDoor
