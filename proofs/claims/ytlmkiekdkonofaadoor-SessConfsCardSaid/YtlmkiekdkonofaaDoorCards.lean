/-
  DERIVED. GIVEN WITH THE SEED: THE CARDS: each row of YtlmkiekdkonofaaDoorRows.lean that lists a variable, with what it lists TIED to the program's text (the seventh form; the later family's looks); each row that meets fmt, with fmt's text TOLD by the authors' own Lean function (tested against real Go, not proved from fmt's source: count such statements apart). THE CARD IS WHAT COUNTS. Prove the row's statement (the work); the ties are given (YtlmkiekdkonofaaDoorTie.lean); close each card by the builder's one call (the guide's Derived/Test/ToyasCard.lean, 'card_holds'). Laid BY PROGRAM, IN A SANDBOX (cutbox-door.mjs). By AI agents, Wed Nov 11 2026. No macro, syntax, notation, axiom, sorry.
-/
import Derived.Test.YtlmkiekdkonofaaDoorRows
import GoSem.ClaimSeven
namespace Go.Proofs.YtlmkiekdkonofaaDoor
namespace Rows

/-- THE TIED CARD OF 'sealchainlaw16.LeadAgrees'. -/
def leadAgreesCard : Claim7 := { stood := { row := leadAgreesRow, standIns := [], harness := (true, "7da8c0611d0b652d0f23f7e9e311c6710216c0ae94b7675e1fd2fa8ecc6176ea"), looks := true }, kinds := [], alts := [], laidByText := true, laidKinds := [.data, .data], laidTests := true, laidLooks := .later }
def LeadAgreesCardSaid : Prop := Claim7.holds Tryd.pinned (.plain (OpenSpec.ofChange leadAgreesSpec)) leadAgreesCard

/-- THE TIED CARD OF 'sealchainlaw20.SessConfs'. -/
def sessConfsCard : Claim7 := { stood := { row := sessConfsRow, standIns := [], harness := (true, "7da8c0611d0b652d0f23f7e9e311c6710216c0ae94b7675e1fd2fa8ecc6176ea"), looks := true }, kinds := [], alts := [], laidByText := true, laidKinds := [.widerDeep], laidTests := true, laidLooks := .later }
def SessConfsCardSaid : Prop := Claim7.holds Tryd.pinned (.plain (OpenSpec.ofChange sessConfsSpec)) sessConfsCard

/-- THE SECOND FORM's CARD OF 'sealchainlaw16.LeadAgrees'. -/
def leadAgreesUptoCard : Claim7 := { stood := { row := leadAgreesUptoRow, standIns := [], harness := (true, "7da8c0611d0b652d0f23f7e9e311c6710216c0ae94b7675e1fd2fa8ecc6176ea"), looks := true }, kinds := [], alts := [], laidByText := true, laidKinds := [.data, .data], laidTests := true, laidLooks := .later }
def LeadAgreesUptoCardSaid : Prop := Claim7.holds Tryd.pinned (.plain (OpenSpec.upto leadAgreesSpec)) leadAgreesUptoCard

/-- THE SECOND FORM's CARD OF 'sealchainlaw20.SessConfs'. -/
def sessConfsUptoCard : Claim7 := { stood := { row := sessConfsUptoRow, standIns := [], harness := (true, "7da8c0611d0b652d0f23f7e9e311c6710216c0ae94b7675e1fd2fa8ecc6176ea"), looks := true }, kinds := [], alts := [], laidByText := true, laidKinds := [.widerDeep], laidTests := true, laidLooks := .later }
def SessConfsUptoCardSaid : Prop := Claim7.holds Tryd.pinned (.plain (OpenSpec.upto sessConfsSpec)) sessConfsUptoCard
end Rows
end Go.Proofs.YtlmkiekdkonofaaDoor
