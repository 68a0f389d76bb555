/-
  DERIVED. GIVEN WITH THE SEED: THE CARDS: each row of YtohonlojnflejaaGreatDoorRows.lean that lists a variable, with what it lists TIED to the program's text (the seventh form; the later family's looks); each row that meets fmt, with fmt's text TOLD by the authors' own Lean function (tested against real Go, not proved from fmt's source: count such statements apart). THE CARD IS WHAT COUNTS. Prove the row's statement (the work); the ties are given (YtohonlojnflejaaGreatDoorTie.lean); close each card by the builder's one call (the guide's Derived/Test/ToyasCard.lean, 'card_holds'). Laid BY PROGRAM, IN A SANDBOX (cutbox-door.mjs). By AI agents, Wed Nov 11 2026. No macro, syntax, notation, axiom, sorry.
-/
import Derived.Test.YtohonlojnflejaaGreatDoorRows
import GoSem.ClaimSeven
namespace Go.Proofs.YtohonlojnflejaaGreatDoor
namespace Rows

/-- THE TIED CARD OF 'muleteerlaw8.WinSlow'. -/
def winSlowCard : Claim7 := { stood := { row := winSlowRow, standIns := [], harness := (true, "483385eb54e0030fc5f9026ddc43c86deb3096744d4447fb422ce54e6ef0bbf4"), looks := true }, kinds := [], alts := [], laidByText := true, laidKinds := [.data, .data, .data, .data, .sentinel, .sentinel, .pinned], laidTests := true, laidLooks := .later }
def WinSlowCardSaid : Prop := Claim7.holds Tryz.pinned (.plain (OpenSpec.ofChange winSlowSpec)) winSlowCard

/-- THE TIED CARD OF 'muleteerlaw18.FeatChoose'. -/
def featChooseCard : Claim7 := { stood := { row := featChooseRow, standIns := [], harness := (true, "483385eb54e0030fc5f9026ddc43c86deb3096744d4447fb422ce54e6ef0bbf4"), looks := true }, kinds := [], alts := [], laidByText := true, laidKinds := [.data, .data, .data, .data, .sentinel, .sentinel, .pinned], laidTests := true, laidLooks := .later }
def FeatChooseCardSaid : Prop := Claim7.holds Tryz.pinned (.plain (OpenSpec.ofChange featChooseSpec)) featChooseCard

/-- THE TIED CARD OF 'muleteerlaw18.ValidStates'. -/
def validStatesCard : Claim7 := { stood := { row := validStatesRow, standIns := [], harness := (true, "483385eb54e0030fc5f9026ddc43c86deb3096744d4447fb422ce54e6ef0bbf4"), looks := true }, kinds := [], alts := [], laidByText := true, laidKinds := [.data, .data, .data, .data, .sentinel, .sentinel, .pinned], laidTests := true, laidLooks := .later }
def ValidStatesCardSaid : Prop := Claim7.holds Tryz.pinned (.plain (OpenSpec.ofChange validStatesSpec)) validStatesCard

/-- THE TIED CARD OF 'muleteerlaw18.ValidWindow'. -/
def validWindowCard : Claim7 := { stood := { row := validWindowRow, standIns := [], harness := (true, "483385eb54e0030fc5f9026ddc43c86deb3096744d4447fb422ce54e6ef0bbf4"), looks := true }, kinds := [], alts := [], laidByText := true, laidKinds := [.data, .data, .data, .data, .sentinel, .sentinel, .pinned], laidTests := true, laidLooks := .later }
def ValidWindowCardSaid : Prop := Claim7.holds Tryz.pinned (.plain (OpenSpec.ofChange validWindowSpec)) validWindowCard

/-- THE TIED CARD OF 'muleteerlaw18.ValidShort'. -/
def validShortCard : Claim7 := { stood := { row := validShortRow, standIns := [], harness := (true, "483385eb54e0030fc5f9026ddc43c86deb3096744d4447fb422ce54e6ef0bbf4"), looks := true }, kinds := [], alts := [], laidByText := true, laidKinds := [.data, .data, .data, .data, .sentinel, .sentinel, .pinned], laidTests := true, laidLooks := .later }
def ValidShortCardSaid : Prop := Claim7.holds Tryz.pinned (.plain (OpenSpec.ofChange validShortSpec)) validShortCard

/-- THE TIED CARD OF 'muleteerlaw18.CtrlKinds'. -/
def ctrlKindsCard : Claim7 := { stood := { row := ctrlKindsRow, standIns := [], harness := (true, "483385eb54e0030fc5f9026ddc43c86deb3096744d4447fb422ce54e6ef0bbf4"), looks := true }, kinds := [], alts := [], laidByText := true, laidKinds := [.data, .data, .data, .data, .sentinel, .sentinel, .pinned], laidTests := true, laidLooks := .later }
def CtrlKindsCardSaid : Prop := Claim7.holds Tryz.pinned (.plain (OpenSpec.ofChange ctrlKindsSpec)) ctrlKindsCard

/-- THE TIED CARD OF 'muleteerlaw18.PaceBound'. -/
def paceBoundCard : Claim7 := { stood := { row := paceBoundRow, standIns := [], harness := (true, "483385eb54e0030fc5f9026ddc43c86deb3096744d4447fb422ce54e6ef0bbf4"), looks := true }, kinds := [], alts := [], laidByText := true, laidKinds := [.data, .data, .data, .data, .sentinel, .sentinel, .pinned], laidTests := true, laidLooks := .later }
def PaceBoundCardSaid : Prop := Claim7.holds Tryz.pinned (.plain (OpenSpec.ofChange paceBoundSpec)) paceBoundCard

/-- THE TIED CARD OF 'muleteerlaw18.PaceFull'. -/
def paceFullCard : Claim7 := { stood := { row := paceFullRow, standIns := [], harness := (true, "483385eb54e0030fc5f9026ddc43c86deb3096744d4447fb422ce54e6ef0bbf4"), looks := true }, kinds := [], alts := [], laidByText := true, laidKinds := [.data, .data, .data, .data, .sentinel, .sentinel, .pinned], laidTests := true, laidLooks := .later }
def PaceFullCardSaid : Prop := Claim7.holds Tryz.pinned (.plain (OpenSpec.ofChange paceFullSpec)) paceFullCard

/-- THE TIED CARD OF 'muleteerlaw18.ValidNext'. -/
def validNextCard : Claim7 := { stood := { row := validNextRow, standIns := [], harness := (true, "483385eb54e0030fc5f9026ddc43c86deb3096744d4447fb422ce54e6ef0bbf4"), looks := true }, kinds := [], alts := [], laidByText := true, laidKinds := [.data, .data, .data, .data, .sentinel, .sentinel, .pinned], laidTests := true, laidLooks := .later }
def ValidNextCardSaid : Prop := Claim7.holds Tryz.pinned (.plain (OpenSpec.ofChange validNextSpec)) validNextCard

/-- THE TIED CARD OF 'muleteerlaw18.QueueAll'. -/
def queueAllCard : Claim7 := { stood := { row := queueAllRow, standIns := [], harness := (true, "483385eb54e0030fc5f9026ddc43c86deb3096744d4447fb422ce54e6ef0bbf4"), looks := true }, kinds := [], alts := [], laidByText := true, laidKinds := [.data, .data, .data, .data, .sentinel, .sentinel, .pinned], laidTests := true, laidLooks := .later }
def QueueAllCardSaid : Prop := Claim7.holds Tryz.pinned (.plain (OpenSpec.ofChange queueAllSpec)) queueAllCard

/-- THE TIED CARD OF 'muleteerlaw18.CtrlWait'. -/
def ctrlWaitCard : Claim7 := { stood := { row := ctrlWaitRow, standIns := [], harness := (true, "483385eb54e0030fc5f9026ddc43c86deb3096744d4447fb422ce54e6ef0bbf4"), looks := true }, kinds := [], alts := [], laidByText := true, laidKinds := [.data, .data, .data, .data, .sentinel, .sentinel, .pinned], laidTests := true, laidLooks := .later }
def CtrlWaitCardSaid : Prop := Claim7.holds Tryz.pinned (.plain (OpenSpec.ofChange ctrlWaitSpec)) ctrlWaitCard

/-- THE TIED CARD OF 'muleteerlaw18.PaceAll'. -/
def paceAllCard : Claim7 := { stood := { row := paceAllRow, standIns := [], harness := (true, "483385eb54e0030fc5f9026ddc43c86deb3096744d4447fb422ce54e6ef0bbf4"), looks := true }, kinds := [], alts := [], laidByText := true, laidKinds := [.data, .data, .data, .data, .sentinel, .sentinel, .pinned], laidTests := true, laidLooks := .later }
def PaceAllCardSaid : Prop := Claim7.holds Tryz.pinned (.plain (OpenSpec.ofChange paceAllSpec)) paceAllCard

/-- THE SECOND FORM's CARD OF 'muleteerlaw8.WinSlow'. -/
def winSlowUptoCard : Claim7 := { stood := { row := winSlowUptoRow, standIns := [], harness := (true, "483385eb54e0030fc5f9026ddc43c86deb3096744d4447fb422ce54e6ef0bbf4"), looks := true }, kinds := [], alts := [], laidByText := true, laidKinds := [.data, .data, .data, .data, .sentinel, .sentinel, .pinned], laidTests := true, laidLooks := .later }
def WinSlowUptoCardSaid : Prop := Claim7.holds Tryz.pinned (.plain (OpenSpec.upto winSlowSpec)) winSlowUptoCard

/-- THE SECOND FORM's CARD OF 'muleteerlaw18.FeatChoose'. -/
def featChooseUptoCard : Claim7 := { stood := { row := featChooseUptoRow, standIns := [], harness := (true, "483385eb54e0030fc5f9026ddc43c86deb3096744d4447fb422ce54e6ef0bbf4"), looks := true }, kinds := [], alts := [], laidByText := true, laidKinds := [.data, .data, .data, .data, .sentinel, .sentinel, .pinned], laidTests := true, laidLooks := .later }
def FeatChooseUptoCardSaid : Prop := Claim7.holds Tryz.pinned (.plain (OpenSpec.upto featChooseSpec)) featChooseUptoCard

/-- THE SECOND FORM's CARD OF 'muleteerlaw18.ValidStates'. -/
def validStatesUptoCard : Claim7 := { stood := { row := validStatesUptoRow, standIns := [], harness := (true, "483385eb54e0030fc5f9026ddc43c86deb3096744d4447fb422ce54e6ef0bbf4"), looks := true }, kinds := [], alts := [], laidByText := true, laidKinds := [.data, .data, .data, .data, .sentinel, .sentinel, .pinned], laidTests := true, laidLooks := .later }
def ValidStatesUptoCardSaid : Prop := Claim7.holds Tryz.pinned (.plain (OpenSpec.upto validStatesSpec)) validStatesUptoCard

/-- THE SECOND FORM's CARD OF 'muleteerlaw18.ValidWindow'. -/
def validWindowUptoCard : Claim7 := { stood := { row := validWindowUptoRow, standIns := [], harness := (true, "483385eb54e0030fc5f9026ddc43c86deb3096744d4447fb422ce54e6ef0bbf4"), looks := true }, kinds := [], alts := [], laidByText := true, laidKinds := [.data, .data, .data, .data, .sentinel, .sentinel, .pinned], laidTests := true, laidLooks := .later }
def ValidWindowUptoCardSaid : Prop := Claim7.holds Tryz.pinned (.plain (OpenSpec.upto validWindowSpec)) validWindowUptoCard

/-- THE SECOND FORM's CARD OF 'muleteerlaw18.ValidShort'. -/
def validShortUptoCard : Claim7 := { stood := { row := validShortUptoRow, standIns := [], harness := (true, "483385eb54e0030fc5f9026ddc43c86deb3096744d4447fb422ce54e6ef0bbf4"), looks := true }, kinds := [], alts := [], laidByText := true, laidKinds := [.data, .data, .data, .data, .sentinel, .sentinel, .pinned], laidTests := true, laidLooks := .later }
def ValidShortUptoCardSaid : Prop := Claim7.holds Tryz.pinned (.plain (OpenSpec.upto validShortSpec)) validShortUptoCard

/-- THE SECOND FORM's CARD OF 'muleteerlaw18.CtrlKinds'. -/
def ctrlKindsUptoCard : Claim7 := { stood := { row := ctrlKindsUptoRow, standIns := [], harness := (true, "483385eb54e0030fc5f9026ddc43c86deb3096744d4447fb422ce54e6ef0bbf4"), looks := true }, kinds := [], alts := [], laidByText := true, laidKinds := [.data, .data, .data, .data, .sentinel, .sentinel, .pinned], laidTests := true, laidLooks := .later }
def CtrlKindsUptoCardSaid : Prop := Claim7.holds Tryz.pinned (.plain (OpenSpec.upto ctrlKindsSpec)) ctrlKindsUptoCard

/-- THE SECOND FORM's CARD OF 'muleteerlaw18.PaceBound'. -/
def paceBoundUptoCard : Claim7 := { stood := { row := paceBoundUptoRow, standIns := [], harness := (true, "483385eb54e0030fc5f9026ddc43c86deb3096744d4447fb422ce54e6ef0bbf4"), looks := true }, kinds := [], alts := [], laidByText := true, laidKinds := [.data, .data, .data, .data, .sentinel, .sentinel, .pinned], laidTests := true, laidLooks := .later }
def PaceBoundUptoCardSaid : Prop := Claim7.holds Tryz.pinned (.plain (OpenSpec.upto paceBoundSpec)) paceBoundUptoCard

/-- THE SECOND FORM's CARD OF 'muleteerlaw18.PaceFull'. -/
def paceFullUptoCard : Claim7 := { stood := { row := paceFullUptoRow, standIns := [], harness := (true, "483385eb54e0030fc5f9026ddc43c86deb3096744d4447fb422ce54e6ef0bbf4"), looks := true }, kinds := [], alts := [], laidByText := true, laidKinds := [.data, .data, .data, .data, .sentinel, .sentinel, .pinned], laidTests := true, laidLooks := .later }
def PaceFullUptoCardSaid : Prop := Claim7.holds Tryz.pinned (.plain (OpenSpec.upto paceFullSpec)) paceFullUptoCard

/-- THE SECOND FORM's CARD OF 'muleteerlaw18.ValidNext'. -/
def validNextUptoCard : Claim7 := { stood := { row := validNextUptoRow, standIns := [], harness := (true, "483385eb54e0030fc5f9026ddc43c86deb3096744d4447fb422ce54e6ef0bbf4"), looks := true }, kinds := [], alts := [], laidByText := true, laidKinds := [.data, .data, .data, .data, .sentinel, .sentinel, .pinned], laidTests := true, laidLooks := .later }
def ValidNextUptoCardSaid : Prop := Claim7.holds Tryz.pinned (.plain (OpenSpec.upto validNextSpec)) validNextUptoCard

/-- THE SECOND FORM's CARD OF 'muleteerlaw18.QueueAll'. -/
def queueAllUptoCard : Claim7 := { stood := { row := queueAllUptoRow, standIns := [], harness := (true, "483385eb54e0030fc5f9026ddc43c86deb3096744d4447fb422ce54e6ef0bbf4"), looks := true }, kinds := [], alts := [], laidByText := true, laidKinds := [.data, .data, .data, .data, .sentinel, .sentinel, .pinned], laidTests := true, laidLooks := .later }
def QueueAllUptoCardSaid : Prop := Claim7.holds Tryz.pinned (.plain (OpenSpec.upto queueAllSpec)) queueAllUptoCard

/-- THE SECOND FORM's CARD OF 'muleteerlaw18.CtrlWait'. -/
def ctrlWaitUptoCard : Claim7 := { stood := { row := ctrlWaitUptoRow, standIns := [], harness := (true, "483385eb54e0030fc5f9026ddc43c86deb3096744d4447fb422ce54e6ef0bbf4"), looks := true }, kinds := [], alts := [], laidByText := true, laidKinds := [.data, .data, .data, .data, .sentinel, .sentinel, .pinned], laidTests := true, laidLooks := .later }
def CtrlWaitUptoCardSaid : Prop := Claim7.holds Tryz.pinned (.plain (OpenSpec.upto ctrlWaitSpec)) ctrlWaitUptoCard

/-- THE SECOND FORM's CARD OF 'muleteerlaw18.PaceAll'. -/
def paceAllUptoCard : Claim7 := { stood := { row := paceAllUptoRow, standIns := [], harness := (true, "483385eb54e0030fc5f9026ddc43c86deb3096744d4447fb422ce54e6ef0bbf4"), looks := true }, kinds := [], alts := [], laidByText := true, laidKinds := [.data, .data, .data, .data, .sentinel, .sentinel, .pinned], laidTests := true, laidLooks := .later }
def PaceAllUptoCardSaid : Prop := Claim7.holds Tryz.pinned (.plain (OpenSpec.upto paceAllSpec)) paceAllUptoCard
end Rows
end Go.Proofs.YtohonlojnflejaaGreatDoor
