/-
  DERIVED. GIVEN WITH THE SEED: THE CARDS: each row of YtdbnanniboiooaaDoorRows.lean that lists a variable, with what it lists TIED to the program's text (the seventh form; the later family's looks); each row that meets fmt, with fmt's text TOLD by the authors' own Lean function (tested against real Go, not proved from fmt's source: count such statements apart). THE CARD IS WHAT COUNTS. Prove the row's statement (the work); the ties are given (YtdbnanniboiooaaDoorTie.lean); close each card by the builder's one call (the guide's Derived/Test/ToyasCard.lean, 'card_holds'). Laid BY PROGRAM, IN A SANDBOX (cutbox-door.mjs). By AI agents, Wed Nov 11 2026. No macro, syntax, notation, axiom, sorry.
-/
import Derived.Test.YtdbnanniboiooaaDoorRows
import GoSem.ClaimSeven
namespace Go.Proofs.YtdbnanniboiooaaDoor
namespace Rows

/-- THE TIED CARD OF 'carillonlaw17.MachineOnce'. -/
def machineOnceCard : Claim7 := { stood := { row := machineOnceRow, standIns := [], harness := (true, "cc7d76c80f57a47d336125cb3ad6e6011e1223de8f1fd880591d80923dbdab8f"), looks := false }, kinds := [], alts := [], laidByText := true, laidKinds := [.data], laidTests := true, laidLooks := .later }
def MachineOnceCardSaid : Prop := Claim7.holds Tryd.pinned (.plain (OpenSpec.ofChange machineOnceSpec)) machineOnceCard

/-- THE TIED CARD OF 'carillonlaw17.MachineApart'. -/
def machineApartCard : Claim7 := { stood := { row := machineApartRow, standIns := [], harness := (true, "cc7d76c80f57a47d336125cb3ad6e6011e1223de8f1fd880591d80923dbdab8f"), looks := false }, kinds := [], alts := [], laidByText := true, laidKinds := [.data], laidTests := true, laidLooks := .later }
def MachineApartCardSaid : Prop := Claim7.holds Tryd.pinned (.plain (OpenSpec.ofChange machineApartSpec)) machineApartCard

/-- THE TIED CARD OF 'carillonlaw17.MachineWants'. -/
def machineWantsCard : Claim7 := { stood := { row := machineWantsRow, standIns := [], harness := (true, "cc7d76c80f57a47d336125cb3ad6e6011e1223de8f1fd880591d80923dbdab8f"), looks := false }, kinds := [], alts := [], laidByText := true, laidKinds := [.data], laidTests := true, laidLooks := .later }
def MachineWantsCardSaid : Prop := Claim7.holds Tryd.pinned (.plain (OpenSpec.ofChange machineWantsSpec)) machineWantsCard

/-- THE TIED CARD OF 'carillonlaw15.TopicLoads'. -/
def topicLoadsCard : Claim7 := { stood := { row := topicLoadsRow, standIns := [], harness := (true, "cc7d76c80f57a47d336125cb3ad6e6011e1223de8f1fd880591d80923dbdab8f"), looks := false }, kinds := [], alts := [], laidByText := true, laidKinds := [.data], laidTests := true, laidLooks := .later }
def TopicLoadsCardSaid : Prop := Claim7.holds Tryd.pinned (.plain (OpenSpec.ofChange topicLoadsSpec)) topicLoadsCard

/-- THE TIED CARD OF 'carillonlaw15.TopicBack'. -/
def topicBackCard : Claim7 := { stood := { row := topicBackRow, standIns := [], harness := (true, "cc7d76c80f57a47d336125cb3ad6e6011e1223de8f1fd880591d80923dbdab8f"), looks := false }, kinds := [], alts := [], laidByText := true, laidKinds := [.data], laidTests := true, laidLooks := .later }
def TopicBackCardSaid : Prop := Claim7.holds Tryd.pinned (.plain (OpenSpec.ofChange topicBackSpec)) topicBackCard

/-- THE SECOND FORM's CARD OF 'carillonlaw17.MachineOnce'. -/
def machineOnceUptoCard : Claim7 := { stood := { row := machineOnceUptoRow, standIns := [], harness := (true, "cc7d76c80f57a47d336125cb3ad6e6011e1223de8f1fd880591d80923dbdab8f"), looks := false }, kinds := [], alts := [], laidByText := true, laidKinds := [.data], laidTests := true, laidLooks := .later }
def MachineOnceUptoCardSaid : Prop := Claim7.holds Tryd.pinned (.plain (OpenSpec.upto machineOnceSpec)) machineOnceUptoCard

/-- THE SECOND FORM's CARD OF 'carillonlaw17.MachineApart'. -/
def machineApartUptoCard : Claim7 := { stood := { row := machineApartUptoRow, standIns := [], harness := (true, "cc7d76c80f57a47d336125cb3ad6e6011e1223de8f1fd880591d80923dbdab8f"), looks := false }, kinds := [], alts := [], laidByText := true, laidKinds := [.data], laidTests := true, laidLooks := .later }
def MachineApartUptoCardSaid : Prop := Claim7.holds Tryd.pinned (.plain (OpenSpec.upto machineApartSpec)) machineApartUptoCard

/-- THE SECOND FORM's CARD OF 'carillonlaw17.MachineWants'. -/
def machineWantsUptoCard : Claim7 := { stood := { row := machineWantsUptoRow, standIns := [], harness := (true, "cc7d76c80f57a47d336125cb3ad6e6011e1223de8f1fd880591d80923dbdab8f"), looks := false }, kinds := [], alts := [], laidByText := true, laidKinds := [.data], laidTests := true, laidLooks := .later }
def MachineWantsUptoCardSaid : Prop := Claim7.holds Tryd.pinned (.plain (OpenSpec.upto machineWantsSpec)) machineWantsUptoCard

/-- THE SECOND FORM's CARD OF 'carillonlaw15.TopicLoads'. -/
def topicLoadsUptoCard : Claim7 := { stood := { row := topicLoadsUptoRow, standIns := [], harness := (true, "cc7d76c80f57a47d336125cb3ad6e6011e1223de8f1fd880591d80923dbdab8f"), looks := false }, kinds := [], alts := [], laidByText := true, laidKinds := [.data], laidTests := true, laidLooks := .later }
def TopicLoadsUptoCardSaid : Prop := Claim7.holds Tryd.pinned (.plain (OpenSpec.upto topicLoadsSpec)) topicLoadsUptoCard

/-- THE SECOND FORM's CARD OF 'carillonlaw15.TopicBack'. -/
def topicBackUptoCard : Claim7 := { stood := { row := topicBackUptoRow, standIns := [], harness := (true, "cc7d76c80f57a47d336125cb3ad6e6011e1223de8f1fd880591d80923dbdab8f"), looks := false }, kinds := [], alts := [], laidByText := true, laidKinds := [.data], laidTests := true, laidLooks := .later }
def TopicBackUptoCardSaid : Prop := Claim7.holds Tryd.pinned (.plain (OpenSpec.upto topicBackSpec)) topicBackUptoCard
end Rows
end Go.Proofs.YtdbnanniboiooaaDoor
