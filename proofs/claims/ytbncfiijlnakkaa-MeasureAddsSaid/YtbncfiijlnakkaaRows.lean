/-
  No cell of these rows narrows 'for every input' (looked for: loops, veiled, ifaces, maps, wideKeys, modest, calm, conditions, laid).
  DERIVED. THE GIVEN ROWS OF THIS SEAT. 10 by the template 'for every input the law returns true; each argument reads behind the call as it read before'; 0 by the template 'total and deterministic' (their statements: YtbncfiijlnakkaaTotals.lean).
  GIVEN WITH THE SEED: the statements are not yours to turn. If you find one false, say at which input.
  Laid BY PROGRAM, IN A SANDBOX (cutbox-rows.mjs): the forced cells as the released guide's own fill.sh prints them over the translation 270a63293ac492b3… (all of the seat's roots in one cut). By AI agents, Wed Nov 11 2026. No macro, syntax, notation, axiom, sorry.
-/
import Derived.Test.YtbncfiijlnakkaaChecked
import GoSem.Claim
import GoSem.ClaimJoined
import GoSem.ClaimMapViews
import Derived.JoinedTies
import Derived.KernelRfl
namespace Go.Proofs.Ytbncfiijlnakkaa
/- THE CELL 'sum', in the pinned program and in every row, IS THE sha256 OF THE DUMP (.gsa) THAT YtbncfiijlnakkaaProg.lean LOADS. Nothing in Lean hashes anything: it is a label: what it is worth is what the hold of that sum in a sandbox is worth. -/
noncomputable def Try.pinned : Pinned := { name := "ytbncfiijlnakkaa", sum := "270a63293ac492b3622a87f9b7b8f647b05d4a7e176a130a5acecfe762c01bf1", checked := Try.checked }
namespace Rows
def none {H : Type} : Left H := { results := [], args := [] }

/-- 'crosswaylaw02.CrccOf': WHATEVER THE INPUT: true; the input reads as it did. -/
def crccOfSpec : ChangeSpec := { name := "crccOf", fn := fun _ => fun
  | [d] => { results := [.lit (.bool true)], args := [d] }
  | _ => none }
def crccOfRow : OpenClaim := { program := "ytbncfiijlnakkaa", sum := "270a63293ac492b3622a87f9b7b8f647b05d4a7e176a130a5acecfe762c01bf1", func := "crossway/crosswaylaw02.CrccOf", spec := "crccOf", apart := false }
def CrccOfSaid : Prop := crccOfRow.holds Try.pinned (OpenSpec.ofChange crccOfSpec)

/-- ITS FALSE NEIGHBOUR: 'it returns false'. Refute it at one input. -/
def crccOfWrong : ChangeSpec := { name := "crccOf", fn := fun _ => fun
  | [d] => { results := [.lit (.bool false)], args := [d] }
  | _ => none }
def CrccOfWrongFalsely : Prop := crccOfRow.holds Try.pinned (OpenSpec.ofChange crccOfWrong)

/-- 'crosswaylaw02.CrccSeals': WHATEVER THE INPUT: true; the input reads as it did. -/
def crccSealsSpec : ChangeSpec := { name := "crccSeals", fn := fun _ => fun
  | [d1, d2] => { results := [.lit (.bool true)], args := [d1, d2] }
  | _ => none }
def crccSealsRow : OpenClaim := { program := "ytbncfiijlnakkaa", sum := "270a63293ac492b3622a87f9b7b8f647b05d4a7e176a130a5acecfe762c01bf1", func := "crossway/crosswaylaw02.CrccSeals", spec := "crccSeals", apart := false }
def CrccSealsSaid : Prop := crccSealsRow.holds Try.pinned (OpenSpec.ofChange crccSealsSpec)

/-- ITS FALSE NEIGHBOUR: 'it returns false'. Refute it at one input. -/
def crccSealsWrong : ChangeSpec := { name := "crccSeals", fn := fun _ => fun
  | [d1, d2] => { results := [.lit (.bool false)], args := [d1, d2] }
  | _ => none }
def CrccSealsWrongFalsely : Prop := crccSealsRow.holds Try.pinned (OpenSpec.ofChange crccSealsWrong)

/-- 'crosswaylaw02.CrccBits': WHATEVER THE INPUT: true; the input reads as it did. -/
def crccBitsSpec : ChangeSpec := { name := "crccBits", fn := fun _ => fun
  | [d1, d2, d3] => { results := [.lit (.bool true)], args := [d1, d2, d3] }
  | _ => none }
def crccBitsRow : OpenClaim := { program := "ytbncfiijlnakkaa", sum := "270a63293ac492b3622a87f9b7b8f647b05d4a7e176a130a5acecfe762c01bf1", func := "crossway/crosswaylaw02.CrccBits", spec := "crccBits", apart := false }
def CrccBitsSaid : Prop := crccBitsRow.holds Try.pinned (OpenSpec.ofChange crccBitsSpec)

/-- ITS FALSE NEIGHBOUR: 'it returns false'. Refute it at one input. -/
def crccBitsWrong : ChangeSpec := { name := "crccBits", fn := fun _ => fun
  | [d1, d2, d3] => { results := [.lit (.bool false)], args := [d1, d2, d3] }
  | _ => none }
def CrccBitsWrongFalsely : Prop := crccBitsRow.holds Try.pinned (OpenSpec.ofChange crccBitsWrong)

/-- 'crosswaylaw07.PacketGets': WHATEVER THE INPUT: true; the input reads as it did. -/
def packetGetsSpec : ChangeSpec := { name := "packetGets", fn := fun _ => fun
  | [d1, d2, d3] => { results := [.lit (.bool true)], args := [d1, d2, d3] }
  | _ => none }
def packetGetsRow : OpenClaim := { program := "ytbncfiijlnakkaa", sum := "270a63293ac492b3622a87f9b7b8f647b05d4a7e176a130a5acecfe762c01bf1", func := "crossway/crosswaylaw07.PacketGets", spec := "packetGets", recurses := true, apart := false }
def PacketGetsSaid : Prop := packetGetsRow.holds Try.pinned (OpenSpec.ofChange packetGetsSpec)

/-- ITS FALSE NEIGHBOUR: 'it returns false'. Refute it at one input. -/
def packetGetsWrong : ChangeSpec := { name := "packetGets", fn := fun _ => fun
  | [d1, d2, d3] => { results := [.lit (.bool false)], args := [d1, d2, d3] }
  | _ => none }
def PacketGetsWrongFalsely : Prop := packetGetsRow.holds Try.pinned (OpenSpec.ofChange packetGetsWrong)

/-- 'crosswaylaw07.PacketSealed': WHATEVER THE INPUT: true; the input reads as it did. -/
def packetSealedSpec : ChangeSpec := { name := "packetSealed", fn := fun _ => fun
  | [d1, d2] => { results := [.lit (.bool true)], args := [d1, d2] }
  | _ => none }
def packetSealedRow : OpenClaim := { program := "ytbncfiijlnakkaa", sum := "270a63293ac492b3622a87f9b7b8f647b05d4a7e176a130a5acecfe762c01bf1", func := "crossway/crosswaylaw07.PacketSealed", spec := "packetSealed", recurses := true, apart := false }
def PacketSealedSaid : Prop := packetSealedRow.holds Try.pinned (OpenSpec.ofChange packetSealedSpec)

/-- ITS FALSE NEIGHBOUR: 'it returns false'. Refute it at one input. -/
def packetSealedWrong : ChangeSpec := { name := "packetSealed", fn := fun _ => fun
  | [d1, d2] => { results := [.lit (.bool false)], args := [d1, d2] }
  | _ => none }
def PacketSealedWrongFalsely : Prop := packetSealedRow.holds Try.pinned (OpenSpec.ofChange packetSealedWrong)

/-- 'crosswaylaw07.PacketBits': WHATEVER THE INPUT: true; the input reads as it did. -/
def packetBitsSpec : ChangeSpec := { name := "packetBits", fn := fun _ => fun
  | [d1, d2] => { results := [.lit (.bool true)], args := [d1, d2] }
  | _ => none }
def packetBitsRow : OpenClaim := { program := "ytbncfiijlnakkaa", sum := "270a63293ac492b3622a87f9b7b8f647b05d4a7e176a130a5acecfe762c01bf1", func := "crossway/crosswaylaw07.PacketBits", spec := "packetBits", recurses := true, apart := false }
def PacketBitsSaid : Prop := packetBitsRow.holds Try.pinned (OpenSpec.ofChange packetBitsSpec)

/-- ITS FALSE NEIGHBOUR: 'it returns false'. Refute it at one input. -/
def packetBitsWrong : ChangeSpec := { name := "packetBits", fn := fun _ => fun
  | [d1, d2] => { results := [.lit (.bool false)], args := [d1, d2] }
  | _ => none }
def PacketBitsWrongFalsely : Prop := packetBitsRow.holds Try.pinned (OpenSpec.ofChange packetBitsWrong)

/-- 'crosswaylaw07.PacketPuts': WHATEVER THE INPUT: true; the input reads as it did. -/
def packetPutsSpec : ChangeSpec := { name := "packetPuts", fn := fun _ => fun
  | [d] => { results := [.lit (.bool true)], args := [d] }
  | _ => none }
def packetPutsRow : OpenClaim := { program := "ytbncfiijlnakkaa", sum := "270a63293ac492b3622a87f9b7b8f647b05d4a7e176a130a5acecfe762c01bf1", func := "crossway/crosswaylaw07.PacketPuts", spec := "packetPuts", recurses := true, apart := false }
def PacketPutsSaid : Prop := packetPutsRow.holds Try.pinned (OpenSpec.ofChange packetPutsSpec)

/-- ITS FALSE NEIGHBOUR: 'it returns false'. Refute it at one input. -/
def packetPutsWrong : ChangeSpec := { name := "packetPuts", fn := fun _ => fun
  | [d] => { results := [.lit (.bool false)], args := [d] }
  | _ => none }
def PacketPutsWrongFalsely : Prop := packetPutsRow.holds Try.pinned (OpenSpec.ofChange packetPutsWrong)

/-- 'crosswaylaw07.PacketFirst': WHATEVER THE INPUT: true; the input reads as it did. -/
def packetFirstSpec : ChangeSpec := { name := "packetFirst", fn := fun _ => fun
  | [d1, d2] => { results := [.lit (.bool true)], args := [d1, d2] }
  | _ => none }
def packetFirstRow : OpenClaim := { program := "ytbncfiijlnakkaa", sum := "270a63293ac492b3622a87f9b7b8f647b05d4a7e176a130a5acecfe762c01bf1", func := "crossway/crosswaylaw07.PacketFirst", spec := "packetFirst", apart := false }
def PacketFirstSaid : Prop := packetFirstRow.holds Try.pinned (OpenSpec.ofChange packetFirstSpec)

/-- ITS FALSE NEIGHBOUR: 'it returns false'. Refute it at one input. -/
def packetFirstWrong : ChangeSpec := { name := "packetFirst", fn := fun _ => fun
  | [d1, d2] => { results := [.lit (.bool false)], args := [d1, d2] }
  | _ => none }
def PacketFirstWrongFalsely : Prop := packetFirstRow.holds Try.pinned (OpenSpec.ofChange packetFirstWrong)

/-- 'crosswaylaw41.MeasureSlots': WHATEVER THE INPUT: true; the input reads as it did. -/
def measureSlotsSpec : ChangeSpec := { name := "measureSlots", fn := fun _ => fun
  | [d] => { results := [.lit (.bool true)], args := [d] }
  | _ => none }
def measureSlotsRow : OpenClaim := { program := "ytbncfiijlnakkaa", sum := "270a63293ac492b3622a87f9b7b8f647b05d4a7e176a130a5acecfe762c01bf1", func := "crossway/crosswaylaw41.MeasureSlots", spec := "measureSlots", apart := false }
def MeasureSlotsSaid : Prop := measureSlotsRow.holds Try.pinned (OpenSpec.ofChange measureSlotsSpec)

/-- ITS FALSE NEIGHBOUR: 'it returns false'. Refute it at one input. -/
def measureSlotsWrong : ChangeSpec := { name := "measureSlots", fn := fun _ => fun
  | [d] => { results := [.lit (.bool false)], args := [d] }
  | _ => none }
def MeasureSlotsWrongFalsely : Prop := measureSlotsRow.holds Try.pinned (OpenSpec.ofChange measureSlotsWrong)

/-- 'crosswaylaw41.MeasureAdds': WHATEVER THE INPUT: true; the input reads as it did. -/
def measureAddsSpec : ChangeSpec := { name := "measureAdds", fn := fun _ => fun
  | [d1, d2] => { results := [.lit (.bool true)], args := [d1, d2] }
  | _ => none }
def measureAddsRow : OpenClaim := { program := "ytbncfiijlnakkaa", sum := "270a63293ac492b3622a87f9b7b8f647b05d4a7e176a130a5acecfe762c01bf1", func := "crossway/crosswaylaw41.MeasureAdds", spec := "measureAdds", recurses := true, apart := false }
def MeasureAddsSaid : Prop := measureAddsRow.holds Try.pinned (OpenSpec.ofChange measureAddsSpec)

/-- ITS FALSE NEIGHBOUR: 'it returns false'. Refute it at one input. -/
def measureAddsWrong : ChangeSpec := { name := "measureAdds", fn := fun _ => fun
  | [d1, d2] => { results := [.lit (.bool false)], args := [d1, d2] }
  | _ => none }
def MeasureAddsWrongFalsely : Prop := measureAddsRow.holds Try.pinned (OpenSpec.ofChange measureAddsWrong)

/- THE SECOND FORM. 'bulk': how many values and letters a reading holds, each counted each time it is reached (what is shared counts as often as it is met; a slice's spare places count too). A statement '..UptoSaid' is the law's where the arguments, and the package variables that the reading takes, are together of bulk at most 1048576: NARROWER than '..Said'. Prove '..Said' where nothing that the law and all that it calls make is longer than what came in: it says more and counts as full. Else prove '..UptoSaid'. A law counts once. -/
mutual
def uptoBulk {H : Type} : DataW H → Nat
  | .lit (.string bytes) => bytes.length + 1
  | .lit _ => 1
  | .nil => 1
  | .ptr d => uptoBulk d + 1
  | .slice elems spare => uptoBulkAll elems + uptoBulkAll spare + 1
  | .agg parts => uptoBulkAll parts + 1
  | .iface _ d => uptoBulk d + 1
  | .map entries => uptoBulkEntries entries + 1
  | .held _ => 1
def uptoBulkAll {H : Type} : List (DataW H) → Nat
  | [] => 0
  | d :: r => uptoBulk d + uptoBulkAll r
def uptoBulkEntries {H : Type} : List (Lit × DataW H) → Nat
  | [] => 0
  | x :: r => uptoBulkEntry x + uptoBulkEntries r
def uptoBulkEntry {H : Type} : Lit × DataW H → Nat
  | (.string bytes, d) => bytes.length + uptoBulk d + 1
  | (_, d) => uptoBulk d + 1
 end
def uptoSmall : (H : Type) → List (DataW H) → Bool := fun _ ds => decide (uptoBulkAll ds ≤ 1048576)
def OpenSpec.upto (s : _root_.Go.ChangeSpec) : _root_.Go.OpenSpec := { _root_.Go.OpenSpec.ofChange s with cond := some uptoSmall }

/-- 'crosswaylaw02.CrccOf', WHERE WHAT IT READS IS OF BULK AT MOST 1048576: true; the input reads as it did. -/
def crccOfUptoRow : OpenClaim := { program := "ytbncfiijlnakkaa", sum := "270a63293ac492b3622a87f9b7b8f647b05d4a7e176a130a5acecfe762c01bf1", func := "crossway/crosswaylaw02.CrccOf", spec := "crccOf", apart := false, narrowed := true }
def CrccOfUptoSaid : Prop := crccOfUptoRow.holds Try.pinned (OpenSpec.upto crccOfSpec)

/-- 'crosswaylaw02.CrccSeals', WHERE WHAT IT READS IS OF BULK AT MOST 1048576: true; the input reads as it did. -/
def crccSealsUptoRow : OpenClaim := { program := "ytbncfiijlnakkaa", sum := "270a63293ac492b3622a87f9b7b8f647b05d4a7e176a130a5acecfe762c01bf1", func := "crossway/crosswaylaw02.CrccSeals", spec := "crccSeals", apart := false, narrowed := true }
def CrccSealsUptoSaid : Prop := crccSealsUptoRow.holds Try.pinned (OpenSpec.upto crccSealsSpec)

/-- 'crosswaylaw02.CrccBits', WHERE WHAT IT READS IS OF BULK AT MOST 1048576: true; the input reads as it did. -/
def crccBitsUptoRow : OpenClaim := { program := "ytbncfiijlnakkaa", sum := "270a63293ac492b3622a87f9b7b8f647b05d4a7e176a130a5acecfe762c01bf1", func := "crossway/crosswaylaw02.CrccBits", spec := "crccBits", apart := false, narrowed := true }
def CrccBitsUptoSaid : Prop := crccBitsUptoRow.holds Try.pinned (OpenSpec.upto crccBitsSpec)

/-- 'crosswaylaw07.PacketGets', WHERE WHAT IT READS IS OF BULK AT MOST 1048576: true; the input reads as it did. -/
def packetGetsUptoRow : OpenClaim := { program := "ytbncfiijlnakkaa", sum := "270a63293ac492b3622a87f9b7b8f647b05d4a7e176a130a5acecfe762c01bf1", func := "crossway/crosswaylaw07.PacketGets", spec := "packetGets", recurses := true, apart := false, narrowed := true }
def PacketGetsUptoSaid : Prop := packetGetsUptoRow.holds Try.pinned (OpenSpec.upto packetGetsSpec)

/-- 'crosswaylaw07.PacketSealed', WHERE WHAT IT READS IS OF BULK AT MOST 1048576: true; the input reads as it did. -/
def packetSealedUptoRow : OpenClaim := { program := "ytbncfiijlnakkaa", sum := "270a63293ac492b3622a87f9b7b8f647b05d4a7e176a130a5acecfe762c01bf1", func := "crossway/crosswaylaw07.PacketSealed", spec := "packetSealed", recurses := true, apart := false, narrowed := true }
def PacketSealedUptoSaid : Prop := packetSealedUptoRow.holds Try.pinned (OpenSpec.upto packetSealedSpec)

/-- 'crosswaylaw07.PacketBits', WHERE WHAT IT READS IS OF BULK AT MOST 1048576: true; the input reads as it did. -/
def packetBitsUptoRow : OpenClaim := { program := "ytbncfiijlnakkaa", sum := "270a63293ac492b3622a87f9b7b8f647b05d4a7e176a130a5acecfe762c01bf1", func := "crossway/crosswaylaw07.PacketBits", spec := "packetBits", recurses := true, apart := false, narrowed := true }
def PacketBitsUptoSaid : Prop := packetBitsUptoRow.holds Try.pinned (OpenSpec.upto packetBitsSpec)

/-- 'crosswaylaw07.PacketPuts', WHERE WHAT IT READS IS OF BULK AT MOST 1048576: true; the input reads as it did. -/
def packetPutsUptoRow : OpenClaim := { program := "ytbncfiijlnakkaa", sum := "270a63293ac492b3622a87f9b7b8f647b05d4a7e176a130a5acecfe762c01bf1", func := "crossway/crosswaylaw07.PacketPuts", spec := "packetPuts", recurses := true, apart := false, narrowed := true }
def PacketPutsUptoSaid : Prop := packetPutsUptoRow.holds Try.pinned (OpenSpec.upto packetPutsSpec)

/-- 'crosswaylaw07.PacketFirst', WHERE WHAT IT READS IS OF BULK AT MOST 1048576: true; the input reads as it did. -/
def packetFirstUptoRow : OpenClaim := { program := "ytbncfiijlnakkaa", sum := "270a63293ac492b3622a87f9b7b8f647b05d4a7e176a130a5acecfe762c01bf1", func := "crossway/crosswaylaw07.PacketFirst", spec := "packetFirst", apart := false, narrowed := true }
def PacketFirstUptoSaid : Prop := packetFirstUptoRow.holds Try.pinned (OpenSpec.upto packetFirstSpec)

/-- 'crosswaylaw41.MeasureSlots', WHERE WHAT IT READS IS OF BULK AT MOST 1048576: true; the input reads as it did. -/
def measureSlotsUptoRow : OpenClaim := { program := "ytbncfiijlnakkaa", sum := "270a63293ac492b3622a87f9b7b8f647b05d4a7e176a130a5acecfe762c01bf1", func := "crossway/crosswaylaw41.MeasureSlots", spec := "measureSlots", apart := false, narrowed := true }
def MeasureSlotsUptoSaid : Prop := measureSlotsUptoRow.holds Try.pinned (OpenSpec.upto measureSlotsSpec)

/-- 'crosswaylaw41.MeasureAdds', WHERE WHAT IT READS IS OF BULK AT MOST 1048576: true; the input reads as it did. -/
def measureAddsUptoRow : OpenClaim := { program := "ytbncfiijlnakkaa", sum := "270a63293ac492b3622a87f9b7b8f647b05d4a7e176a130a5acecfe762c01bf1", func := "crossway/crosswaylaw41.MeasureAdds", spec := "measureAdds", recurses := true, apart := false, narrowed := true }
def MeasureAddsUptoSaid : Prop := measureAddsUptoRow.holds Try.pinned (OpenSpec.upto measureAddsSpec)

end Rows
end Go.Proofs.Ytbncfiijlnakkaa
