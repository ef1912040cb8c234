/-
  No cell of these rows narrows 'for every input' (looked for: loops, veiled, ifaces, maps, wideKeys, modest, calm, conditions, laid).
  DERIVED. THE GIVEN ROWS OF THIS SEAT. 4 by the template 'for every input the law returns true; each argument reads behind the call as it read before'; 0 by the template 'total and deterministic' (their statements: YtklbbjfbcibghaaGreatTotals.lean).
  GIVEN WITH THE SEED: the statements are not yours to turn. If you find one false, say at which input.
  Laid BY PROGRAM, IN A SANDBOX (cutbox-rows.mjs): the forced cells as the released guide's own fill.sh prints them over the translation efe3fbf8b55d19fb… (all of the seat's roots in one cut). By AI agents, Wed Nov 11 2026. No macro, syntax, notation, axiom, sorry.
-/
import Derived.Test.YtklbbjfbcibghaaGreatChecked
import GoSem.Claim
import GoSem.ClaimJoined
import GoSem.ClaimMapViews
import Derived.JoinedTies
import Derived.KernelRfl
namespace Go.Proofs.YtklbbjfbcibghaaGreat
/- THE CELL 'sum', in the pinned program and in every row, IS THE sha256 OF THE DUMP (.gsa) THAT YtklbbjfbcibghaaGreatProg.lean LOADS. Nothing in Lean hashes anything: it is a label: what it is worth is what the hold of that sum in a sandbox is worth. -/
noncomputable def Tryz.pinned : Pinned := { name := "ytklbbjfbcibghaagreat", sum := "efe3fbf8b55d19fb5bccf692f775205d6711719a02f7e3db647b6c9d93e43f7d", checked := Tryz.checked }
namespace Rows
def none {H : Type} : Left H := { results := [], args := [] }

/-- 'crosswaylaw12.NatboxAgain': WHATEVER THE INPUT: true; the input reads as it did. -/
def natboxAgainSpec : ChangeSpec := { name := "natboxAgain", fn := fun _ => fun
  | [d1, d2] => { results := [.lit (.bool true)], args := [d1, d2] }
  | _ => none }
def natboxAgainRow : OpenClaim := { program := "ytklbbjfbcibghaagreat", sum := "efe3fbf8b55d19fb5bccf692f775205d6711719a02f7e3db647b6c9d93e43f7d", func := "crossway/crosswaylaw12.NatboxAgain", spec := "natboxAgain", unfollowed := true, recurses := true, apart := false }
def NatboxAgainSaid : Prop := natboxAgainRow.holds Tryz.pinned (OpenSpec.ofChange natboxAgainSpec)

/-- ITS FALSE NEIGHBOUR: 'it returns false'. Refute it at one input. -/
def natboxAgainWrong : ChangeSpec := { name := "natboxAgain", fn := fun _ => fun
  | [d1, d2] => { results := [.lit (.bool false)], args := [d1, d2] }
  | _ => none }
def NatboxAgainWrongFalsely : Prop := natboxAgainRow.holds Tryz.pinned (OpenSpec.ofChange natboxAgainWrong)

/-- 'crosswaylaw12.NatboxOwner': WHATEVER THE INPUT: true; the input reads as it did. -/
def natboxOwnerSpec : ChangeSpec := { name := "natboxOwner", fn := fun _ => fun
  | [d] => { results := [.lit (.bool true)], args := [d] }
  | _ => none }
def natboxOwnerRow : OpenClaim := { program := "ytklbbjfbcibghaagreat", sum := "efe3fbf8b55d19fb5bccf692f775205d6711719a02f7e3db647b6c9d93e43f7d", func := "crossway/crosswaylaw12.NatboxOwner", spec := "natboxOwner", unfollowed := true, recurses := true, apart := false }
def NatboxOwnerSaid : Prop := natboxOwnerRow.holds Tryz.pinned (OpenSpec.ofChange natboxOwnerSpec)

/-- ITS FALSE NEIGHBOUR: 'it returns false'. Refute it at one input. -/
def natboxOwnerWrong : ChangeSpec := { name := "natboxOwner", fn := fun _ => fun
  | [d] => { results := [.lit (.bool false)], args := [d] }
  | _ => none }
def NatboxOwnerWrongFalsely : Prop := natboxOwnerRow.holds Tryz.pinned (OpenSpec.ofChange natboxOwnerWrong)

/-- 'crosswaylaw12.NatboxTwice': WHATEVER THE INPUT: true; the input reads as it did. -/
def natboxTwiceSpec : ChangeSpec := { name := "natboxTwice", fn := fun _ => fun
  | [d1, d2, d3] => { results := [.lit (.bool true)], args := [d1, d2, d3] }
  | _ => none }
def natboxTwiceRow : OpenClaim := { program := "ytklbbjfbcibghaagreat", sum := "efe3fbf8b55d19fb5bccf692f775205d6711719a02f7e3db647b6c9d93e43f7d", func := "crossway/crosswaylaw12.NatboxTwice", spec := "natboxTwice", unfollowed := true, recurses := true, apart := false }
def NatboxTwiceSaid : Prop := natboxTwiceRow.holds Tryz.pinned (OpenSpec.ofChange natboxTwiceSpec)

/-- ITS FALSE NEIGHBOUR: 'it returns false'. Refute it at one input. -/
def natboxTwiceWrong : ChangeSpec := { name := "natboxTwice", fn := fun _ => fun
  | [d1, d2, d3] => { results := [.lit (.bool false)], args := [d1, d2, d3] }
  | _ => none }
def NatboxTwiceWrongFalsely : Prop := natboxTwiceRow.holds Tryz.pinned (OpenSpec.ofChange natboxTwiceWrong)

/-- 'crosswaylaw12.NatboxNone': WHATEVER THE INPUT: true; the input reads as it did. -/
def natboxNoneSpec : ChangeSpec := { name := "natboxNone", fn := fun _ => fun
  | [d1, d2] => { results := [.lit (.bool true)], args := [d1, d2] }
  | _ => none }
def natboxNoneRow : OpenClaim := { program := "ytklbbjfbcibghaagreat", sum := "efe3fbf8b55d19fb5bccf692f775205d6711719a02f7e3db647b6c9d93e43f7d", func := "crossway/crosswaylaw12.NatboxNone", spec := "natboxNone", unfollowed := true, recurses := true, apart := false }
def NatboxNoneSaid : Prop := natboxNoneRow.holds Tryz.pinned (OpenSpec.ofChange natboxNoneSpec)

/-- ITS FALSE NEIGHBOUR: 'it returns false'. Refute it at one input. -/
def natboxNoneWrong : ChangeSpec := { name := "natboxNone", fn := fun _ => fun
  | [d1, d2] => { results := [.lit (.bool false)], args := [d1, d2] }
  | _ => none }
def NatboxNoneWrongFalsely : Prop := natboxNoneRow.holds Tryz.pinned (OpenSpec.ofChange natboxNoneWrong)

/- THE SECOND FORM. 'bulk': how many values and letters a reading holds, each counted each time it is reached (what is shared counts as often as it is met; a slice's spare places count too). A statement '..UptoSaid' is the law's where the arguments, and the package variables that the reading takes, are together of bulk at most 1048576: NARROWER than '..Said'. Prove '..Said' where nothing that the law and all that it calls make is longer than what came in: it says more and counts as full. Else prove '..UptoSaid'. A law counts once. -/
mutual
def uptoBulk {H : Type} : DataW H → Nat
  | .lit (.string bytes) => bytes.length + 1
  | .lit _ => 1
  | .nil => 1
  | .ptr d => uptoBulk d + 1
  | .slice elems spare => uptoBulkAll elems + uptoBulkAll spare + 1
  | .agg parts => uptoBulkAll parts + 1
  | .iface _ d => uptoBulk d + 1
  | .map entries => uptoBulkEntries entries + 1
  | .held _ => 1
def uptoBulkAll {H : Type} : List (DataW H) → Nat
  | [] => 0
  | d :: r => uptoBulk d + uptoBulkAll r
def uptoBulkEntries {H : Type} : List (Lit × DataW H) → Nat
  | [] => 0
  | x :: r => uptoBulkEntry x + uptoBulkEntries r
def uptoBulkEntry {H : Type} : Lit × DataW H → Nat
  | (.string bytes, d) => bytes.length + uptoBulk d + 1
  | (_, d) => uptoBulk d + 1
 end
def uptoSmall : (H : Type) → List (DataW H) → Bool := fun _ ds => decide (uptoBulkAll ds ≤ 1048576)
def OpenSpec.upto (s : _root_.Go.ChangeSpec) : _root_.Go.OpenSpec := { _root_.Go.OpenSpec.ofChange s with cond := some uptoSmall }

/-- 'crosswaylaw12.NatboxAgain', WHERE WHAT IT READS IS OF BULK AT MOST 1048576: true; the input reads as it did. -/
def natboxAgainUptoRow : OpenClaim := { program := "ytklbbjfbcibghaagreat", sum := "efe3fbf8b55d19fb5bccf692f775205d6711719a02f7e3db647b6c9d93e43f7d", func := "crossway/crosswaylaw12.NatboxAgain", spec := "natboxAgain", unfollowed := true, recurses := true, apart := false, narrowed := true }
def NatboxAgainUptoSaid : Prop := natboxAgainUptoRow.holds Tryz.pinned (OpenSpec.upto natboxAgainSpec)

/-- 'crosswaylaw12.NatboxOwner', WHERE WHAT IT READS IS OF BULK AT MOST 1048576: true; the input reads as it did. -/
def natboxOwnerUptoRow : OpenClaim := { program := "ytklbbjfbcibghaagreat", sum := "efe3fbf8b55d19fb5bccf692f775205d6711719a02f7e3db647b6c9d93e43f7d", func := "crossway/crosswaylaw12.NatboxOwner", spec := "natboxOwner", unfollowed := true, recurses := true, apart := false, narrowed := true }
def NatboxOwnerUptoSaid : Prop := natboxOwnerUptoRow.holds Tryz.pinned (OpenSpec.upto natboxOwnerSpec)

/-- 'crosswaylaw12.NatboxTwice', WHERE WHAT IT READS IS OF BULK AT MOST 1048576: true; the input reads as it did. -/
def natboxTwiceUptoRow : OpenClaim := { program := "ytklbbjfbcibghaagreat", sum := "efe3fbf8b55d19fb5bccf692f775205d6711719a02f7e3db647b6c9d93e43f7d", func := "crossway/crosswaylaw12.NatboxTwice", spec := "natboxTwice", unfollowed := true, recurses := true, apart := false, narrowed := true }
def NatboxTwiceUptoSaid : Prop := natboxTwiceUptoRow.holds Tryz.pinned (OpenSpec.upto natboxTwiceSpec)

/-- 'crosswaylaw12.NatboxNone', WHERE WHAT IT READS IS OF BULK AT MOST 1048576: true; the input reads as it did. -/
def natboxNoneUptoRow : OpenClaim := { program := "ytklbbjfbcibghaagreat", sum := "efe3fbf8b55d19fb5bccf692f775205d6711719a02f7e3db647b6c9d93e43f7d", func := "crossway/crosswaylaw12.NatboxNone", spec := "natboxNone", unfollowed := true, recurses := true, apart := false, narrowed := true }
def NatboxNoneUptoSaid : Prop := natboxNoneUptoRow.holds Tryz.pinned (OpenSpec.upto natboxNoneSpec)

end Rows
end Go.Proofs.YtklbbjfbcibghaaGreat
