/-
  No cell of these rows narrows 'for every input' (looked for: loops, veiled, ifaces, maps, wideKeys, modest, calm, conditions, laid).
  DERIVED. THE GIVEN ROWS OF THIS SEAT. 3 by the template 'for every input the law returns true; each argument reads behind the call as it read before'; 0 by the template 'total and deterministic' (their statements: YtcaohcmlicbjhaaTotals.lean).
  GIVEN WITH THE SEED: the statements are not yours to turn. If you find one false, say at which input.
  Laid BY PROGRAM, IN A SANDBOX (cutbox-rows.mjs): the forced cells as the released guide's own fill.sh prints them over the translation 203aacc096362550… (all of the seat's roots in one cut). By AI agents, Wed Nov 11 2026. No macro, syntax, notation, axiom, sorry.
-/
import Derived.Test.YtcaohcmlicbjhaaChecked
import GoSem.Claim
import GoSem.ClaimJoined
import GoSem.ClaimMapViews
import Derived.JoinedTies
import Derived.KernelRfl
namespace Go.Proofs.Ytcaohcmlicbjhaa
/- THE CELL 'sum', in the pinned program and in every row, IS THE sha256 OF THE DUMP (.gsa) THAT YtcaohcmlicbjhaaProg.lean LOADS. Nothing in Lean hashes anything: it is a label: what it is worth is what the hold of that sum in a sandbox is worth. -/
noncomputable def Try.pinned : Pinned := { name := "ytcaohcmlicbjhaa", sum := "203aacc0963625507d2338f4e689caa78072e1367c9fceb4b62b4741fce382d5", checked := Try.checked }
namespace Rows
def none {H : Type} : Left H := { results := [], args := [] }

/-- 'betrothallaw02.PickWaits': WHATEVER THE INPUT: true; the input reads as it did. -/
def pickWaitsSpec : ChangeSpec := { name := "pickWaits", fn := fun _ => fun
  | [d1, d2] => { results := [.lit (.bool true)], args := [d1, d2] }
  | _ => none }
def pickWaitsRow : OpenClaim := { program := "ytcaohcmlicbjhaa", sum := "203aacc0963625507d2338f4e689caa78072e1367c9fceb4b62b4741fce382d5", func := "betrothal/betrothallaw02.PickWaits", spec := "pickWaits", unfollowed := true, recurses := true, apart := false }
def PickWaitsSaid : Prop := pickWaitsRow.holds Try.pinned (OpenSpec.ofChange pickWaitsSpec)

/-- ITS FALSE NEIGHBOUR: 'it returns false'. Refute it at one input. -/
def pickWaitsWrong : ChangeSpec := { name := "pickWaits", fn := fun _ => fun
  | [d1, d2] => { results := [.lit (.bool false)], args := [d1, d2] }
  | _ => none }
def PickWaitsWrongFalsely : Prop := pickWaitsRow.holds Try.pinned (OpenSpec.ofChange pickWaitsWrong)

/-- 'betrothallaw02.PickRounds': WHATEVER THE INPUT: true; the input reads as it did. -/
def pickRoundsSpec : ChangeSpec := { name := "pickRounds", fn := fun _ => fun
  | [d1, d2] => { results := [.lit (.bool true)], args := [d1, d2] }
  | _ => none }
def pickRoundsRow : OpenClaim := { program := "ytcaohcmlicbjhaa", sum := "203aacc0963625507d2338f4e689caa78072e1367c9fceb4b62b4741fce382d5", func := "betrothal/betrothallaw02.PickRounds", spec := "pickRounds", unfollowed := true, recurses := true, apart := false }
def PickRoundsSaid : Prop := pickRoundsRow.holds Try.pinned (OpenSpec.ofChange pickRoundsSpec)

/-- ITS FALSE NEIGHBOUR: 'it returns false'. Refute it at one input. -/
def pickRoundsWrong : ChangeSpec := { name := "pickRounds", fn := fun _ => fun
  | [d1, d2] => { results := [.lit (.bool false)], args := [d1, d2] }
  | _ => none }
def PickRoundsWrongFalsely : Prop := pickRoundsRow.holds Try.pinned (OpenSpec.ofChange pickRoundsWrong)

/-- 'betrothallaw02.PickHolds': WHATEVER THE INPUT: true; the input reads as it did. -/
def pickHoldsSpec : ChangeSpec := { name := "pickHolds", fn := fun _ => fun
  | [d1, d2, d3, d4, d5] => { results := [.lit (.bool true)], args := [d1, d2, d3, d4, d5] }
  | _ => none }
def pickHoldsRow : OpenClaim := { program := "ytcaohcmlicbjhaa", sum := "203aacc0963625507d2338f4e689caa78072e1367c9fceb4b62b4741fce382d5", func := "betrothal/betrothallaw02.PickHolds", spec := "pickHolds", unfollowed := true, recurses := true, apart := false }
def PickHoldsSaid : Prop := pickHoldsRow.holds Try.pinned (OpenSpec.ofChange pickHoldsSpec)

/-- ITS FALSE NEIGHBOUR: 'it returns false'. Refute it at one input. -/
def pickHoldsWrong : ChangeSpec := { name := "pickHolds", fn := fun _ => fun
  | [d1, d2, d3, d4, d5] => { results := [.lit (.bool false)], args := [d1, d2, d3, d4, d5] }
  | _ => none }
def PickHoldsWrongFalsely : Prop := pickHoldsRow.holds Try.pinned (OpenSpec.ofChange pickHoldsWrong)

/- THE SECOND FORM. 'bulk': how many values and letters a reading holds, each counted each time it is reached (what is shared counts as often as it is met; a slice's spare places count too). A statement '..UptoSaid' is the law's where the arguments, and the package variables that the reading takes, are together of bulk at most 1048576: NARROWER than '..Said'. Prove '..Said' where nothing that the law and all that it calls make is longer than what came in: it says more and counts as full. Else prove '..UptoSaid'. A law counts once. -/
mutual
def uptoBulk {H : Type} : DataW H → Nat
  | .lit (.string bytes) => bytes.length + 1
  | .lit _ => 1
  | .nil => 1
  | .ptr d => uptoBulk d + 1
  | .slice elems spare => uptoBulkAll elems + uptoBulkAll spare + 1
  | .agg parts => uptoBulkAll parts + 1
  | .iface _ d => uptoBulk d + 1
  | .map entries => uptoBulkEntries entries + 1
  | .held _ => 1
def uptoBulkAll {H : Type} : List (DataW H) → Nat
  | [] => 0
  | d :: r => uptoBulk d + uptoBulkAll r
def uptoBulkEntries {H : Type} : List (Lit × DataW H) → Nat
  | [] => 0
  | x :: r => uptoBulkEntry x + uptoBulkEntries r
def uptoBulkEntry {H : Type} : Lit × DataW H → Nat
  | (.string bytes, d) => bytes.length + uptoBulk d + 1
  | (_, d) => uptoBulk d + 1
 end
def uptoSmall : (H : Type) → List (DataW H) → Bool := fun _ ds => decide (uptoBulkAll ds ≤ 1048576)
def OpenSpec.upto (s : _root_.Go.ChangeSpec) : _root_.Go.OpenSpec := { _root_.Go.OpenSpec.ofChange s with cond := some uptoSmall }

/-- 'betrothallaw02.PickWaits', WHERE WHAT IT READS IS OF BULK AT MOST 1048576: true; the input reads as it did. -/
def pickWaitsUptoRow : OpenClaim := { program := "ytcaohcmlicbjhaa", sum := "203aacc0963625507d2338f4e689caa78072e1367c9fceb4b62b4741fce382d5", func := "betrothal/betrothallaw02.PickWaits", spec := "pickWaits", unfollowed := true, recurses := true, apart := false, narrowed := true }
def PickWaitsUptoSaid : Prop := pickWaitsUptoRow.holds Try.pinned (OpenSpec.upto pickWaitsSpec)

/-- 'betrothallaw02.PickRounds', WHERE WHAT IT READS IS OF BULK AT MOST 1048576: true; the input reads as it did. -/
def pickRoundsUptoRow : OpenClaim := { program := "ytcaohcmlicbjhaa", sum := "203aacc0963625507d2338f4e689caa78072e1367c9fceb4b62b4741fce382d5", func := "betrothal/betrothallaw02.PickRounds", spec := "pickRounds", unfollowed := true, recurses := true, apart := false, narrowed := true }
def PickRoundsUptoSaid : Prop := pickRoundsUptoRow.holds Try.pinned (OpenSpec.upto pickRoundsSpec)

/-- 'betrothallaw02.PickHolds', WHERE WHAT IT READS IS OF BULK AT MOST 1048576: true; the input reads as it did. -/
def pickHoldsUptoRow : OpenClaim := { program := "ytcaohcmlicbjhaa", sum := "203aacc0963625507d2338f4e689caa78072e1367c9fceb4b62b4741fce382d5", func := "betrothal/betrothallaw02.PickHolds", spec := "pickHolds", unfollowed := true, recurses := true, apart := false, narrowed := true }
def PickHoldsUptoSaid : Prop := pickHoldsUptoRow.holds Try.pinned (OpenSpec.upto pickHoldsSpec)

end Rows
end Go.Proofs.Ytcaohcmlicbjhaa
