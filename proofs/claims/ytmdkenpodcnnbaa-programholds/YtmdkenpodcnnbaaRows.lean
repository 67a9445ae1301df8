/-
  No cell of these rows narrows 'for every input' (looked for: loops, veiled, ifaces, maps, wideKeys, modest, calm, conditions, laid).
  DERIVED. THE GIVEN ROWS OF THIS SEAT. 4 by the template 'for every input the law returns true; each argument reads behind the call as it read before'; 0 by the template 'total and deterministic' (their statements: YtmdkenpodcnnbaaTotals.lean).
  GIVEN WITH THE SEED: the statements are not yours to turn. If you find one false, say at which input.
  Laid BY PROGRAM, IN A SANDBOX (cutbox-rows.mjs): the forced cells as the released guide's own fill.sh prints them over the translation b9721f8a411574a0… (all of the seat's roots in one cut). By AI agents, Wed Nov 11 2026. No macro, syntax, notation, axiom, sorry.
-/
import Derived.Test.YtmdkenpodcnnbaaChecked
import GoSem.Claim
import GoSem.ClaimJoined
import GoSem.ClaimMapViews
import Derived.JoinedTies
import Derived.KernelRfl
namespace Go.Proofs.Ytmdkenpodcnnbaa
/- THE CELL 'sum', in the pinned program and in every row, IS THE sha256 OF THE DUMP (.gsa) THAT YtmdkenpodcnnbaaProg.lean LOADS. Nothing in Lean hashes anything: it is a label: what it is worth is what the hold of that sum in a sandbox is worth. -/
noncomputable def Try.pinned : Pinned := { name := "ytmdkenpodcnnbaa", sum := "b9721f8a411574a02fa576aa2f73c6c1c48ed624768359824416677f7cc9fae2", checked := Try.checked }
namespace Rows
def none {H : Type} : Left H := { results := [], args := [] }

/-- 'betrothallaw07.ProgramChecks': WHATEVER THE INPUT: true; the input reads as it did. -/
def programChecksSpec : ChangeSpec := { name := "programChecks", fn := fun _ => fun
  | [d] => { results := [.lit (.bool true)], args := [d] }
  | _ => none }
def programChecksRow : OpenClaim := { program := "ytmdkenpodcnnbaa", sum := "b9721f8a411574a02fa576aa2f73c6c1c48ed624768359824416677f7cc9fae2", func := "betrothal/betrothallaw07.ProgramChecks", spec := "programChecks", unfollowed := true, recurses := true, apart := false }
def ProgramChecksSaid : Prop := programChecksRow.holds Try.pinned (OpenSpec.ofChange programChecksSpec)

/-- ITS FALSE NEIGHBOUR: 'it returns false'. Refute it at one input. -/
def programChecksWrong : ChangeSpec := { name := "programChecks", fn := fun _ => fun
  | [d] => { results := [.lit (.bool false)], args := [d] }
  | _ => none }
def ProgramChecksWrongFalsely : Prop := programChecksRow.holds Try.pinned (OpenSpec.ofChange programChecksWrong)

/-- 'betrothallaw07.ProgramReaches': WHATEVER THE INPUT: true; the input reads as it did. -/
def programReachesSpec : ChangeSpec := { name := "programReaches", fn := fun _ => fun
  | [d1, d2] => { results := [.lit (.bool true)], args := [d1, d2] }
  | _ => none }
def programReachesRow : OpenClaim := { program := "ytmdkenpodcnnbaa", sum := "b9721f8a411574a02fa576aa2f73c6c1c48ed624768359824416677f7cc9fae2", func := "betrothal/betrothallaw07.ProgramReaches", spec := "programReaches", unfollowed := true, recurses := true, apart := false }
def ProgramReachesSaid : Prop := programReachesRow.holds Try.pinned (OpenSpec.ofChange programReachesSpec)

/-- ITS FALSE NEIGHBOUR: 'it returns false'. Refute it at one input. -/
def programReachesWrong : ChangeSpec := { name := "programReaches", fn := fun _ => fun
  | [d1, d2] => { results := [.lit (.bool false)], args := [d1, d2] }
  | _ => none }
def ProgramReachesWrongFalsely : Prop := programReachesRow.holds Try.pinned (OpenSpec.ofChange programReachesWrong)

/-- 'betrothallaw07.ProgramSame': WHATEVER THE INPUT: true; the input reads as it did. -/
def programSameSpec : ChangeSpec := { name := "programSame", fn := fun _ => fun
  | [d1, d2] => { results := [.lit (.bool true)], args := [d1, d2] }
  | _ => none }
def programSameRow : OpenClaim := { program := "ytmdkenpodcnnbaa", sum := "b9721f8a411574a02fa576aa2f73c6c1c48ed624768359824416677f7cc9fae2", func := "betrothal/betrothallaw07.ProgramSame", spec := "programSame", unfollowed := true, recurses := true, apart := false }
def ProgramSameSaid : Prop := programSameRow.holds Try.pinned (OpenSpec.ofChange programSameSpec)

/-- ITS FALSE NEIGHBOUR: 'it returns false'. Refute it at one input. -/
def programSameWrong : ChangeSpec := { name := "programSame", fn := fun _ => fun
  | [d1, d2] => { results := [.lit (.bool false)], args := [d1, d2] }
  | _ => none }
def ProgramSameWrongFalsely : Prop := programSameRow.holds Try.pinned (OpenSpec.ofChange programSameWrong)

/-- 'betrothallaw07.ProgramHolds': WHATEVER THE INPUT: true; the input reads as it did. -/
def programHoldsSpec : ChangeSpec := { name := "programHolds", fn := fun _ => fun
  | [d1, d2, d3, d4] => { results := [.lit (.bool true)], args := [d1, d2, d3, d4] }
  | _ => none }
def programHoldsRow : OpenClaim := { program := "ytmdkenpodcnnbaa", sum := "b9721f8a411574a02fa576aa2f73c6c1c48ed624768359824416677f7cc9fae2", func := "betrothal/betrothallaw07.ProgramHolds", spec := "programHolds", unfollowed := true, recurses := true, apart := false }
def ProgramHoldsSaid : Prop := programHoldsRow.holds Try.pinned (OpenSpec.ofChange programHoldsSpec)

/-- ITS FALSE NEIGHBOUR: 'it returns false'. Refute it at one input. -/
def programHoldsWrong : ChangeSpec := { name := "programHolds", fn := fun _ => fun
  | [d1, d2, d3, d4] => { results := [.lit (.bool false)], args := [d1, d2, d3, d4] }
  | _ => none }
def ProgramHoldsWrongFalsely : Prop := programHoldsRow.holds Try.pinned (OpenSpec.ofChange programHoldsWrong)

/- THE SECOND FORM. 'bulk': how many values and letters a reading holds, each counted each time it is reached (what is shared counts as often as it is met; a slice's spare places count too). A statement '..UptoSaid' is the law's where the arguments, and the package variables that the reading takes, are together of bulk at most 1048576: NARROWER than '..Said'. Prove '..Said' where nothing that the law and all that it calls make is longer than what came in: it says more and counts as full. Else prove '..UptoSaid'. A law counts once. -/
mutual
def uptoBulk {H : Type} : DataW H → Nat
  | .lit (.string bytes) => bytes.length + 1
  | .lit _ => 1
  | .nil => 1
  | .ptr d => uptoBulk d + 1
  | .slice elems spare => uptoBulkAll elems + uptoBulkAll spare + 1
  | .agg parts => uptoBulkAll parts + 1
  | .iface _ d => uptoBulk d + 1
  | .map entries => uptoBulkEntries entries + 1
  | .held _ => 1
def uptoBulkAll {H : Type} : List (DataW H) → Nat
  | [] => 0
  | d :: r => uptoBulk d + uptoBulkAll r
def uptoBulkEntries {H : Type} : List (Lit × DataW H) → Nat
  | [] => 0
  | x :: r => uptoBulkEntry x + uptoBulkEntries r
def uptoBulkEntry {H : Type} : Lit × DataW H → Nat
  | (.string bytes, d) => bytes.length + uptoBulk d + 1
  | (_, d) => uptoBulk d + 1
 end
def uptoSmall : (H : Type) → List (DataW H) → Bool := fun _ ds => decide (uptoBulkAll ds ≤ 1048576)
def OpenSpec.upto (s : _root_.Go.ChangeSpec) : _root_.Go.OpenSpec := { _root_.Go.OpenSpec.ofChange s with cond := some uptoSmall }

/-- 'betrothallaw07.ProgramChecks', WHERE WHAT IT READS IS OF BULK AT MOST 1048576: true; the input reads as it did. -/
def programChecksUptoRow : OpenClaim := { program := "ytmdkenpodcnnbaa", sum := "b9721f8a411574a02fa576aa2f73c6c1c48ed624768359824416677f7cc9fae2", func := "betrothal/betrothallaw07.ProgramChecks", spec := "programChecks", unfollowed := true, recurses := true, apart := false, narrowed := true }
def ProgramChecksUptoSaid : Prop := programChecksUptoRow.holds Try.pinned (OpenSpec.upto programChecksSpec)

/-- 'betrothallaw07.ProgramReaches', WHERE WHAT IT READS IS OF BULK AT MOST 1048576: true; the input reads as it did. -/
def programReachesUptoRow : OpenClaim := { program := "ytmdkenpodcnnbaa", sum := "b9721f8a411574a02fa576aa2f73c6c1c48ed624768359824416677f7cc9fae2", func := "betrothal/betrothallaw07.ProgramReaches", spec := "programReaches", unfollowed := true, recurses := true, apart := false, narrowed := true }
def ProgramReachesUptoSaid : Prop := programReachesUptoRow.holds Try.pinned (OpenSpec.upto programReachesSpec)

/-- 'betrothallaw07.ProgramSame', WHERE WHAT IT READS IS OF BULK AT MOST 1048576: true; the input reads as it did. -/
def programSameUptoRow : OpenClaim := { program := "ytmdkenpodcnnbaa", sum := "b9721f8a411574a02fa576aa2f73c6c1c48ed624768359824416677f7cc9fae2", func := "betrothal/betrothallaw07.ProgramSame", spec := "programSame", unfollowed := true, recurses := true, apart := false, narrowed := true }
def ProgramSameUptoSaid : Prop := programSameUptoRow.holds Try.pinned (OpenSpec.upto programSameSpec)

/-- 'betrothallaw07.ProgramHolds', WHERE WHAT IT READS IS OF BULK AT MOST 1048576: true; the input reads as it did. -/
def programHoldsUptoRow : OpenClaim := { program := "ytmdkenpodcnnbaa", sum := "b9721f8a411574a02fa576aa2f73c6c1c48ed624768359824416677f7cc9fae2", func := "betrothal/betrothallaw07.ProgramHolds", spec := "programHolds", unfollowed := true, recurses := true, apart := false, narrowed := true }
def ProgramHoldsUptoSaid : Prop := programHoldsUptoRow.holds Try.pinned (OpenSpec.upto programHoldsSpec)

end Rows
end Go.Proofs.Ytmdkenpodcnnbaa
