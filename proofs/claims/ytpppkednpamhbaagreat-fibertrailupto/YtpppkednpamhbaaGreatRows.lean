/-
  NARROWER THAN 'FOR EVERY INPUT', by the rows' own cells (each row's printed sentence says how): FiberPlays: loops · FiberTrail: loops.
  DERIVED. THE GIVEN ROWS OF THIS SEAT. 2 by the template 'for every input the law returns true; each argument reads behind the call as it read before'; 0 by the template 'total and deterministic' (their statements: YtpppkednpamhbaaGreatTotals.lean).
  GIVEN WITH THE SEED: the statements are not yours to turn. If you find one false, say at which input.
  Laid BY PROGRAM, IN A SANDBOX (cutbox-rows.mjs): the forced cells as the released guide's own fill.sh prints them over the translation b88b471d1f491bb9… (all of the seat's roots in one cut). By AI agents, Wed Nov 11 2026. No macro, syntax, notation, axiom, sorry.
-/
import Derived.Test.YtpppkednpamhbaaGreatChecked
import GoSem.Claim
import GoSem.ClaimJoined
import GoSem.ClaimMapViews
import Derived.JoinedTies
import Derived.KernelRfl
namespace Go.Proofs.YtpppkednpamhbaaGreat
/- THE CELL 'sum', in the pinned program and in every row, IS THE sha256 OF THE DUMP (.gsa) THAT YtpppkednpamhbaaGreatProg.lean LOADS. Nothing in Lean hashes anything: it is a label: what it is worth is what the hold of that sum in a sandbox is worth. -/
noncomputable def Tryz.pinned : Pinned := { name := "ytpppkednpamhbaagreat", sum := "b88b471d1f491bb9b3ceb6a5d5985ef91dfd5d79a00d71ef24fa5659402bef17", checked := Tryz.checked }
namespace Rows
def none {H : Type} : Left H := { results := [], args := [] }

/-- 'betrothallaw10.FiberPlays': WHATEVER THE INPUT: true; the input reads as it did. -/
def fiberPlaysSpec : ChangeSpec := { name := "fiberPlays", fn := fun _ => fun
  | [d1, d2, d3, d4] => { results := [.lit (.bool true)], args := [d1, d2, d3, d4] }
  | _ => none }
def fiberPlaysRow : OpenClaim := { program := "ytpppkednpamhbaagreat", sum := "b88b471d1f491bb9b3ceb6a5d5985ef91dfd5d79a00d71ef24fa5659402bef17", func := "betrothal/betrothallaw10.FiberPlays", spec := "fiberPlays", unfollowed := true, recurses := true, loops := true, apart := false }
def FiberPlaysSaid : Prop := fiberPlaysRow.holds Tryz.pinned (OpenSpec.ofChange fiberPlaysSpec)

/-- ITS FALSE NEIGHBOUR: 'it returns false'. Refute it at one input. -/
def fiberPlaysWrong : ChangeSpec := { name := "fiberPlays", fn := fun _ => fun
  | [d1, d2, d3, d4] => { results := [.lit (.bool false)], args := [d1, d2, d3, d4] }
  | _ => none }
def FiberPlaysWrongFalsely : Prop := fiberPlaysRow.holds Tryz.pinned (OpenSpec.ofChange fiberPlaysWrong)

/-- 'betrothallaw10.FiberTrail': WHATEVER THE INPUT: true; the input reads as it did. -/
def fiberTrailSpec : ChangeSpec := { name := "fiberTrail", fn := fun _ => fun
  | [d1, d2, d3, d4, d5, d6, d7] => { results := [.lit (.bool true)], args := [d1, d2, d3, d4, d5, d6, d7] }
  | _ => none }
def fiberTrailRow : OpenClaim := { program := "ytpppkednpamhbaagreat", sum := "b88b471d1f491bb9b3ceb6a5d5985ef91dfd5d79a00d71ef24fa5659402bef17", func := "betrothal/betrothallaw10.FiberTrail", spec := "fiberTrail", unfollowed := true, recurses := true, loops := true, apart := false }
def FiberTrailSaid : Prop := fiberTrailRow.holds Tryz.pinned (OpenSpec.ofChange fiberTrailSpec)

/-- ITS FALSE NEIGHBOUR: 'it returns false'. Refute it at one input. -/
def fiberTrailWrong : ChangeSpec := { name := "fiberTrail", fn := fun _ => fun
  | [d1, d2, d3, d4, d5, d6, d7] => { results := [.lit (.bool false)], args := [d1, d2, d3, d4, d5, d6, d7] }
  | _ => none }
def FiberTrailWrongFalsely : Prop := fiberTrailRow.holds Tryz.pinned (OpenSpec.ofChange fiberTrailWrong)

/- THE SECOND FORM. 'bulk': how many values and letters a reading holds, each counted each time it is reached (what is shared counts as often as it is met; a slice's spare places count too). A statement '..UptoSaid' is the law's where the arguments, and the package variables that the reading takes, are together of bulk at most 1048576: NARROWER than '..Said'. Prove '..Said' where nothing that the law and all that it calls make is longer than what came in: it says more and counts as full. Else prove '..UptoSaid'. A law counts once. -/
mutual
def uptoBulk {H : Type} : DataW H → Nat
  | .lit (.string bytes) => bytes.length + 1
  | .lit _ => 1
  | .nil => 1
  | .ptr d => uptoBulk d + 1
  | .slice elems spare => uptoBulkAll elems + uptoBulkAll spare + 1
  | .agg parts => uptoBulkAll parts + 1
  | .iface _ d => uptoBulk d + 1
  | .map entries => uptoBulkEntries entries + 1
  | .held _ => 1
def uptoBulkAll {H : Type} : List (DataW H) → Nat
  | [] => 0
  | d :: r => uptoBulk d + uptoBulkAll r
def uptoBulkEntries {H : Type} : List (Lit × DataW H) → Nat
  | [] => 0
  | x :: r => uptoBulkEntry x + uptoBulkEntries r
def uptoBulkEntry {H : Type} : Lit × DataW H → Nat
  | (.string bytes, d) => bytes.length + uptoBulk d + 1
  | (_, d) => uptoBulk d + 1
 end
def uptoSmall : (H : Type) → List (DataW H) → Bool := fun _ ds => decide (uptoBulkAll ds ≤ 1048576)
def OpenSpec.upto (s : _root_.Go.ChangeSpec) : _root_.Go.OpenSpec := { _root_.Go.OpenSpec.ofChange s with cond := some uptoSmall }

/-- 'betrothallaw10.FiberPlays', WHERE WHAT IT READS IS OF BULK AT MOST 1048576: true; the input reads as it did. -/
def fiberPlaysUptoRow : OpenClaim := { program := "ytpppkednpamhbaagreat", sum := "b88b471d1f491bb9b3ceb6a5d5985ef91dfd5d79a00d71ef24fa5659402bef17", func := "betrothal/betrothallaw10.FiberPlays", spec := "fiberPlays", unfollowed := true, recurses := true, loops := true, apart := false, narrowed := true }
def FiberPlaysUptoSaid : Prop := fiberPlaysUptoRow.holds Tryz.pinned (OpenSpec.upto fiberPlaysSpec)

/-- 'betrothallaw10.FiberTrail', WHERE WHAT IT READS IS OF BULK AT MOST 1048576: true; the input reads as it did. -/
def fiberTrailUptoRow : OpenClaim := { program := "ytpppkednpamhbaagreat", sum := "b88b471d1f491bb9b3ceb6a5d5985ef91dfd5d79a00d71ef24fa5659402bef17", func := "betrothal/betrothallaw10.FiberTrail", spec := "fiberTrail", unfollowed := true, recurses := true, loops := true, apart := false, narrowed := true }
def FiberTrailUptoSaid : Prop := fiberTrailUptoRow.holds Tryz.pinned (OpenSpec.upto fiberTrailSpec)

end Rows
end Go.Proofs.YtpppkednpamhbaaGreat
