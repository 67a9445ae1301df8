/-
  NARROWER THAN 'FOR EVERY INPUT', by the rows' own cells (each row's printed sentence says how): HistoryOf: loops · HistoryDoes: loops · HistoryLine: loops · HistorySame: loops · HistoryRuns: loops · HistoryHolds: loops.
  DERIVED. THE GIVEN ROWS OF THIS SEAT. 6 by the template 'for every input the law returns true; each argument reads behind the call as it read before'; 0 by the template 'total and deterministic' (their statements: YtpmmbjcgabnloaaTotals.lean).
  GIVEN WITH THE SEED: the statements are not yours to turn. If you find one false, say at which input.
  Laid BY PROGRAM, IN A SANDBOX (cutbox-rows.mjs): the forced cells as the released guide's own fill.sh prints them over the translation 8d9cde4f83eaa67c… (all of the seat's roots in one cut). By AI agents, Wed Nov 11 2026. No macro, syntax, notation, axiom, sorry.
-/
import Derived.Test.YtpmmbjcgabnloaaChecked
import GoSem.Claim
import GoSem.ClaimJoined
import GoSem.ClaimMapViews
import Derived.JoinedTies
import Derived.KernelRfl
namespace Go.Proofs.Ytpmmbjcgabnloaa
/- THE CELL 'sum', in the pinned program and in every row, IS THE sha256 OF THE DUMP (.gsa) THAT YtpmmbjcgabnloaaProg.lean LOADS. Nothing in Lean hashes anything: it is a label: what it is worth is what the hold of that sum in a sandbox is worth. -/
noncomputable def Try.pinned : Pinned := { name := "ytpmmbjcgabnloaa", sum := "8d9cde4f83eaa67c04554c68dda050550255af5035bf1c6cc3f9376d406f3efe", checked := Try.checked }
namespace Rows
def none {H : Type} : Left H := { results := [], args := [] }

/-- 'betrothallaw29.HistoryOf': WHATEVER THE INPUT: true; the input reads as it did. -/
def historyOfSpec : ChangeSpec := { name := "historyOf", fn := fun _ => fun
  | [d] => { results := [.lit (.bool true)], args := [d] }
  | _ => none }
def historyOfRow : OpenClaim := { program := "ytpmmbjcgabnloaa", sum := "8d9cde4f83eaa67c04554c68dda050550255af5035bf1c6cc3f9376d406f3efe", func := "betrothal/betrothallaw29.HistoryOf", spec := "historyOf", unfollowed := true, recurses := true, loops := true, apart := false }
def HistoryOfSaid : Prop := historyOfRow.holds Try.pinned (OpenSpec.ofChange historyOfSpec)

/-- ITS FALSE NEIGHBOUR: 'it returns false'. Refute it at one input. -/
def historyOfWrong : ChangeSpec := { name := "historyOf", fn := fun _ => fun
  | [d] => { results := [.lit (.bool false)], args := [d] }
  | _ => none }
def HistoryOfWrongFalsely : Prop := historyOfRow.holds Try.pinned (OpenSpec.ofChange historyOfWrong)

/-- 'betrothallaw29.HistoryDoes': WHATEVER THE INPUT: true; the input reads as it did. -/
def historyDoesSpec : ChangeSpec := { name := "historyDoes", fn := fun _ => fun
  | [d1, d2, d3] => { results := [.lit (.bool true)], args := [d1, d2, d3] }
  | _ => none }
def historyDoesRow : OpenClaim := { program := "ytpmmbjcgabnloaa", sum := "8d9cde4f83eaa67c04554c68dda050550255af5035bf1c6cc3f9376d406f3efe", func := "betrothal/betrothallaw29.HistoryDoes", spec := "historyDoes", unfollowed := true, recurses := true, loops := true, apart := false }
def HistoryDoesSaid : Prop := historyDoesRow.holds Try.pinned (OpenSpec.ofChange historyDoesSpec)

/-- ITS FALSE NEIGHBOUR: 'it returns false'. Refute it at one input. -/
def historyDoesWrong : ChangeSpec := { name := "historyDoes", fn := fun _ => fun
  | [d1, d2, d3] => { results := [.lit (.bool false)], args := [d1, d2, d3] }
  | _ => none }
def HistoryDoesWrongFalsely : Prop := historyDoesRow.holds Try.pinned (OpenSpec.ofChange historyDoesWrong)

/-- 'betrothallaw29.HistoryLine': WHATEVER THE INPUT: true; the input reads as it did. -/
def historyLineSpec : ChangeSpec := { name := "historyLine", fn := fun _ => fun
  | [d1, d2] => { results := [.lit (.bool true)], args := [d1, d2] }
  | _ => none }
def historyLineRow : OpenClaim := { program := "ytpmmbjcgabnloaa", sum := "8d9cde4f83eaa67c04554c68dda050550255af5035bf1c6cc3f9376d406f3efe", func := "betrothal/betrothallaw29.HistoryLine", spec := "historyLine", unfollowed := true, recurses := true, loops := true, apart := false }
def HistoryLineSaid : Prop := historyLineRow.holds Try.pinned (OpenSpec.ofChange historyLineSpec)

/-- ITS FALSE NEIGHBOUR: 'it returns false'. Refute it at one input. -/
def historyLineWrong : ChangeSpec := { name := "historyLine", fn := fun _ => fun
  | [d1, d2] => { results := [.lit (.bool false)], args := [d1, d2] }
  | _ => none }
def HistoryLineWrongFalsely : Prop := historyLineRow.holds Try.pinned (OpenSpec.ofChange historyLineWrong)

/-- 'betrothallaw29.HistorySame': WHATEVER THE INPUT: true; the input reads as it did. -/
def historySameSpec : ChangeSpec := { name := "historySame", fn := fun _ => fun
  | [d1, d2, d3] => { results := [.lit (.bool true)], args := [d1, d2, d3] }
  | _ => none }
def historySameRow : OpenClaim := { program := "ytpmmbjcgabnloaa", sum := "8d9cde4f83eaa67c04554c68dda050550255af5035bf1c6cc3f9376d406f3efe", func := "betrothal/betrothallaw29.HistorySame", spec := "historySame", unfollowed := true, recurses := true, loops := true, apart := false }
def HistorySameSaid : Prop := historySameRow.holds Try.pinned (OpenSpec.ofChange historySameSpec)

/-- ITS FALSE NEIGHBOUR: 'it returns false'. Refute it at one input. -/
def historySameWrong : ChangeSpec := { name := "historySame", fn := fun _ => fun
  | [d1, d2, d3] => { results := [.lit (.bool false)], args := [d1, d2, d3] }
  | _ => none }
def HistorySameWrongFalsely : Prop := historySameRow.holds Try.pinned (OpenSpec.ofChange historySameWrong)

/-- 'betrothallaw29.HistoryRuns': WHATEVER THE INPUT: true; the input reads as it did. -/
def historyRunsSpec : ChangeSpec := { name := "historyRuns", fn := fun _ => fun
  | [d1, d2, d3] => { results := [.lit (.bool true)], args := [d1, d2, d3] }
  | _ => none }
def historyRunsRow : OpenClaim := { program := "ytpmmbjcgabnloaa", sum := "8d9cde4f83eaa67c04554c68dda050550255af5035bf1c6cc3f9376d406f3efe", func := "betrothal/betrothallaw29.HistoryRuns", spec := "historyRuns", unfollowed := true, recurses := true, loops := true, apart := false }
def HistoryRunsSaid : Prop := historyRunsRow.holds Try.pinned (OpenSpec.ofChange historyRunsSpec)

/-- ITS FALSE NEIGHBOUR: 'it returns false'. Refute it at one input. -/
def historyRunsWrong : ChangeSpec := { name := "historyRuns", fn := fun _ => fun
  | [d1, d2, d3] => { results := [.lit (.bool false)], args := [d1, d2, d3] }
  | _ => none }
def HistoryRunsWrongFalsely : Prop := historyRunsRow.holds Try.pinned (OpenSpec.ofChange historyRunsWrong)

/-- 'betrothallaw29.HistoryHolds': WHATEVER THE INPUT: true; the input reads as it did. -/
def historyHoldsSpec : ChangeSpec := { name := "historyHolds", fn := fun _ => fun
  | [d1, d2, d3, d4, d5] => { results := [.lit (.bool true)], args := [d1, d2, d3, d4, d5] }
  | _ => none }
def historyHoldsRow : OpenClaim := { program := "ytpmmbjcgabnloaa", sum := "8d9cde4f83eaa67c04554c68dda050550255af5035bf1c6cc3f9376d406f3efe", func := "betrothal/betrothallaw29.HistoryHolds", spec := "historyHolds", unfollowed := true, recurses := true, loops := true, apart := false }
def HistoryHoldsSaid : Prop := historyHoldsRow.holds Try.pinned (OpenSpec.ofChange historyHoldsSpec)

/-- ITS FALSE NEIGHBOUR: 'it returns false'. Refute it at one input. -/
def historyHoldsWrong : ChangeSpec := { name := "historyHolds", fn := fun _ => fun
  | [d1, d2, d3, d4, d5] => { results := [.lit (.bool false)], args := [d1, d2, d3, d4, d5] }
  | _ => none }
def HistoryHoldsWrongFalsely : Prop := historyHoldsRow.holds Try.pinned (OpenSpec.ofChange historyHoldsWrong)

/- THE SECOND FORM. 'bulk': how many values and letters a reading holds, each counted each time it is reached (what is shared counts as often as it is met; a slice's spare places count too). A statement '..UptoSaid' is the law's where the arguments, and the package variables that the reading takes, are together of bulk at most 1048576: NARROWER than '..Said'. Prove '..Said' where nothing that the law and all that it calls make is longer than what came in: it says more and counts as full. Else prove '..UptoSaid'. A law counts once. -/
mutual
def uptoBulk {H : Type} : DataW H → Nat
  | .lit (.string bytes) => bytes.length + 1
  | .lit _ => 1
  | .nil => 1
  | .ptr d => uptoBulk d + 1
  | .slice elems spare => uptoBulkAll elems + uptoBulkAll spare + 1
  | .agg parts => uptoBulkAll parts + 1
  | .iface _ d => uptoBulk d + 1
  | .map entries => uptoBulkEntries entries + 1
  | .held _ => 1
def uptoBulkAll {H : Type} : List (DataW H) → Nat
  | [] => 0
  | d :: r => uptoBulk d + uptoBulkAll r
def uptoBulkEntries {H : Type} : List (Lit × DataW H) → Nat
  | [] => 0
  | x :: r => uptoBulkEntry x + uptoBulkEntries r
def uptoBulkEntry {H : Type} : Lit × DataW H → Nat
  | (.string bytes, d) => bytes.length + uptoBulk d + 1
  | (_, d) => uptoBulk d + 1
 end
def uptoSmall : (H : Type) → List (DataW H) → Bool := fun _ ds => decide (uptoBulkAll ds ≤ 1048576)
def OpenSpec.upto (s : _root_.Go.ChangeSpec) : _root_.Go.OpenSpec := { _root_.Go.OpenSpec.ofChange s with cond := some uptoSmall }

/-- 'betrothallaw29.HistoryOf', WHERE WHAT IT READS IS OF BULK AT MOST 1048576: true; the input reads as it did. -/
def historyOfUptoRow : OpenClaim := { program := "ytpmmbjcgabnloaa", sum := "8d9cde4f83eaa67c04554c68dda050550255af5035bf1c6cc3f9376d406f3efe", func := "betrothal/betrothallaw29.HistoryOf", spec := "historyOf", unfollowed := true, recurses := true, loops := true, apart := false, narrowed := true }
def HistoryOfUptoSaid : Prop := historyOfUptoRow.holds Try.pinned (OpenSpec.upto historyOfSpec)

/-- 'betrothallaw29.HistoryDoes', WHERE WHAT IT READS IS OF BULK AT MOST 1048576: true; the input reads as it did. -/
def historyDoesUptoRow : OpenClaim := { program := "ytpmmbjcgabnloaa", sum := "8d9cde4f83eaa67c04554c68dda050550255af5035bf1c6cc3f9376d406f3efe", func := "betrothal/betrothallaw29.HistoryDoes", spec := "historyDoes", unfollowed := true, recurses := true, loops := true, apart := false, narrowed := true }
def HistoryDoesUptoSaid : Prop := historyDoesUptoRow.holds Try.pinned (OpenSpec.upto historyDoesSpec)

/-- 'betrothallaw29.HistoryLine', WHERE WHAT IT READS IS OF BULK AT MOST 1048576: true; the input reads as it did. -/
def historyLineUptoRow : OpenClaim := { program := "ytpmmbjcgabnloaa", sum := "8d9cde4f83eaa67c04554c68dda050550255af5035bf1c6cc3f9376d406f3efe", func := "betrothal/betrothallaw29.HistoryLine", spec := "historyLine", unfollowed := true, recurses := true, loops := true, apart := false, narrowed := true }
def HistoryLineUptoSaid : Prop := historyLineUptoRow.holds Try.pinned (OpenSpec.upto historyLineSpec)

/-- 'betrothallaw29.HistorySame', WHERE WHAT IT READS IS OF BULK AT MOST 1048576: true; the input reads as it did. -/
def historySameUptoRow : OpenClaim := { program := "ytpmmbjcgabnloaa", sum := "8d9cde4f83eaa67c04554c68dda050550255af5035bf1c6cc3f9376d406f3efe", func := "betrothal/betrothallaw29.HistorySame", spec := "historySame", unfollowed := true, recurses := true, loops := true, apart := false, narrowed := true }
def HistorySameUptoSaid : Prop := historySameUptoRow.holds Try.pinned (OpenSpec.upto historySameSpec)

/-- 'betrothallaw29.HistoryRuns', WHERE WHAT IT READS IS OF BULK AT MOST 1048576: true; the input reads as it did. -/
def historyRunsUptoRow : OpenClaim := { program := "ytpmmbjcgabnloaa", sum := "8d9cde4f83eaa67c04554c68dda050550255af5035bf1c6cc3f9376d406f3efe", func := "betrothal/betrothallaw29.HistoryRuns", spec := "historyRuns", unfollowed := true, recurses := true, loops := true, apart := false, narrowed := true }
def HistoryRunsUptoSaid : Prop := historyRunsUptoRow.holds Try.pinned (OpenSpec.upto historyRunsSpec)

/-- 'betrothallaw29.HistoryHolds', WHERE WHAT IT READS IS OF BULK AT MOST 1048576: true; the input reads as it did. -/
def historyHoldsUptoRow : OpenClaim := { program := "ytpmmbjcgabnloaa", sum := "8d9cde4f83eaa67c04554c68dda050550255af5035bf1c6cc3f9376d406f3efe", func := "betrothal/betrothallaw29.HistoryHolds", spec := "historyHolds", unfollowed := true, recurses := true, loops := true, apart := false, narrowed := true }
def HistoryHoldsUptoSaid : Prop := historyHoldsUptoRow.holds Try.pinned (OpenSpec.upto historyHoldsSpec)

end Rows
end Go.Proofs.Ytpmmbjcgabnloaa
