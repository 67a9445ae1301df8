/-
  NARROWER THAN 'FOR EVERY INPUT', by the rows' own cells (each row's printed sentence says how): ValChecks: loops · ValMakes: loops · ValSame: loops · ValNamed: loops · ValHolds: loops · ValParts: loops.
  DERIVED. THE GIVEN ROWS OF THIS SEAT. 7 by the template 'for every input the law returns true; each argument reads behind the call as it read before'; 0 by the template 'total and deterministic' (their statements: YtimoldnagdlbcaaTotals.lean).
  GIVEN WITH THE SEED: the statements are not yours to turn. If you find one false, say at which input.
  Laid BY PROGRAM, IN A SANDBOX (cutbox-rows.mjs): the forced cells as the released guide's own fill.sh prints them over the translation 040366e34ead9d73… (all of the seat's roots in one cut). By AI agents, Wed Nov 11 2026. No macro, syntax, notation, axiom, sorry.
-/
import Derived.Test.YtimoldnagdlbcaaChecked
import GoSem.Claim
import GoSem.ClaimJoined
import GoSem.ClaimMapViews
import Derived.JoinedTies
import Derived.KernelRfl
namespace Go.Proofs.Ytimoldnagdlbcaa
/- THE CELL 'sum', in the pinned program and in every row, IS THE sha256 OF THE DUMP (.gsa) THAT YtimoldnagdlbcaaProg.lean LOADS. Nothing in Lean hashes anything: it is a label: what it is worth is what the hold of that sum in a sandbox is worth. -/
noncomputable def Try.pinned : Pinned := { name := "ytimoldnagdlbcaa", sum := "040366e34ead9d7346be6832ecfda84ac527d990c307ded4514d0145113d0209", checked := Try.checked }
namespace Rows
def none {H : Type} : Left H := { results := [], args := [] }

/-- 'betrothallaw04.ValChecks': WHATEVER THE INPUT: true; the input reads as it did. -/
def valChecksSpec : ChangeSpec := { name := "valChecks", fn := fun _ => fun
  | [d] => { results := [.lit (.bool true)], args := [d] }
  | _ => none }
def valChecksRow : OpenClaim := { program := "ytimoldnagdlbcaa", sum := "040366e34ead9d7346be6832ecfda84ac527d990c307ded4514d0145113d0209", func := "betrothal/betrothallaw04.ValChecks", spec := "valChecks", unfollowed := true, recurses := true, loops := true, apart := false }
def ValChecksSaid : Prop := valChecksRow.holds Try.pinned (OpenSpec.ofChange valChecksSpec)

/-- ITS FALSE NEIGHBOUR: 'it returns false'. Refute it at one input. -/
def valChecksWrong : ChangeSpec := { name := "valChecks", fn := fun _ => fun
  | [d] => { results := [.lit (.bool false)], args := [d] }
  | _ => none }
def ValChecksWrongFalsely : Prop := valChecksRow.holds Try.pinned (OpenSpec.ofChange valChecksWrong)

/-- 'betrothallaw04.ValMakes': WHATEVER THE INPUT: true; the input reads as it did. -/
def valMakesSpec : ChangeSpec := { name := "valMakes", fn := fun _ => fun
  | [d1, d2, d3] => { results := [.lit (.bool true)], args := [d1, d2, d3] }
  | _ => none }
def valMakesRow : OpenClaim := { program := "ytimoldnagdlbcaa", sum := "040366e34ead9d7346be6832ecfda84ac527d990c307ded4514d0145113d0209", func := "betrothal/betrothallaw04.ValMakes", spec := "valMakes", unfollowed := true, recurses := true, loops := true, apart := false }
def ValMakesSaid : Prop := valMakesRow.holds Try.pinned (OpenSpec.ofChange valMakesSpec)

/-- ITS FALSE NEIGHBOUR: 'it returns false'. Refute it at one input. -/
def valMakesWrong : ChangeSpec := { name := "valMakes", fn := fun _ => fun
  | [d1, d2, d3] => { results := [.lit (.bool false)], args := [d1, d2, d3] }
  | _ => none }
def ValMakesWrongFalsely : Prop := valMakesRow.holds Try.pinned (OpenSpec.ofChange valMakesWrong)

/-- 'betrothallaw04.ValMany': WHATEVER THE INPUT: true; the input reads as it did. -/
def valManySpec : ChangeSpec := { name := "valMany", fn := fun _ => fun
  | [d1, d2] => { results := [.lit (.bool true)], args := [d1, d2] }
  | _ => none }
def valManyRow : OpenClaim := { program := "ytimoldnagdlbcaa", sum := "040366e34ead9d7346be6832ecfda84ac527d990c307ded4514d0145113d0209", func := "betrothal/betrothallaw04.ValMany", spec := "valMany", unfollowed := true, recurses := true, apart := false }
def ValManySaid : Prop := valManyRow.holds Try.pinned (OpenSpec.ofChange valManySpec)

/-- ITS FALSE NEIGHBOUR: 'it returns false'. Refute it at one input. -/
def valManyWrong : ChangeSpec := { name := "valMany", fn := fun _ => fun
  | [d1, d2] => { results := [.lit (.bool false)], args := [d1, d2] }
  | _ => none }
def ValManyWrongFalsely : Prop := valManyRow.holds Try.pinned (OpenSpec.ofChange valManyWrong)

/-- 'betrothallaw04.ValSame': WHATEVER THE INPUT: true; the input reads as it did. -/
def valSameSpec : ChangeSpec := { name := "valSame", fn := fun _ => fun
  | [d1, d2] => { results := [.lit (.bool true)], args := [d1, d2] }
  | _ => none }
def valSameRow : OpenClaim := { program := "ytimoldnagdlbcaa", sum := "040366e34ead9d7346be6832ecfda84ac527d990c307ded4514d0145113d0209", func := "betrothal/betrothallaw04.ValSame", spec := "valSame", unfollowed := true, recurses := true, loops := true, apart := false }
def ValSameSaid : Prop := valSameRow.holds Try.pinned (OpenSpec.ofChange valSameSpec)

/-- ITS FALSE NEIGHBOUR: 'it returns false'. Refute it at one input. -/
def valSameWrong : ChangeSpec := { name := "valSame", fn := fun _ => fun
  | [d1, d2] => { results := [.lit (.bool false)], args := [d1, d2] }
  | _ => none }
def ValSameWrongFalsely : Prop := valSameRow.holds Try.pinned (OpenSpec.ofChange valSameWrong)

/-- 'betrothallaw04.ValNamed': WHATEVER THE INPUT: true; the input reads as it did. -/
def valNamedSpec : ChangeSpec := { name := "valNamed", fn := fun _ => fun
  | [d1, d2, d3, d4] => { results := [.lit (.bool true)], args := [d1, d2, d3, d4] }
  | _ => none }
def valNamedRow : OpenClaim := { program := "ytimoldnagdlbcaa", sum := "040366e34ead9d7346be6832ecfda84ac527d990c307ded4514d0145113d0209", func := "betrothal/betrothallaw04.ValNamed", spec := "valNamed", unfollowed := true, recurses := true, loops := true, apart := false }
def ValNamedSaid : Prop := valNamedRow.holds Try.pinned (OpenSpec.ofChange valNamedSpec)

/-- ITS FALSE NEIGHBOUR: 'it returns false'. Refute it at one input. -/
def valNamedWrong : ChangeSpec := { name := "valNamed", fn := fun _ => fun
  | [d1, d2, d3, d4] => { results := [.lit (.bool false)], args := [d1, d2, d3, d4] }
  | _ => none }
def ValNamedWrongFalsely : Prop := valNamedRow.holds Try.pinned (OpenSpec.ofChange valNamedWrong)

/-- 'betrothallaw04.ValHolds': WHATEVER THE INPUT: true; the input reads as it did. -/
def valHoldsSpec : ChangeSpec := { name := "valHolds", fn := fun _ => fun
  | [d1, d2, d3, d4, d5] => { results := [.lit (.bool true)], args := [d1, d2, d3, d4, d5] }
  | _ => none }
def valHoldsRow : OpenClaim := { program := "ytimoldnagdlbcaa", sum := "040366e34ead9d7346be6832ecfda84ac527d990c307ded4514d0145113d0209", func := "betrothal/betrothallaw04.ValHolds", spec := "valHolds", unfollowed := true, recurses := true, loops := true, apart := false }
def ValHoldsSaid : Prop := valHoldsRow.holds Try.pinned (OpenSpec.ofChange valHoldsSpec)

/-- ITS FALSE NEIGHBOUR: 'it returns false'. Refute it at one input. -/
def valHoldsWrong : ChangeSpec := { name := "valHolds", fn := fun _ => fun
  | [d1, d2, d3, d4, d5] => { results := [.lit (.bool false)], args := [d1, d2, d3, d4, d5] }
  | _ => none }
def ValHoldsWrongFalsely : Prop := valHoldsRow.holds Try.pinned (OpenSpec.ofChange valHoldsWrong)

/-- 'betrothallaw04.ValParts': WHATEVER THE INPUT: true; the input reads as it did. -/
def valPartsSpec : ChangeSpec := { name := "valParts", fn := fun _ => fun
  | [d1, d2] => { results := [.lit (.bool true)], args := [d1, d2] }
  | _ => none }
def valPartsRow : OpenClaim := { program := "ytimoldnagdlbcaa", sum := "040366e34ead9d7346be6832ecfda84ac527d990c307ded4514d0145113d0209", func := "betrothal/betrothallaw04.ValParts", spec := "valParts", unfollowed := true, recurses := true, loops := true, apart := false }
def ValPartsSaid : Prop := valPartsRow.holds Try.pinned (OpenSpec.ofChange valPartsSpec)

/-- ITS FALSE NEIGHBOUR: 'it returns false'. Refute it at one input. -/
def valPartsWrong : ChangeSpec := { name := "valParts", fn := fun _ => fun
  | [d1, d2] => { results := [.lit (.bool false)], args := [d1, d2] }
  | _ => none }
def ValPartsWrongFalsely : Prop := valPartsRow.holds Try.pinned (OpenSpec.ofChange valPartsWrong)

/- THE SECOND FORM. 'bulk': how many values and letters a reading holds, each counted each time it is reached (what is shared counts as often as it is met; a slice's spare places count too). A statement '..UptoSaid' is the law's where the arguments, and the package variables that the reading takes, are together of bulk at most 1048576: NARROWER than '..Said'. Prove '..Said' where nothing that the law and all that it calls make is longer than what came in: it says more and counts as full. Else prove '..UptoSaid'. A law counts once. -/
mutual
def uptoBulk {H : Type} : DataW H → Nat
  | .lit (.string bytes) => bytes.length + 1
  | .lit _ => 1
  | .nil => 1
  | .ptr d => uptoBulk d + 1
  | .slice elems spare => uptoBulkAll elems + uptoBulkAll spare + 1
  | .agg parts => uptoBulkAll parts + 1
  | .iface _ d => uptoBulk d + 1
  | .map entries => uptoBulkEntries entries + 1
  | .held _ => 1
def uptoBulkAll {H : Type} : List (DataW H) → Nat
  | [] => 0
  | d :: r => uptoBulk d + uptoBulkAll r
def uptoBulkEntries {H : Type} : List (Lit × DataW H) → Nat
  | [] => 0
  | x :: r => uptoBulkEntry x + uptoBulkEntries r
def uptoBulkEntry {H : Type} : Lit × DataW H → Nat
  | (.string bytes, d) => bytes.length + uptoBulk d + 1
  | (_, d) => uptoBulk d + 1
 end
def uptoSmall : (H : Type) → List (DataW H) → Bool := fun _ ds => decide (uptoBulkAll ds ≤ 1048576)
def OpenSpec.upto (s : _root_.Go.ChangeSpec) : _root_.Go.OpenSpec := { _root_.Go.OpenSpec.ofChange s with cond := some uptoSmall }

/-- 'betrothallaw04.ValChecks', WHERE WHAT IT READS IS OF BULK AT MOST 1048576: true; the input reads as it did. -/
def valChecksUptoRow : OpenClaim := { program := "ytimoldnagdlbcaa", sum := "040366e34ead9d7346be6832ecfda84ac527d990c307ded4514d0145113d0209", func := "betrothal/betrothallaw04.ValChecks", spec := "valChecks", unfollowed := true, recurses := true, loops := true, apart := false, narrowed := true }
def ValChecksUptoSaid : Prop := valChecksUptoRow.holds Try.pinned (OpenSpec.upto valChecksSpec)

/-- 'betrothallaw04.ValMakes', WHERE WHAT IT READS IS OF BULK AT MOST 1048576: true; the input reads as it did. -/
def valMakesUptoRow : OpenClaim := { program := "ytimoldnagdlbcaa", sum := "040366e34ead9d7346be6832ecfda84ac527d990c307ded4514d0145113d0209", func := "betrothal/betrothallaw04.ValMakes", spec := "valMakes", unfollowed := true, recurses := true, loops := true, apart := false, narrowed := true }
def ValMakesUptoSaid : Prop := valMakesUptoRow.holds Try.pinned (OpenSpec.upto valMakesSpec)

/-- 'betrothallaw04.ValMany', WHERE WHAT IT READS IS OF BULK AT MOST 1048576: true; the input reads as it did. -/
def valManyUptoRow : OpenClaim := { program := "ytimoldnagdlbcaa", sum := "040366e34ead9d7346be6832ecfda84ac527d990c307ded4514d0145113d0209", func := "betrothal/betrothallaw04.ValMany", spec := "valMany", unfollowed := true, recurses := true, apart := false, narrowed := true }
def ValManyUptoSaid : Prop := valManyUptoRow.holds Try.pinned (OpenSpec.upto valManySpec)

/-- 'betrothallaw04.ValSame', WHERE WHAT IT READS IS OF BULK AT MOST 1048576: true; the input reads as it did. -/
def valSameUptoRow : OpenClaim := { program := "ytimoldnagdlbcaa", sum := "040366e34ead9d7346be6832ecfda84ac527d990c307ded4514d0145113d0209", func := "betrothal/betrothallaw04.ValSame", spec := "valSame", unfollowed := true, recurses := true, loops := true, apart := false, narrowed := true }
def ValSameUptoSaid : Prop := valSameUptoRow.holds Try.pinned (OpenSpec.upto valSameSpec)

/-- 'betrothallaw04.ValNamed', WHERE WHAT IT READS IS OF BULK AT MOST 1048576: true; the input reads as it did. -/
def valNamedUptoRow : OpenClaim := { program := "ytimoldnagdlbcaa", sum := "040366e34ead9d7346be6832ecfda84ac527d990c307ded4514d0145113d0209", func := "betrothal/betrothallaw04.ValNamed", spec := "valNamed", unfollowed := true, recurses := true, loops := true, apart := false, narrowed := true }
def ValNamedUptoSaid : Prop := valNamedUptoRow.holds Try.pinned (OpenSpec.upto valNamedSpec)

/-- 'betrothallaw04.ValHolds', WHERE WHAT IT READS IS OF BULK AT MOST 1048576: true; the input reads as it did. -/
def valHoldsUptoRow : OpenClaim := { program := "ytimoldnagdlbcaa", sum := "040366e34ead9d7346be6832ecfda84ac527d990c307ded4514d0145113d0209", func := "betrothal/betrothallaw04.ValHolds", spec := "valHolds", unfollowed := true, recurses := true, loops := true, apart := false, narrowed := true }
def ValHoldsUptoSaid : Prop := valHoldsUptoRow.holds Try.pinned (OpenSpec.upto valHoldsSpec)

/-- 'betrothallaw04.ValParts', WHERE WHAT IT READS IS OF BULK AT MOST 1048576: true; the input reads as it did. -/
def valPartsUptoRow : OpenClaim := { program := "ytimoldnagdlbcaa", sum := "040366e34ead9d7346be6832ecfda84ac527d990c307ded4514d0145113d0209", func := "betrothal/betrothallaw04.ValParts", spec := "valParts", unfollowed := true, recurses := true, loops := true, apart := false, narrowed := true }
def ValPartsUptoSaid : Prop := valPartsUptoRow.holds Try.pinned (OpenSpec.upto valPartsSpec)

end Rows
end Go.Proofs.Ytimoldnagdlbcaa
