/-
  No cell of these rows narrows 'for every input' (looked for: loops, veiled, ifaces, maps, wideKeys, modest, calm, conditions, laid).
  DERIVED. THE GIVEN ROWS OF THIS SEAT. 6 by the template 'for every input the law returns true; each argument reads behind the call as it read before'; 0 by the template 'total and deterministic' (their statements: YtpopbkiphdcilaaTotals.lean).
  GIVEN WITH THE SEED: the statements are not yours to turn. If you find one false, say at which input.
  Laid BY PROGRAM, IN A SANDBOX (cutbox-rows.mjs): the forced cells as the released guide's own fill.sh prints them over the translation 0df2027e15f6d29d… (all of the seat's roots in one cut). By AI agents, Wed Nov 11 2026. No macro, syntax, notation, axiom, sorry.
-/
import Derived.Test.YtpopbkiphdcilaaChecked
import GoSem.Claim
import GoSem.ClaimJoined
import GoSem.ClaimMapViews
import Derived.JoinedTies
import Derived.KernelRfl
namespace Go.Proofs.Ytpopbkiphdcilaa
/- THE CELL 'sum', in the pinned program and in every row, IS THE sha256 OF THE DUMP (.gsa) THAT YtpopbkiphdcilaaProg.lean LOADS. Nothing in Lean hashes anything: it is a label: what it is worth is what the hold of that sum in a sandbox is worth. -/
noncomputable def Try.pinned : Pinned := { name := "ytpopbkiphdcilaa", sum := "0df2027e15f6d29dd821494506e46c67fd8ac797161b5d252fa4504da3eaf1f2", checked := Try.checked }
namespace Rows
def none {H : Type} : Left H := { results := [], args := [] }

/-- 'betrothallaw08.ImageEncodes': WHATEVER THE INPUT: true; the input reads as it did. -/
def imageEncodesSpec : ChangeSpec := { name := "imageEncodes", fn := fun _ => fun
  | [d] => { results := [.lit (.bool true)], args := [d] }
  | _ => none }
def imageEncodesRow : OpenClaim := { program := "ytpopbkiphdcilaa", sum := "0df2027e15f6d29dd821494506e46c67fd8ac797161b5d252fa4504da3eaf1f2", func := "betrothal/betrothallaw08.ImageEncodes", spec := "imageEncodes", unfollowed := true, recurses := true, apart := false }
def ImageEncodesSaid : Prop := imageEncodesRow.holds Try.pinned (OpenSpec.ofChange imageEncodesSpec)

/-- ITS FALSE NEIGHBOUR: 'it returns false'. Refute it at one input. -/
def imageEncodesWrong : ChangeSpec := { name := "imageEncodes", fn := fun _ => fun
  | [d] => { results := [.lit (.bool false)], args := [d] }
  | _ => none }
def ImageEncodesWrongFalsely : Prop := imageEncodesRow.holds Try.pinned (OpenSpec.ofChange imageEncodesWrong)

/-- 'betrothallaw08.ImageSums': WHATEVER THE INPUT: true; the input reads as it did. -/
def imageSumsSpec : ChangeSpec := { name := "imageSums", fn := fun _ => fun
  | [d1, d2] => { results := [.lit (.bool true)], args := [d1, d2] }
  | _ => none }
def imageSumsRow : OpenClaim := { program := "ytpopbkiphdcilaa", sum := "0df2027e15f6d29dd821494506e46c67fd8ac797161b5d252fa4504da3eaf1f2", func := "betrothal/betrothallaw08.ImageSums", spec := "imageSums", unfollowed := true, recurses := true, apart := false }
def ImageSumsSaid : Prop := imageSumsRow.holds Try.pinned (OpenSpec.ofChange imageSumsSpec)

/-- ITS FALSE NEIGHBOUR: 'it returns false'. Refute it at one input. -/
def imageSumsWrong : ChangeSpec := { name := "imageSums", fn := fun _ => fun
  | [d1, d2] => { results := [.lit (.bool false)], args := [d1, d2] }
  | _ => none }
def ImageSumsWrongFalsely : Prop := imageSumsRow.holds Try.pinned (OpenSpec.ofChange imageSumsWrong)

/-- 'betrothallaw08.ImageDecodes': WHATEVER THE INPUT: true; the input reads as it did. -/
def imageDecodesSpec : ChangeSpec := { name := "imageDecodes", fn := fun _ => fun
  | [d1, d2] => { results := [.lit (.bool true)], args := [d1, d2] }
  | _ => none }
def imageDecodesRow : OpenClaim := { program := "ytpopbkiphdcilaa", sum := "0df2027e15f6d29dd821494506e46c67fd8ac797161b5d252fa4504da3eaf1f2", func := "betrothal/betrothallaw08.ImageDecodes", spec := "imageDecodes", unfollowed := true, recurses := true, apart := false }
def ImageDecodesSaid : Prop := imageDecodesRow.holds Try.pinned (OpenSpec.ofChange imageDecodesSpec)

/-- ITS FALSE NEIGHBOUR: 'it returns false'. Refute it at one input. -/
def imageDecodesWrong : ChangeSpec := { name := "imageDecodes", fn := fun _ => fun
  | [d1, d2] => { results := [.lit (.bool false)], args := [d1, d2] }
  | _ => none }
def ImageDecodesWrongFalsely : Prop := imageDecodesRow.holds Try.pinned (OpenSpec.ofChange imageDecodesWrong)

/-- 'betrothallaw08.ImageLong': WHATEVER THE INPUT: true; the input reads as it did. -/
def imageLongSpec : ChangeSpec := { name := "imageLong", fn := fun _ => fun
  | [d] => { results := [.lit (.bool true)], args := [d] }
  | _ => none }
def imageLongRow : OpenClaim := { program := "ytpopbkiphdcilaa", sum := "0df2027e15f6d29dd821494506e46c67fd8ac797161b5d252fa4504da3eaf1f2", func := "betrothal/betrothallaw08.ImageLong", spec := "imageLong", unfollowed := true, recurses := true, apart := false }
def ImageLongSaid : Prop := imageLongRow.holds Try.pinned (OpenSpec.ofChange imageLongSpec)

/-- ITS FALSE NEIGHBOUR: 'it returns false'. Refute it at one input. -/
def imageLongWrong : ChangeSpec := { name := "imageLong", fn := fun _ => fun
  | [d] => { results := [.lit (.bool false)], args := [d] }
  | _ => none }
def ImageLongWrongFalsely : Prop := imageLongRow.holds Try.pinned (OpenSpec.ofChange imageLongWrong)

/-- 'betrothallaw08.ImagePlaces': WHATEVER THE INPUT: true; the input reads as it did. -/
def imagePlacesSpec : ChangeSpec := { name := "imagePlaces", fn := fun _ => fun
  | [d1, d2, d3] => { results := [.lit (.bool true)], args := [d1, d2, d3] }
  | _ => none }
def imagePlacesRow : OpenClaim := { program := "ytpopbkiphdcilaa", sum := "0df2027e15f6d29dd821494506e46c67fd8ac797161b5d252fa4504da3eaf1f2", func := "betrothal/betrothallaw08.ImagePlaces", spec := "imagePlaces", unfollowed := true, recurses := true, apart := false }
def ImagePlacesSaid : Prop := imagePlacesRow.holds Try.pinned (OpenSpec.ofChange imagePlacesSpec)

/-- ITS FALSE NEIGHBOUR: 'it returns false'. Refute it at one input. -/
def imagePlacesWrong : ChangeSpec := { name := "imagePlaces", fn := fun _ => fun
  | [d1, d2, d3] => { results := [.lit (.bool false)], args := [d1, d2, d3] }
  | _ => none }
def ImagePlacesWrongFalsely : Prop := imagePlacesRow.holds Try.pinned (OpenSpec.ofChange imagePlacesWrong)

/-- 'betrothallaw08.ImageHolds': WHATEVER THE INPUT: true; the input reads as it did. -/
def imageHoldsSpec : ChangeSpec := { name := "imageHolds", fn := fun _ => fun
  | [d1, d2, d3, d4] => { results := [.lit (.bool true)], args := [d1, d2, d3, d4] }
  | _ => none }
def imageHoldsRow : OpenClaim := { program := "ytpopbkiphdcilaa", sum := "0df2027e15f6d29dd821494506e46c67fd8ac797161b5d252fa4504da3eaf1f2", func := "betrothal/betrothallaw08.ImageHolds", spec := "imageHolds", unfollowed := true, recurses := true, apart := false }
def ImageHoldsSaid : Prop := imageHoldsRow.holds Try.pinned (OpenSpec.ofChange imageHoldsSpec)

/-- ITS FALSE NEIGHBOUR: 'it returns false'. Refute it at one input. -/
def imageHoldsWrong : ChangeSpec := { name := "imageHolds", fn := fun _ => fun
  | [d1, d2, d3, d4] => { results := [.lit (.bool false)], args := [d1, d2, d3, d4] }
  | _ => none }
def ImageHoldsWrongFalsely : Prop := imageHoldsRow.holds Try.pinned (OpenSpec.ofChange imageHoldsWrong)

/- THE SECOND FORM. 'bulk': how many values and letters a reading holds, each counted each time it is reached (what is shared counts as often as it is met; a slice's spare places count too). A statement '..UptoSaid' is the law's where the arguments, and the package variables that the reading takes, are together of bulk at most 1048576: NARROWER than '..Said'. Prove '..Said' where nothing that the law and all that it calls make is longer than what came in: it says more and counts as full. Else prove '..UptoSaid'. A law counts once. -/
mutual
def uptoBulk {H : Type} : DataW H → Nat
  | .lit (.string bytes) => bytes.length + 1
  | .lit _ => 1
  | .nil => 1
  | .ptr d => uptoBulk d + 1
  | .slice elems spare => uptoBulkAll elems + uptoBulkAll spare + 1
  | .agg parts => uptoBulkAll parts + 1
  | .iface _ d => uptoBulk d + 1
  | .map entries => uptoBulkEntries entries + 1
  | .held _ => 1
def uptoBulkAll {H : Type} : List (DataW H) → Nat
  | [] => 0
  | d :: r => uptoBulk d + uptoBulkAll r
def uptoBulkEntries {H : Type} : List (Lit × DataW H) → Nat
  | [] => 0
  | x :: r => uptoBulkEntry x + uptoBulkEntries r
def uptoBulkEntry {H : Type} : Lit × DataW H → Nat
  | (.string bytes, d) => bytes.length + uptoBulk d + 1
  | (_, d) => uptoBulk d + 1
 end
def uptoSmall : (H : Type) → List (DataW H) → Bool := fun _ ds => decide (uptoBulkAll ds ≤ 1048576)
def OpenSpec.upto (s : _root_.Go.ChangeSpec) : _root_.Go.OpenSpec := { _root_.Go.OpenSpec.ofChange s with cond := some uptoSmall }

/-- 'betrothallaw08.ImageEncodes', WHERE WHAT IT READS IS OF BULK AT MOST 1048576: true; the input reads as it did. -/
def imageEncodesUptoRow : OpenClaim := { program := "ytpopbkiphdcilaa", sum := "0df2027e15f6d29dd821494506e46c67fd8ac797161b5d252fa4504da3eaf1f2", func := "betrothal/betrothallaw08.ImageEncodes", spec := "imageEncodes", unfollowed := true, recurses := true, apart := false, narrowed := true }
def ImageEncodesUptoSaid : Prop := imageEncodesUptoRow.holds Try.pinned (OpenSpec.upto imageEncodesSpec)

/-- 'betrothallaw08.ImageSums', WHERE WHAT IT READS IS OF BULK AT MOST 1048576: true; the input reads as it did. -/
def imageSumsUptoRow : OpenClaim := { program := "ytpopbkiphdcilaa", sum := "0df2027e15f6d29dd821494506e46c67fd8ac797161b5d252fa4504da3eaf1f2", func := "betrothal/betrothallaw08.ImageSums", spec := "imageSums", unfollowed := true, recurses := true, apart := false, narrowed := true }
def ImageSumsUptoSaid : Prop := imageSumsUptoRow.holds Try.pinned (OpenSpec.upto imageSumsSpec)

/-- 'betrothallaw08.ImageDecodes', WHERE WHAT IT READS IS OF BULK AT MOST 1048576: true; the input reads as it did. -/
def imageDecodesUptoRow : OpenClaim := { program := "ytpopbkiphdcilaa", sum := "0df2027e15f6d29dd821494506e46c67fd8ac797161b5d252fa4504da3eaf1f2", func := "betrothal/betrothallaw08.ImageDecodes", spec := "imageDecodes", unfollowed := true, recurses := true, apart := false, narrowed := true }
def ImageDecodesUptoSaid : Prop := imageDecodesUptoRow.holds Try.pinned (OpenSpec.upto imageDecodesSpec)

/-- 'betrothallaw08.ImageLong', WHERE WHAT IT READS IS OF BULK AT MOST 1048576: true; the input reads as it did. -/
def imageLongUptoRow : OpenClaim := { program := "ytpopbkiphdcilaa", sum := "0df2027e15f6d29dd821494506e46c67fd8ac797161b5d252fa4504da3eaf1f2", func := "betrothal/betrothallaw08.ImageLong", spec := "imageLong", unfollowed := true, recurses := true, apart := false, narrowed := true }
def ImageLongUptoSaid : Prop := imageLongUptoRow.holds Try.pinned (OpenSpec.upto imageLongSpec)

/-- 'betrothallaw08.ImagePlaces', WHERE WHAT IT READS IS OF BULK AT MOST 1048576: true; the input reads as it did. -/
def imagePlacesUptoRow : OpenClaim := { program := "ytpopbkiphdcilaa", sum := "0df2027e15f6d29dd821494506e46c67fd8ac797161b5d252fa4504da3eaf1f2", func := "betrothal/betrothallaw08.ImagePlaces", spec := "imagePlaces", unfollowed := true, recurses := true, apart := false, narrowed := true }
def ImagePlacesUptoSaid : Prop := imagePlacesUptoRow.holds Try.pinned (OpenSpec.upto imagePlacesSpec)

/-- 'betrothallaw08.ImageHolds', WHERE WHAT IT READS IS OF BULK AT MOST 1048576: true; the input reads as it did. -/
def imageHoldsUptoRow : OpenClaim := { program := "ytpopbkiphdcilaa", sum := "0df2027e15f6d29dd821494506e46c67fd8ac797161b5d252fa4504da3eaf1f2", func := "betrothal/betrothallaw08.ImageHolds", spec := "imageHolds", unfollowed := true, recurses := true, apart := false, narrowed := true }
def ImageHoldsUptoSaid : Prop := imageHoldsUptoRow.holds Try.pinned (OpenSpec.upto imageHoldsSpec)

end Rows
end Go.Proofs.Ytpopbkiphdcilaa
