/-
  A symbolic walk over the model's code: elements of arrays in memory. Names no program.
-/
import Derived.Test.YtccniliiiilbaaaSxV
namespace Go.Sx
set_option linter.unusedSimpArgs false
set_option linter.unusedVariables false
open Go.RowKit
section
variable {C : Ctx} {sl : List (Nat × SV)} {own : Owns} {G : Hp}
theorem quiet_indexA {T e : TypeId} {x ix : Operand} {te : TI} {len sz by' : Nat} {ze : List Value} {fl : List (Nat × Nat × Bool)} {b off : Nat} {k : IntKind} {n : Int} {y : SV}
    (hT : C.ty T = some ⟨.arr len e, sz, by', ze, fl⟩) (he : C.ty e = some te) (hx : ev sl x = some y) (hy : y.den = .pointer (some ⟨b, off, none⟩)) (hi : ev sl ix = some (.v (.int k n))) (h0 : 0 ≤ n) (h1 : n < (len : Int)) :
    Quiet C sl own G (.indexAddr T x ix) (.pointer (some ⟨b, off + n.toNat * te.size, none⟩)) := by
  intro a w d t pos aft g hs hh
  have hxv := ev_ok hs hx
  have hiv := ev_ok hs hi
  rw [hy] at hxv
  simp only [SV.den] at hiv
  have g1 := (C.tyok _ _ hT).k
  simp only [TK.fits] at g1
  simp only [execOp, hxv, hiv]
  rw [Sem.run_bind, indexAt_array g1 (C.tyok _ _ he) h0 h1]
  simp
end
end Go.Sx
