/-
  A symbolic walk over the model's code: slices compared with nil. Names no program.
-/
import Derived.Test.YtccniliiiilbaaaSxU
namespace Go.Sx
set_option linter.unusedSimpArgs false
set_option linter.unusedVariables false
open Go.RowKit
section
variable {C : Ctx} {sl : List (Nat × SV)} {own : Owns} {G : Hp}
theorem equalIn_s0 {P : Program} {T e : TypeId} (hT : P.underlying T = some (.slice e)) (d n c : Nat) (w : World) : (Op.equalIn (d + 1) T (.slice none n c) (.slice none 0 0)).run P w = .ok true w := by
  simp only [Op.equalIn, Sem.run_bind, run_und w hT, Result.andThen_ok, Sem.run_pure]; rfl
theorem equalIn_s1 {P : Program} {T e : TypeId} (hT : P.underlying T = some (.slice e)) (d : Nat) (a : Addr) (n c : Nat) (w : World) : (Op.equalIn (d + 1) T (.slice (some a) n c) (.slice none 0 0)).run P w = .ok false w := by
  simp only [Op.equalIn, Sem.run_bind, run_und w hT, Result.andThen_ok, Sem.run_pure]
theorem equal_s {P : Program} {T e : TypeId} (hT : P.underlying T = some (.slice e)) (ad : Option Addr) (n c : Nat) (w : World) : (Op.equal T (.slice ad n c) (.slice none 0 0)).run P w = .ok ad.isNone w := by
  cases ad with
  | none => exact equalIn_s0 hT 9999 n c w
  | some a => exact equalIn_s1 hT 9999 a n c w
theorem quiet_snil {T e T' : TypeId} {x : Operand} {ad : Option Addr} {n c : Nat} {vx : SV} {sz by' : Nat} {ze : List Value} {fl : List (Nat × Nat × Bool)} (hT : C.ty T = some ⟨.slice e, sz, by', ze, fl⟩) (hx : ev sl x = some vx) (hv : vx.den = .slice ad n c) : Quiet C sl own G (.binOp .eql T x (.const (.slice none 0 0)) T') (.bool ad.isNone) := by
  intro a w d t pos aft g hs hh
  have hxv := ev_ok hs hx
  rw [hv] at hxv
  have hu := (C.tyok _ _ hT).k
  simp only [TK.fits] at hu
  have hc : a.eval (.const (.slice none 0 0)) = .slice none 0 0 := rfl
  simp only [execOp, hxv, hc]
  have h1 : (eqGuard .eql T x (.const (.slice none 0 0)) (.slice ad n c) (.slice none 0 0)).run C.P w = .ok () w := by simp [eqGuard]
  have h2 : (binOp .eql T (.slice ad n c) (.slice none 0 0)).run C.P w = .ok (.bool ad.isNone) w := by
    simp [binOp, equal_s hu]
  rw [Sem.run_bind]
  simp [h1, h2, Sem.run_bind]
end
end Go.Sx
