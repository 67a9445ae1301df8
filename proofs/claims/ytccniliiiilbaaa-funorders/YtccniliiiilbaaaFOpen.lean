/-
  What an argument of the type api.Fun reads as.
-/
import Derived.Test.YtccniliiiilbaaaF1
import Derived.Test.YtccniliiiilbaaaSxO2
namespace Go.Proofs.Ytccniliiiilbaaa
set_option linter.unusedSimpArgs false
set_option linter.unusedVariables false
open Go.Sx
section
variable {H : Type} {enc : TypeId × Value → H} {w : World}
theorem open_node {n : Nat} {d : DataW H} {ps : List MemPlace} {cs : List Value} (h : DataW.trod enc Try.prog w 0 (fun _ => true) true n 40 cs = some (d, ps)) : ∃ x : Nd, rN.e (hp w) x cs := by
  obtain ⟨y0, y1, y2, m, _, hlen, h0, h1, h2⟩ := Deep.trod_struct3 Try.underlying40 h
  rw [show Try.prog.cellsOf 40 = 3 by kernel_rfl] at hlen
  match cs, hlen with
  | [c0, c1, c2], _ =>
  have e1 : Try.prog.cellsOf 37 = 1 := by kernel_rfl
  have e2 : Try.prog.cellsOf 2 = 1 := by kernel_rfl
  have e3 : Try.prog.cellsOf 38 = 1 := by kernel_rfl
  simp only [e1, e2, e3, List.drop_zero, List.drop_succ_cons, List.take_succ_cons, List.take_zero] at h0 h1 h2
  obtain ⟨k, hk, wk⟩ := open_int1 Try.underlying37 e1 h0
  obtain ⟨m, hm, wm⟩ := open_int1 Try.underlying2 e2 h1
  obtain ⟨sl, l, hs, hS⟩ := open_ints Try.underlying38 Try.underlying3 (by kernel_rfl) h2
  cases hk; cases hm; cases hs
  exact ⟨⟨k, m, l⟩, _, rfl, wk, wm, hS⟩
theorem open_fun {n : Nat} {d : DataW H} {ps : List MemPlace} {cs : List Value} (h : DataW.trod enc Try.prog w 0 (fun _ => true) true n 24 cs = some (d, ps)) : ∃ (f : Fu) (ns : Value), cs = [.int .i64 f.params, ns] ∧ isI64 f.params ∧ rN.S (hp w) f.nodes ns := by
  obtain ⟨y0, y1, m, _, hlen, h0, h1⟩ := trod_struct2 Try.underlying24 h
  rw [show Try.prog.cellsOf 24 = 2 by kernel_rfl] at hlen
  match cs, hlen with
  | [c0, c1], _ =>
  have e1 : Try.prog.cellsOf 3 = 1 := by kernel_rfl
  have e2 : Try.prog.cellsOf 22 = 1 := by kernel_rfl
  simp only [e1, e2, List.drop_zero, List.drop_succ_cons, List.take_succ_cons, List.take_zero] at h0 h1
  obtain ⟨k, hk, wk⟩ := open_int1 Try.underlying3 e1 h0
  obtain ⟨sl, l, hs, hS⟩ := open_list rN Try.underlying22 (by kernel_rfl) (by decide) (fun n d ps cs h _ => open_node h) h1
  cases hk; cases hs
  exact ⟨⟨k, l⟩, _, rfl, wk, hS⟩
end
end Go.Proofs.Ytccniliiiilbaaa
