/-
  A symbolic walk over the model's code: append to a slice that was lent. Names no program.
-/
import Derived.Test.YtccniliiiilbaaaSxR
namespace Go.Sx
set_option linter.unusedSimpArgs false
set_option linter.unusedVariables false
open Go.RowKit
section
variable {C : Ctx} {K : List KI} {s : St} {R : Array Oper} {l : List Oper} {d : Option Tmp} {t : TypeId} {pos : String} {aft : Array Edge}
theorem go_append0 (k : Nat) {x y : Operand} {T e : TypeId} {te : TI} {sz by' : Nat} {ze : List Value} {fl : List (Nat × Nat × Bool)} {b n m : Nat} {v : Value} {xs news : List Value} {z : SV} {vx : SV}
    (hd : dOk C.nt d = true) (hT : C.ty T = some ⟨.slice e, sz, by', ze, fl⟩) (he : C.ty e = some te) (hsz : 0 < te.size) (hx : ev s.sl x = some vx) (hvx : vx.den = v) (hk : lk k s.own = some (b, .row v e te.size n xs))
    (hy : ev s.sl y = some z) (hsrc : Src C s z m news) (hl : news.length = m * te.size) (h1 : ∀ u ∈ news, u.oneCell' = true) (h63 : n + m ≤ 9223372036854775807) (hbytes : (n + m) * te.bytes ≤ 140737488355328)
    (h : ∀ v', SGo C (.ops R l :: K) ⟨putS d (.v v') s.sl, stk k (b, .row v' e te.size (n + m) (xs ++ news)) s.own, s.G, s.df⟩) :
    SGo C (.ops R (⟨d, .call ⟨.builtin .append, #[x, y], #[T, T]⟩, t, pos, aft, none⟩ :: l) :: K) s := by
  intro a w hS
  have hxv := ev_ok hS.sl hx
  have hyv := ev_ok hS.sl hy
  rw [hvx] at hxv
  obtain ⟨ad, c, hz, hnews⟩ := hsrc w hS.mem
  rw [hz] at hyv
  have g1 := (C.tyok _ _ hT).k
  simp only [TK.fits] at g1
  obtain ⟨f1, f2⟩ := hS.mem.own _ _ _ hk
  simp only [OO.holds] at f1
  obtain ⟨v', w', hr, k1, k2, k3⟩ := append_row (P := C.P) (w := w) 0 T t e g1 (C.tyok _ _ he) hsz v n xs f1 ad m c news hl hnews h1 h63 hbytes (Nat.zero_le _)
  have hrun : (execOp a.eval ⟨d, .call ⟨.builtin .append, #[x, y], #[T, T]⟩, t, pos, aft, none⟩).run C.P w = .ok (.value v') w' := by
    simp only [execOp, resolve, invoke, builtin, Sem.run_bind, Sem.run_pure, Result.andThen_ok, List.map_toArray, List.map_cons, List.map_nil, hxv, hyv, hr]
  have hm' : Mem C (stk k (b, .row v' e te.size (n + m) (xs ++ news)) s.own) s.G w' :=
    hS.mem.put hk k2.os k2.tape k2.output k2.size (fun j hj hne => k2.block j hj (fun q => hne q.symm)) k1 (fun g => ⟨fun hg => k3 g hg, fun hg => k3 g hg⟩)
  refine K_value rfl hrun ?_
  have := h v' _ _ (hS.put hd (.v v') hm')
  simpa only [SV.den] using this
end
end Go.Sx
