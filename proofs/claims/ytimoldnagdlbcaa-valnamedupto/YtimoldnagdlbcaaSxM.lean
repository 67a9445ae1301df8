/-
  A symbolic walk over the model's code: functions that call yield. Generic: names no program.
-/
import Derived.Test.YtimoldnagdlbcaaSxL
namespace Go.Sx
set_option linter.unusedSimpArgs false
set_option linter.unusedVariables false
open Go.RowKit

/-! ### What a call of yield does -/

/-- What became of a world whose blocks M alone were written (of those that were there), the zone Z, M being Z', M' now. -/
structure YRes (w : World) (Z M : Nat → Prop) (w' : World) (Z' M' : Nat → Prop) : Prop where
  fr : Fr w w'
  z : ∀ g, Z' g → Z g ∨ w.heap.size ≤ g
  m : ∀ g, M' g → M g ∨ w.heap.size ≤ g
  same : ∀ g, g < w.heap.size → ¬ M g → w'.heap[g]? = w.heap[g]?

def YCall (P : Program) (l : Nat) (vs : List Value) (W : World) (R : Value → World → Prop) : Prop :=
  ∃ fn tmps assign body, (Instr.yield l vs.toArray).run P W = .ok (.round l fn tmps assign body) W ∧ RoundIn Fence.wide 0 P l fn tmps assign body W (fun e W' => ∃ v, e = .returned v ∧ R v W')

/-- Yield takes the values number 0 to N - 1 ('enc'), one behind the other; it answers true, and A goes on, or false, and B holds. -/
def YOk (P : Program) (l : Nat) (A : Nat → Zn) (B : Zn) (enc : Nat → List Value → Hp → Prop) (N : Nat) : Prop :=
  ∀ k vs W Z M G, k < N → (A k).A Z M W → Has W G → (∀ g, M g → G g = none) → enc k vs G →
    YCall P l vs W (fun v W' => ∃ Z' M', YRes W Z M W' Z' M' ∧ ((v = .bool true ∧ (A (k + 1)).A Z' M' W') ∨ (v = .bool false ∧ B.A Z' M' W')))

def RetZ (w : World) (Z M : Nat → Prop) (G : Hp) (φ : Value → Hp → Zn → Prop) : Ending → World → Prop :=
  fun e w' => ∃ v G' Y Z' M', e = .returned v ∧ YRes w Z M w' Z' M' ∧ Has w' G' ∧ (∀ b, b < w.heap.size → G' b = G b) ∧ (∀ g, M' g → G' g = none) ∧ Y.A Z' M' w' ∧ φ v G' Y
/-- A function that is called where A0 holds of a zone, and calls yield. -/
def YFun (P : Program) (f : FuncId) (args : List Value) (G : Hp) (A0 : Zn) (φ : Value → Hp → Zn → Prop) : Prop :=
  ∀ w Z M, Has w G → A0.A Z M w → (∀ g, M g → G g = none) → Calls P f args.toArray w (RetZ w Z M G φ)
/-- An iterator over the values number 0 to N - 1. -/
def Iter (P : Program) (f : FuncId) (cap : List Value) (G : Hp) (enc : Nat → List Value → Hp → Prop) (N : Nat) : Prop :=
  ∀ l A B, YOk P l A B enc N → YFun P f (.func (.yield l) #[] #[] :: cap) G (A 0) (fun _ _ Y => Y = A N ∨ Y = B)

/-- A zone that has not taken in any other old block than those of Z0. -/
def lim (Y : Zn) (Z0 : Nat → Prop) (n0 : Nat) : Zn where
  A Z M w := Y.A Z M w ∧ (∀ g, Z g → Z0 g ∨ n0 ≤ g)
  lt Z M w h := Y.lt Z M w h.1
  sub Z M w h := Y.sub Z M w h.1
  st Z M w w' h hf hs := ⟨Y.st Z M w w' h.1 hf hs, h.2⟩

section
variable {C : Ctx} {K : List KI} {s : St} {R : Array Oper} {l : List Oper} {d : Option Tmp} {t : TypeId} {pos : String} {aft : Array Edge}

theorem Mem.zone {own : List (Nat × Nat × OO)} {G G' : Hp} {w w' : World} (h : Mem C own G w) {k b : Nat} {Y Y' : Zn} {Z M Z' M' : Nat → Prop} (hk : lk k own = some (b, .z Y Z M)) (hr : YRes w Z M w' Z' M') (hY : Y'.A Z' M' w')
    (hG : Has w' G') (hold : ∀ b, b < w.heap.size → G' b = G b) (hM : ∀ g, M' g → G' g = none) : Mem C (stk k (b, .z Y' Z' M') own) G' w' := by
  obtain ⟨g1, g2⟩ := h.own _ _ _ hk
  have hMZ : ∀ g, M g → Z g := fun g hg => Y.sub Z M w g1 g hg
  refine ⟨fun j c x e => ?_, fun j j' c c' x x' g e e' f f' => ?_, ?_⟩
  · rw [lk_stk] at e
    split at e
    · rename_i hj; subst hj; cases e
      refine ⟨hY, fun g hg => ?_⟩
      rcases hr.m g hg with q | q
      · obtain ⟨_, q2, q3⟩ := g2 g q
        exact ⟨hM g hg, q2, q3⟩
      · exact ⟨hM g hg, fun _ => Nat.le_trans h.grow.size q, fun _ => .inr (Nat.le_trans h.grow.size q)⟩
    · rename_i hj
      obtain ⟨f1, f2⟩ := h.own _ _ _ e
      refine ⟨OO.holds_same f1 hr.fr fun g hg => ?_, fun g hg => ?_⟩
      · exact hr.same g (h.lt e hg) fun q => hj (h.inj _ _ _ _ _ _ g e hk hg (hMZ g q))
      · obtain ⟨q1, q2, q3⟩ := f2 g hg
        exact ⟨by rw [hold g (h.ltm e hg)]; exact q1, q2, q3⟩
  · have key : ∀ {j c x}, lk j own = some (c, x) → x.blks c g → Z' g → j = k := by
      intro j c x e f f'
      rcases hr.z g f' with q | q
      · exact h.inj _ _ _ _ _ _ g e hk f q
      · have := h.lt e f; omega
    rw [lk_stk] at e e'
    split at e <;> split at e'
    · omega
    · rename_i h1 h2; cases e; exact absurd (key e' f' f) h2
    · rename_i h1 h2; cases e'; exact absurd (key e f f') h1
    · exact h.inj _ _ _ _ _ _ _ e e' f f'
  · have hg := h.grow
    refine ⟨hr.fr.os.trans hg.os, hr.fr.tape.trans hg.tape, hr.fr.output.trans hg.output, Nat.le_trans hg.size hr.fr.size, fun j hj hm => ?_, hG, fun b hb => by rw [hold b (by have := hg.size; omega)]; exact hg.old b hb⟩
    rw [hr.same j (by have := hg.size; omega) ?_]; exact hg.blk j hj hm
    intro q
    obtain ⟨_, q3, q4⟩ := g2 j q
    rcases Nat.lt_or_ge k C.mh with r | r
    · exact (q4 r).elim hm (fun q5 => by omega)
    · have := q3 r; omega

/-- A call of yield. -/
theorem go_yield (ky : Nat) {y : Operand} {lp : Nat} {args : Array Operand} {tys : Array TypeId} {vs : List SV} {A : Nat → Zn} {B : Zn} {enc : Nat → List Value → Hp → Prop} {N k b n0 : Nat} {Z0 Z M : Nat → Prop}
    (hy : YOk C.P lp A B enc N) (hd : dOk C.nt d = true) (hv : ev s.sl y = some (.v (.func (.yield lp) #[] #[]))) (ha : evs s.sl args.toList = some vs) (hk : lk ky s.own = some (b, .z (lim (A k) Z0 n0) Z M)) (hn0 : n0 = C.w0.heap.size) (hkN : k < N) (henc : enc k (dens vs) s.G)
    (h1 : ∀ Z' M', SGo C (.ops R l :: K) ⟨putS d (.b true) s.sl, stk ky (b, .z (lim (A (k + 1)) Z0 n0) Z' M') s.own, s.G, s.df⟩)
    (h2 : ∀ Z' M', SGo C (.ops R l :: K) ⟨putS d (.b false) s.sl, stk ky (b, .z (lim B Z0 n0) Z' M') s.own, s.G, s.df⟩) :
    SGo C (.ops R (⟨d, .call ⟨.value y, args, tys⟩, t, pos, aft, none⟩ :: l) :: K) s := by
  intro a w hS
  have hargs : args.map a.eval = (dens vs).toArray := by apply Array.ext'; rw [Array.toList_map]; exact evs_ok hS.sl ha
  have hyv := ev_ok hS.sl hv
  simp only [SV.den] at hyv
  obtain ⟨g1, g2⟩ := hS.mem.own _ _ _ hk
  obtain ⟨g1a, g1b⟩ := g1
  obtain ⟨fn, tmps, assign, body, hrun0, hround⟩ := hy k (dens vs) w Z M s.G hkN g1a hS.mem.has (fun g hg => (g2 g hg).1) henc
  have hrun : (execOp a.eval ⟨d, .call ⟨.value y, args, tys⟩, t, pos, aft, none⟩).run C.P w = .ok (.round lp fn tmps assign body) w := by
    simp only [execOp, resolve, hargs, hyv, Deferred.ofValue, Sem.run_bind, Sem.run_pure, Result.andThen_ok, invoke]
    simpa using hrun0
  refine K_op rfl ⟨fun _ _ => trivial, ?_⟩
  have hsem := semAt_run (ro := C.ro) hrun (by simp)
  show Oper.uponIn _ _ _ _ _ _ _ ((Oper.semAt C.ro a.eval _).run C.P w)
  rw [hsem]
  refine ⟨FR_depth _ _, ?_⟩
  have hround' : RoundIn (FR C.ro) 0 C.P lp fn tmps assign body w _ := hround
  refine hround'.mono ?_
  rintro e w' ⟨v, rfl, Z', M', hr, hcase⟩
  have hn := hS.mem.grow.size
  have hz0 : ∀ g, Z' g → Z0 g ∨ n0 ≤ g := fun g hg => (hr.z g hg).elim (g1b g) (fun q => .inr (by omega))
  have hGw : Has w' s.G := fun j x e => by
    have := hS.mem.has j x e
    rw [hr.same j (lt_of_heap this) (fun q => by rw [(g2 j q).1] at e; cases e)]; exact this
  have hMG : ∀ g, M' g → s.G g = none := fun g hg => by
    rcases hr.m g hg with q | q
    · exact (g2 g q).1
    · cases hG : s.G g with
      | none => rfl
      | some x => have := lt_of_heap (hS.mem.has g x hG); omega
  rcases hcase with ⟨rfl, hA⟩ | ⟨rfl, hA⟩
  · exact h1 Z' M' _ _ (hS.put hd (.b true) (hS.mem.zone hk hr (Y' := lim (A (k + 1)) Z0 n0) ⟨hA, hz0⟩ hGw (fun _ _ => rfl) hMG))
  · exact h2 Z' M' _ _ (hS.put hd (.b false) (hS.mem.zone hk hr (Y' := lim B Z0 n0) ⟨hA, hz0⟩ hGw (fun _ _ => rfl) hMG))

/-- A call of a function that calls yield. -/
theorem go_callz (ky : Nat) {f : FuncId} {args : Array Operand} {tys : Array TypeId} {vs : List SV} {Y : Zn} {φ : Value → Hp → Zn → Prop} {b n0 : Nat} {Z0 Z M : Nat → Prop}
    (hd : dOk C.nt d = true) (hf : canCall C.P f = true) (ha : evs s.sl args.toList = some vs) (hk : lk ky s.own = some (b, .z (lim Y Z0 n0) Z M)) (hn0 : n0 = C.w0.heap.size) (hc : YFun C.P f (dens vs) s.G Y φ)
    (h : ∀ v G' Y' Z' M', Le s.G G' → φ v G' Y' → SGo C (.ops R l :: K) ⟨putS d (rv v) s.sl, stk ky (b, .z (lim Y' Z0 n0) Z' M') s.own, G', s.df⟩) :
    SGo C (.ops R (⟨d, .call ⟨.value (.func f), args, tys⟩, t, pos, aft, none⟩ :: l) :: K) s := by
  intro a w hS
  have hargs : args.map a.eval = (dens vs).toArray := by apply Array.ext'; rw [Array.toList_map]; exact evs_ok hS.sl ha
  have hrun : (execOp a.eval ⟨d, .call ⟨.value (.func f), args, tys⟩, t, pos, aft, none⟩).run C.P w = .ok (.enter f (dens vs).toArray) w := by
    simp only [execOp, resolve, hargs, Act.eval, Deferred.ofValue, Sem.run_bind, Sem.run_pure, Result.andThen_ok, invoke]
    simp [callFunc_ok hf]
  obtain ⟨g1, g2⟩ := hS.mem.own _ _ _ hk
  obtain ⟨g1a, g1b⟩ := g1
  refine K_enter rfl hrun ((hc w Z M hS.mem.has g1a (fun g hg => (g2 g hg).1)).mono ?_)
  rintro e w' ⟨v, G', Y', Z', M', rfl, hr, hG', hold, hMG, hA, hφ⟩
  have hn := hS.mem.grow.size
  have hz0 : ∀ g, Z' g → Z0 g ∨ n0 ≤ g := fun g hg => (hr.z g hg).elim (g1b g) (fun q => .inr (by omega))
  have hle : Le s.G G' := fun j x e => by rw [hold j (lt_of_heap (hS.mem.has j x e))]; exact e
  have hS' := hS.put hd (rv v) (hS.mem.zone hk hr (Y' := lim Y' Z0 n0) ⟨hA, hz0⟩ hG' hold hMG)
  rw [rv_den] at hS'
  exact ⟨_, rfl, h v G' Y' Z' M' hle hφ _ _ hS'⟩

open Classical in
/-- A function's beginning that is called where a zone is. -/
theorem enterZ {P : Program} {f : FuncId} {fn : Func} {G : Hp} {A0 : Zn} {φ : Value → Hp → Zn → Prop} (ty : TypeId → Option TI) (tyok : ∀ T i, ty T = some i → i.ok P T) {nt : Nat}
    (hf : P.funcs[f]? = some fn) (hb : fn.body.isSome = true) (hn : fn.ntmps = nt) (svs : List SV) (hargs : svs.length ≤ nt)
    (h : ∀ (C : Ctx) (Z M : Nat → Prop), C.P = P → C.Q = bodyPost C.P fn (RetZ C.w0 Z M G φ) → C.nt = nt → C.ty = ty → (∀ g, g ∈ C.mb → M g) → C.mh = 1 → C.ro = none → C.G0 = G →
      SGo C [.code (fn.body.getD .skip)] ⟨enumS 0 svs, [(0, 0, .z (lim A0 Z C.w0.heap.size) Z M)], G, []⟩) : YFun P f (dens svs) G A0 φ := by
  intro w Z M hw hA hMG
  refine calls_of_wp hf (body_eq hb) ((wpIn_wide (n := 0)).1 ?_)
  have := h ⟨P, bodyPost P fn (RetZ w Z M G φ), nt, ty, tyok, w, G, (List.range w.heap.size).filter (fun g => decide (M g)), 1, none⟩ Z M rfl rfl rfl rfl (fun g hg => by simpa using (List.mem_filter.1 hg).2) rfl rfl rfl
    { tmps := (dens svs).toArray ++ Array.replicate (fn.ntmps - (dens svs).toArray.size) undef, defers := [] } w
    ⟨slots_args _ _ _ (fun i x e => by have := (lk_enumS svs 0 i x e).2; simpa using this), by simp [hn, dens_eq]; omega, rfl, ⟨fun j c x e => ?_, fun j j' c c' x x' g e e' _ _ => ?_, Grow.refl hw⟩⟩
  · simp only [wpK] at this
    exact this
  · simp only [lk] at e
    split at e
    · rename_i hj; subst hj; cases e
      refine ⟨⟨hA, fun g hg => .inl hg⟩, fun g hg => ⟨hMG g hg, fun q => by simp at q, fun _ => .inl (List.mem_filter.2 ⟨List.mem_range.2 (A0.lt Z M w hA g (A0.sub Z M w hA g hg)), decide_eq_true hg⟩)⟩⟩
    · cases e
  · simp only [lk] at e e'
    split at e
    · split at e'
      · omega
      · cases e'
    · cases e

/-- The return of such a function. -/
theorem x_retZ {k : Code} (ht : tag k = 7) {fn : Func} {Z M : Nat → Prop} {G : Hp} {φ : Value → Hp → Zn → Prop} (hQ : C.Q = bodyPost C.P fn (RetZ C.w0 Z M G φ)) (hmb : ∀ g, g ∈ C.mb → M g) (hmh : C.mh = 1) (hG : C.G0 = G) {rs : List ResultVar} (hrs : fn.results.toList = rs) {xs : List SV}
    (hr : resAll s.sl C.ty s.own rs = some xs) (hdf : s.df = []) {b : Nat} {Y : Zn} {Z' M' : Nat → Prop} (hk : lk 0 s.own = some (b, .z (lim Y Z C.w0.heap.size) Z' M')) (h : φ (resV xs).den s.G Y) (hnb : noBr K = true := by rfl) : SGo C (.code k :: K) s := by
  intro a w hS
  cases k <;> simp [tag] at ht
  · rename_i a b c; cases c <;> simp at ht
  refine wpIn_ret ?_
  rw [wpK_ret _ _ _ hnb, hQ]
  obtain ⟨g1, g2⟩ := hS.mem.own _ _ _ hk
  have hg := hS.mem.grow
  refine ⟨by rw [hS.df, hdf], _, results_ok hS (by rw [hrs]; exact hr), _, s.G, Y, Z', M', rfl, ⟨hg.fr, g1.2, fun g hgm => ?_, fun g hlt hgm => hg.blk g hlt (fun q => hgm (hmb g q))⟩, hg.has, fun b hb => by rw [hg.old b hb, hG], fun g hgm => (g2 g hgm).1, g1.1, h⟩
  exact ((g2 g hgm).2.2 (by omega)).imp (hmb g) id
/-- Its end without a return statement. -/
theorem go_endZ {fn : Func} {Z M : Nat → Prop} {G : Hp} {φ : Value → Hp → Zn → Prop} (hQ : C.Q = bodyPost C.P fn (RetZ C.w0 Z M G φ)) (hmb : ∀ g, g ∈ C.mb → M g) (hmh : C.mh = 1) (hG : C.G0 = G) {rs : List ResultVar} (hrs : fn.results.toList = rs) {xs : List SV}
    (hr : resAll s.sl C.ty s.own rs = some xs) (hdf : s.df = []) {b : Nat} {Y : Zn} {Z' M' : Nat → Prop} (hk : lk 0 s.own = some (b, .z (lim Y Z C.w0.heap.size) Z' M')) (h : φ (resV xs).den s.G Y) : SGo C [] s := by
  intro a w hS
  show C.Q .normal a w
  rw [hQ]
  obtain ⟨g1, g2⟩ := hS.mem.own _ _ _ hk
  have hg := hS.mem.grow
  refine ⟨by rw [hS.df, hdf], _, results_ok hS (by rw [hrs]; exact hr), _, s.G, Y, Z', M', rfl, ⟨hg.fr, g1.2, fun g hgm => ?_, fun g hlt hgm => hg.blk g hlt (fun q => hgm (hmb g q))⟩, hg.has, fun b hb => by rw [hg.old b hb, hG], fun g hgm => (g2 g hgm).1, g1.1, h⟩
  exact ((g2 g hgm).2.2 (by omega)).imp (hmb g) id
end
end Go.Sx
