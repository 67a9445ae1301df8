/-
  A symbolic walk: deferred closures whose first operation is recover; functions with a deferred closure that hand rows out; calls of function values that write.
-/
import Derived.Test.YtpmmbjcgabnloaaZ3
set_option linter.unusedSimpArgs false
set_option linter.unusedVariables false
namespace Go.Sx
set_option linter.unusedSimpArgs false
set_option linter.unusedVariables false
open Go.RowKit
section
variable {C : Ctx} {sl : List (Nat × SV)} {own : List (Nat × Nat × OO)} {G : Hp}
theorem quiet_ieq_nil {T T' : TypeId} {x : Operand} {y : SV} {sz by' : Nat} {ze : List Value} {fl : List (Nat × Nat × Bool)} (hT : C.ty T = some ⟨.iface, sz, by', ze, fl⟩) (hx : ev sl x = some y) (hy : y.den = .nilIface) :
    Quiet C sl own G (.binOp .eql T x (.const .nilIface) T') (.bool true) := by
  intro a w dd t pos aft g hsl hh
  have hxv := ev_ok hsl hx
  rw [hy] at hxv
  have hu := iface_meths (C.tyok _ _ hT).k
  have hc : a.eval (.const .nilIface) = .nilIface := rfl
  simp only [execOp, hxv, hc]
  have h1 : (eqGuard .eql T x (.const .nilIface) .nilIface .nilIface).run C.P w = .ok () w := by simp [eqGuard]
  rw [Sem.run_bind]
  simp [h1, run_eql_nil_nil w T hu, Sem.run_bind]
theorem quiet_ieq_held {T T' u : TypeId} {v : Value} {x : Operand} {y : SV} {sz by' : Nat} {ze : List Value} {fl : List (Nat × Nat × Bool)} (hT : C.ty T = some ⟨.iface, sz, by', ze, fl⟩) (hx : ev sl x = some y) (hy : y.den = .iface u v) :
    Quiet C sl own G (.binOp .eql T x (.const .nilIface) T') (.bool false) := by
  intro a w dd t pos aft g hsl hh
  have hxv := ev_ok hsl hx
  rw [hy] at hxv
  have hu := iface_meths (C.tyok _ _ hT).k
  have hc : a.eval (.const .nilIface) = .nilIface := rfl
  simp only [execOp, hxv, hc]
  have h1 : (eqGuard .eql T x (.const .nilIface) (.iface u v) .nilIface).run C.P w = .ok () w := by simp [eqGuard]
  rw [Sem.run_bind]
  simp [h1, run_eql_held_nil w T u v hu, Sem.run_bind]
end
section
variable {G : Hp}
theorem enterClo2 {P : Program} {f : FuncId} {fn : Func} {u u' : FrameMode} {v : Value} {φ : FrameMode → Hp → Lds → Prop} {ow : Lds} (ty : TypeId → Option TI) (tyok : ∀ T i, ty T = some i → i.ok P T) {nt id d1 : Nat} {t1 : TypeId} {p1 : String} {a1 : Array Edge} {l : List Oper} {rest : Code}
    (hf : P.funcs[f]? = some fn) (hb : fn.body = some (.seq (.region id (⟨some d1, .call ⟨.builtin .recover, #[], #[]⟩, t1, p1, a1, none⟩ :: l).toArray false) rest)) (hn : fn.ntmps = nt) (hd1 : d1 < nt) (svs : List SV) (hargs : svs.length ≤ nt) {mh : Nat} (hmh : ow.length = mh)
    (hu : recOf u v u')
    (h : ∀ C : Ctx, C.P = P → C.Q = bodyPost C.P fn (RetW C.w0 G ow fun _ G' ow' => φ u' G' ow') → C.nt = nt → C.ty = ty → (∀ g, g ∈ C.mb → mutOf ow g) → C.mh = mh → C.ro = none → C.G0 = G → (∀ g, mutOf ow g → blkOf ow g) →
      SGo C [.ops (⟨some d1, .call ⟨.builtin .recover, #[], #[]⟩, t1, p1, a1, none⟩ :: l).toArray l, .code rest] ⟨putS (some d1) (.v v) (enumS 0 svs), enumO 0 ow, G, []⟩) : CloD P f (dens svs) G ow u φ := by
  intro w hw hL
  classical
  have hlt : ∀ g, blkOf ow g → g < w.heap.size := fun g ⟨i, b, o, e, hg⟩ => OO.holds_lt (hL.own i b o e).1 hg
  have hml : ∀ g, mutOf ow g → g < w.heap.size := fun g ⟨i, b, o, e, hg⟩ => hlt g ⟨i, b, o, e, OO.mut_blks (hL.own i b o e).1 hg⟩
  have hmem : ∀ g, g ∈ (List.range w.heap.size).filter (fun g => decide (mutOf ow g)) ↔ mutOf ow g := fun g => by
    simp only [List.mem_filter, List.mem_range, decide_eq_true_eq]
    exact ⟨fun q => q.2, fun q => ⟨hml g q, q⟩⟩
  have hlk : ∀ k b o, lk k (enumO 0 ow) = some (b, o) → ow[k]? = some (b, o) := fun k b o e => by
    rw [lk_enumO] at e; simpa using e
  have key := h ⟨P, bodyPost P fn (RetW w G ow fun _ G' ow' => φ u' G' ow'), nt, ty, tyok, w, G, (List.range w.heap.size).filter (fun g => decide (mutOf ow g)), mh, none⟩ rfl rfl rfl rfl (fun g hg => (hmem g).1 hg) rfl rfl rfl (fun g ⟨i, b, o, e, hg⟩ => ⟨i, b, o, e, OO.mut_blks (hL.own i b o e).1 hg⟩)
  have hS0 : Sat ⟨P, bodyPost P fn (RetW w G ow fun _ G' ow' => φ u' G' ow'), nt, ty, tyok, w, G, (List.range w.heap.size).filter (fun g => decide (mutOf ow g)), mh, none⟩ ⟨enumS 0 svs, enumO 0 ow, G, []⟩ { tmps := (dens svs).toArray ++ Array.replicate (fn.ntmps - (dens svs).toArray.size) undef, defers := [] } w := by
    refine ⟨slots_args _ _ _ (fun i x e => by have := (lk_enumS svs 0 i x e).2; simpa using this), by simp [hn, dens_eq]; omega, rfl, ⟨fun k b o e => ?_, fun k k' b b' o o' g e e' f f' => ?_, Grow.refl hw⟩⟩
    · have e' := hlk _ _ _ e
      obtain ⟨h1, h2⟩ := hL.own _ _ _ e'
      refine ⟨h1, fun g hg => ⟨h2 g hg, fun q => ?_, fun _ => .inl ((hmem g).2 ⟨_, _, _, e', hg⟩)⟩⟩
      have hk : k < ow.length := by
        rcases Nat.lt_or_ge k ow.length with q | q
        · exact q
        · rw [List.getElem?_eq_none q] at e'; cases e'
      have q : mh ≤ k := q
      omega
    · exact hL.inj _ _ _ _ _ _ g (hlk _ _ _ e) (hlk _ _ _ e') f f'
  have hS1 := hS0.put (d := some d1) (by simp [dOk]; exact hd1) (.v v) hS0.mem
  simp only [SV.den] at hS1
  have go := key _ w hS1
  simp only [wpK] at go
  rw [← wpOpsIn_eq_wpListIn l 1 (fun j => by simp [Nat.add_comm 1 j])] at go
  refine callsDIn_of_wpSIn hf hb trivial fun c₀ cs hu0 => ?_
  have hfin : ∀ (e : Exit) (a' : Act) (w' : World), bodyPost P fn (RetW w G ow fun _ G' ow' => φ u' G' ow') e a' w' → bodyPostS P fn c₀ cs (fun e u' w' => RetW w G ow (fun _ G' ow' => φ u' G' ow') e w') e a' ({ c₀ with mode := u' } :: cs) w' := by
    intro e a' w' hq
    cases e with
    | normal => obtain ⟨q1, q2⟩ := hq; exact ⟨q1, u', rfl, q2⟩
    | ret => obtain ⟨q1, q2⟩ := hq; exact ⟨q1, u', rfl, q2⟩
    | panic ch => obtain ⟨q1, q2⟩ := hq; exact ⟨q1, u', rfl, q2⟩
    | exit id => exact hq.elim
    | goto l => exact hq.elim
    | outgrown => exact ⟨u', hq⟩
  have hrest : ∀ (a : Act) (w' : World), rest.wpIn (FR none) 0 P (bodyPost P fn (RetW w G ow fun _ G' ow' => φ u' G' ow')) a w' → rest.wpSIn Fence.wide 0 P (bodyPostS P fn c₀ cs fun e u' w' => RetW w G ow (fun _ G' ow' => φ u' G' ow') e w') a ({ c₀ with mode := u' } :: cs) w' := by
    intro a w1 go b k hb' hr' hF' hroom
    obtain ⟨e, a', w', q, r⟩ := go b k ({ c₀ with mode := u' } :: cs) hr' hF' hroom
    exact ⟨e, a', _, w', rfl, hfin e a' w' q, r⟩
  have hrec : (match recoverD (c₀ :: cs) with | some (v, cs') => (v, cs') | none => (.nilIface, c₀ :: cs)) = (v, { c₀ with mode := u' } :: cs) := by
    rcases hu with ⟨rfl, rfl, rfl⟩ | ⟨rfl, rfl⟩
    · have : ({ c₀ with mode := .returning } : Frame) = c₀ := by cases c₀; simp_all
      rw [this]
      simp [recoverD, hu0]
    · simp [recoverD, hu0, pE]
  refine wpSIn_seq ?_
  intro b k hkb hro hF hroom
  have hrg : List.range (⟨some d1, .call ⟨.builtin .recover, #[], #[]⟩, t1, p1, a1, none⟩ :: l : List Oper).toArray.size = 0 :: List.range' 1 l.length := by
    rw [List.range_eq_range']; simp [List.range'_succ]
  have ho : (⟨some d1, .call ⟨.builtin .recover, #[], #[]⟩, t1, p1, a1, none⟩ :: l : List Oper).toArray[0]? = some ⟨some d1, .call ⟨.builtin .recover, #[], #[]⟩, t1, p1, a1, none⟩ := by simp
  generalize hR : (⟨some d1, .call ⟨.builtin .recover, #[], #[]⟩, t1, p1, a1, none⟩ :: l : List Oper).toArray = R at *
  have i0 : (lone (b.atR { tmps := (dens svs).toArray ++ Array.replicate (fn.ntmps - (dens svs).toArray.size) undef, defers := [] } (.code (.region id R false) :: k)) (c₀ :: cs) w).fenced P Fence.wide := fenced_calm hF hroom rfl
  generalize ha : ({ tmps := (dens svs).toArray ++ Array.replicate (fn.ntmps - (dens svs).toArray.size) undef, defers := [] } : Act) = a at *
  have hs0 := stepR_region (P := P) (b := b) (a := a) (k := k) (cs := c₀ :: cs) (w := w) (id := id) (ops := R)
  rw [hrg] at hs0
  have h1 : (lone (b.atR a (.inRegion R (0 :: List.range' 1 l.length) :: k)) (c₀ :: cs) w).fenced P Fence.wide := fenced_oper hF hroom ho (fun _ _ => trivial)
  have hg := stepGR_op (P := P) (b := b) (k := k) (cs := c₀ :: cs) (w := w) (a := a) (rest := List.range' 1 l.length) ho (by simp [Region.wanted])
  rw [hro, Oper.semAt_none] at hg
  have hfn : ∀ v, (b.atR a (.inRegion R (0 :: List.range' 1 l.length) :: k)).finish v = b.atR (a.put (some d1) v) (.inRegion R (List.range' 1 l.length) :: k) := by
    intro v; rw [Frame.finish_atR, ho]; rfl
  have hk : (b.atR a (.inRegion R (0 :: List.range' 1 l.length) :: k)).kind = .deferred := hkb
  have htr := tryRecover_deferred hk (c₀ :: cs)
  have hrun : (execOp a.eval ⟨some d1, .call ⟨.builtin .recover, #[], #[]⟩, t1, p1, a1, none⟩).run P w = .ok .recover w := rfl
  obtain ⟨e, a', w', hq, harr⟩ := wp_opsIn _ _ _ go b k ({ c₀ with mode := u' } :: cs) hro hF hroom
  refine ⟨e, a', { c₀ with mode := u' } :: cs, w', rfl, ?_, .of_steps (.head i0 hs0 (.one h1 (step_lone_go ?_))) harr⟩
  · cases e with
    | normal => exact hrest _ _ hq
    | ret => exact hfin _ _ _ (by simpa only [wpK] using hq)
    | panic ch => exact hfin _ _ _ (by simpa only [wpK] using hq)
    | exit id => exact hfin _ _ _ (by simpa only [wpK] using hq)
    | goto l => exact hfin _ _ _ (by simpa only [wpK] using hq)
    | outgrown => exact hfin _ _ _ (by simpa only [wpK] using hq)
  · rw [hg, ← hfn]
    simp only [Frame.atR, hro] at htr ⊢
    rcases hr : recoverD (c₀ :: cs) with _ | ⟨v1, cs1⟩
    · rw [hr] at hrec
      simp only [Prod.mk.injEq] at hrec
      simp [stepG.apply, hrun, htr, hr, ← hrec.1, ← hrec.2]
    · rw [hr] at hrec
      simp only [Prod.mk.injEq] at hrec
      simp [stepG.apply, hrun, htr, hr, ← hrec.1, ← hrec.2]
end
section
variable {C : Ctx} {K : List KI} {s : St} {R : Array Oper} {l : List Oper} {d : Option Tmp} {t : TypeId} {pos : String} {aft : Array Edge}
theorem leave_gen {fn : Func} {Rr : Ending → World → Prop} {a : Act} {w : World} (hS : Sat C s a w) {f : FuncId} {cap : List Value} (hdf : s.df = [dfn f cap]) {u : FrameMode} (hu : u ≠ .run) (hf : canCall C.P f = true) {ks : List Nat} {ow : Lds}
    (hk : lkAll s.own ks = some ow) (hn : noDup ks = true) (hks : (∀ k ∈ ks, C.mh ≤ k) ∨ (∀ k ∈ ks, k < C.mh)) {ψ : FrameMode → Hp → Lds → Prop} (hc : CloD C.P f cap s.G ow u ψ)
    (h : ∀ u' G' ow', Le s.G G' → ψ u' G' ow' → settle u' = .returning ∧ ∀ (a : Act) (w : World), Sat C ⟨s.sl, setO ks ow' s.own, G', s.df⟩ a w → ∃ v, (results fn a.tmps).run C.P w = .ok v w ∧ Rr (.returned v) w) :
    LeavesIn Fence.wide 0 C.P fn a.tmps Rr a.defers u w := by
  rw [hS.df, hdf]
  refine leavesIn_cons (f := f) (args := cap.toArray) hu (by simp [Fence.wide]) (by simp [invoke, callFunc_ok hf]) (fun _ _ => trivial) ?_
  refine (hc w hS.mem.has (Lent.of hS.mem hk hn)).mono ?_
  rintro e u' w' ⟨v, G', ow', rfl, q1, q2, q3, q4, q5, q6, q7, q8, q9⟩
  have hle : Le s.G G' := fun b o e => by
    rw [q4 b (lt_of_heap (hS.mem.has b o e))]; exact e
  obtain ⟨h1, h2⟩ := h u' G' ow' hle q9
  have hm := hS.mem.lentM hk hn hks q1 q2 q3 q4 q5 q6 q7 q8
  have hS' : Sat C ⟨s.sl, setO ks ow' s.own, G', s.df⟩ a w' := ⟨hS.sl, hS.nt, hS.df, hm⟩
  simp only [h1]
  exact h2 a w' hS'
def RowsK (own : Owns) (k : Nat) (ws : List Rw) : Prop := (∃ b Z, lk k own = some (b, .z (ZR ws) Z Z)) ∨ ∀ r ∈ ws, r.v = .slice none 0 0 ∧ r.n = 0 ∧ r.xs = []
theorem zr_nil {ws : List Rw} (h : ∀ r ∈ ws, r.v = .slice none 0 0 ∧ r.n = 0 ∧ r.xs = []) (w : World) : (ZR ws).A (fun _ => False) (fun _ => False) w := by
  have hb : ∀ (i : Nat) (r : Rw), ws[i]? = some r → r.v.ownBlock = none := fun i r e => by
    obtain ⟨h1, _⟩ := h r (List.mem_of_getElem? e); rw [h1]; rfl
  refine ⟨fun i r e => ?_, fun i j r r' g e e' f f' => ?_, fun g => ⟨fun q => q.elim, fun ⟨i, r, e, q⟩ => ?_⟩, fun g q => q⟩
  · obtain ⟨h1, h2, h3⟩ := h r (List.mem_of_getElem? e)
    rw [h1, h2, h3]; exact ownsRow_nil _ _ _
  · rw [hb _ _ e] at f; cases f
  · rw [hb _ _ e] at q; cases q
theorem retv_of {s' : St} {fn : Func} {φ : Value → Hp → List Rw → Prop} (hmb : C.mb = []) (hmh : C.mh = 0) (k : Nat) {ws : List Rw} {xs : List SV} (hr : resAll s'.sl C.ty s'.own fn.results.toList = some xs) (hk : RowsK s'.own k ws) (h : φ (resV xs).den s'.G ws)
    {a : Act} {w : World} (hS : Sat C s' a w) : ∃ v, (results fn a.tmps).run C.P w = .ok v w ∧ RetV C.w0 C.G0 φ (.returned v) w := by
  refine ⟨_, results_ok hS hr, ?_⟩
  have hg := hS.mem.grow
  rw [hmb] at hg
  rcases hk with ⟨b, Z, hk⟩ | hk
  · obtain ⟨g1, g2⟩ := hS.mem.own _ _ _ hk
    refine ⟨_, _, ws, Z, rfl, hg, g1, fun g hb => ?_, h⟩
    obtain ⟨q1, q2, _⟩ := g2 g hb
    exact ⟨q1, q2 (by omega)⟩
  · exact ⟨_, _, ws, fun _ => False, rfl, hg, zr_nil hk w, fun g q => q.elim, h⟩
theorem x_retDV (k : Nat) {kc : Code} (ht : tag kc = 7) {fn : Func} {φ : Value → Hp → List Rw → Prop} (hQ : C.Q = bodyPostDIn Fence.wide 0 C.P fn (RetV C.w0 C.G0 φ)) (hmb : C.mb = []) (hmh : C.mh = 0) {f : FuncId} {cap : List Value} (hdf : s.df = [dfn f cap]) (hf : canCall C.P f = true) {ks : List Nat} {ow : Lds}
    (hk : lkAll s.own ks = some ow) (hn : noDup ks = true) (hks : (∀ k ∈ ks, C.mh ≤ k) ∨ (∀ k ∈ ks, k < C.mh)) {ψ : FrameMode → Hp → Lds → Prop} (hc : CloD C.P f cap s.G ow .returning ψ)
    (h : ∀ u' G' ow', Le s.G G' → ψ u' G' ow' → settle u' = .returning ∧ ∃ xs ws, resAll s.sl C.ty (setO ks ow' s.own) fn.results.toList = some xs ∧ RowsK (setO ks ow' s.own) k ws ∧ φ (resV xs).den G' ws) (hnb : noBr K = true := by rfl) : SGo C (.code kc :: K) s := by
  intro a w hS
  cases kc <;> simp [tag] at ht
  · rename_i a b c; cases c <;> simp at ht
  refine wpIn_ret ?_
  rw [wpK_ret _ _ _ hnb, hQ]
  refine leave_gen hS hdf (by simp) hf hk hn hks hc fun u' G' ow' hle hψ => ?_
  obtain ⟨h1, xs, ws, h2, h3, h4⟩ := h u' G' ow' hle hψ
  exact ⟨h1, fun a w hS => retv_of (s' := ⟨s.sl, setO ks ow' s.own, G', s.df⟩) hmb hmh k h2 h3 h4 hS⟩
theorem x_panDV (k : Nat) {fn : Func} {φ : Value → Hp → List Rw → Prop} {v : Value} (hQ : C.Q = bodyPostDIn Fence.wide 0 C.P fn (RetV C.w0 C.G0 φ)) (hmb : C.mb = []) (hmh : C.mh = 0) {f : FuncId} {cap : List Value} (hdf : s.df = [dfn f cap]) (hf : canCall C.P f = true) {ks : List Nat} {ow : Lds}
    (hk : lkAll s.own ks = some ow) (hn : noDup ks = true) (hks : (∀ k ∈ ks, C.mh ≤ k) ∨ (∀ k ∈ ks, k < C.mh)) {ψ : FrameMode → Hp → Lds → Prop} (hc : CloD C.P f cap s.G ow (.panicking [pE v]) ψ)
    (h : ∀ u' G' ow', Le s.G G' → ψ u' G' ow' → settle u' = .returning ∧ ∃ xs ws, resAll s.sl C.ty (setO ks ow' s.own) fn.results.toList = some xs ∧ RowsK (setO ks ow' s.own) k ws ∧ φ (resV xs).den G' ws) : SPan C v s := by
  intro a w hS
  rw [hQ]
  refine leave_gen hS hdf (by simp) hf hk hn hks hc fun u' G' ow' hle hψ => ?_
  obtain ⟨h1, xs, ws, h2, h3, h4⟩ := h u' G' ow' hle hψ
  exact ⟨h1, fun a w hS => retv_of (s' := ⟨s.sl, setO ks ow' s.own, G', s.df⟩) hmb hmh k h2 h3 h4 hS⟩
theorem enterDV {P : Program} {f : FuncId} {fn : Func} {G : Hp} {φ : Value → Hp → List Rw → Prop} (ty : TypeId → Option TI) (tyok : ∀ T i, ty T = some i → i.ok P T) {nt : Nat}
    (hf : P.funcs[f]? = some fn) (hb : fn.body.isSome = true) (hn : fn.ntmps = nt) (svs : List SV) (hargs : svs.length ≤ nt)
    (h : ∀ C : Ctx, C.P = P → C.Q = bodyPostDIn Fence.wide 0 C.P fn (RetV C.w0 C.G0 φ) → C.nt = nt → C.ty = ty → C.mb = [] → C.mh = 0 → C.ro = none → SGo C [.code (fn.body.getD .skip)] ⟨enumS 0 svs, [], G, []⟩) : PureV P f (dens svs) G φ := by
  intro w hw
  refine callsIn_wide.1 (callsIn_of_wp_defers (F := Fence.wide) (n := 0) hf (body_eq hb) trivial ?_)
  have := h ⟨P, bodyPostDIn Fence.wide 0 P fn (RetV w G φ), nt, ty, tyok, w, G, [], 0, none⟩ rfl rfl rfl rfl rfl rfl rfl { tmps := (dens svs).toArray ++ Array.replicate (fn.ntmps - (dens svs).toArray.size) undef, defers := [] } w
    ⟨slots_args _ _ _ (fun i x e => by have := (lk_enumS svs 0 i x e).2; simpa using this), by simp [hn, dens_eq]; omega, rfl, ⟨fun k b o e => by simp [lk] at e, fun k k' b b' o o' g e e' f f' => by simp [lk] at e, Grow.refl hw⟩⟩
  simp only [wpK] at this
  exact this
theorem retw0 {fn : Func} {G : Hp} {ow : Lds} {φ : Value → Hp → Lds → Prop} (hmb : ∀ g, g ∈ C.mb → mutOf ow g) {mh : Nat} (hmh : C.mh = mh) (hG : C.G0 = G) (hmub : ∀ g, mutOf ow g → blkOf ow g) (hml : ow.length = mh)
    (hrs : fn.results.toList = []) {ow' : Lds} (hp : pickO s.own 0 mh = some ow') (hpl : Plain (enumO 0 ow')) (h : ∀ v, φ v s.G ow') {a : Act} {w : World} (hS : Sat C s a w) :
    ∃ v, (results fn a.tmps).run C.P w = .ok v w ∧ RetW C.w0 G ow φ (.returned v) w := by
  have hg := hS.mem.grow
  obtain ⟨p1, p2⟩ := pickO_get hp
  have p3 : ∀ {i b o}, ow'[i]? = some (b, o) → lk i s.own = some (b, o) := fun {i b o} e => by simpa using p2 i _ e
  have p4 : ∀ {i b o}, ow'[i]? = some (b, o) → i < mh := fun {i b o} e => by
    rcases Nat.lt_or_ge i ow'.length with q | q
    · omega
    · rw [List.getElem?_eq_none q] at e; cases e
  have p5 : ∀ g, blkOf ow' g → mutOf ow' g := fun g ⟨i, b, o, e, hb⟩ => ⟨i, b, o, e, hpl i b o (by rw [lk_enumO]; simpa using e) g hb⟩
  have p6 : ∀ g, mutOf ow' g → mutOf ow g ∨ C.w0.heap.size ≤ g := fun g ⟨i, b, o, e, hb⟩ => by
    obtain ⟨_, q⟩ := hS.mem.own _ _ _ (p3 e)
    rcases (q g hb).2.2 (by rw [hmh]; exact p4 e) with q | q
    · exact .inl (hmb g q)
    · exact .inr q
  have hres : (results fn a.tmps).run C.P w = .ok (.tuple #[]) w := by
    have : fn.results = #[] := by simpa using hrs
    simp [results, this]
  refine ⟨_, hres, _, _, ow', rfl, hg.fr, fun g hg1 hg2 => ?_, hg.has, fun b hb => by rw [hg.old b hb, hG], ⟨fun i b o e => ?_, fun i j b b' o o' g e e' f f' => ?_⟩, by omega, fun g q => ?_, p6, h _⟩
  · exact hg.blk g hg1 fun q => hg2 (hmb g q)
  · obtain ⟨q1, q2⟩ := hS.mem.own _ _ _ (p3 e)
    exact ⟨q1, fun g q => (q2 g q).1⟩
  · exact hS.mem.inj _ _ _ _ _ _ g (p3 e) (p3 e') f f'
  · exact (p6 g (p5 g q)).imp (hmub g) id
theorem x_ret0 {kc : Code} (ht : tag kc = 7) {fn : Func} {G : Hp} {ow : Lds} {φ : Value → Hp → Lds → Prop} (hQ : C.Q = bodyPost C.P fn (RetW C.w0 G ow φ)) (hmb : ∀ g, g ∈ C.mb → mutOf ow g) {mh : Nat} (hmh : C.mh = mh) (hG : C.G0 = G) (hmub : ∀ g, mutOf ow g → blkOf ow g) (hml : ow.length = mh)
    (hrs : fn.results.toList = []) (hdf : s.df = []) {ow' : Lds} (hp : pickO s.own 0 mh = some ow') (hpl : Plain (enumO 0 ow')) (h : ∀ v, φ v s.G ow') (hnb : noBr K = true := by rfl) : SGo C (.code kc :: K) s := by
  intro a w hS
  cases kc <;> simp [tag] at ht
  · rename_i a b c; cases c <;> simp at ht
  refine wpIn_ret ?_
  rw [wpK_ret _ _ _ hnb, hQ]
  exact ⟨by rw [hS.df, hdf], retw0 hmb hmh hG hmub hml hrs hp hpl h hS⟩
theorem x_endWP {fn : Func} {G : Hp} {ow : Lds} {φ : Value → Hp → Lds → Prop} {ψ : Value → Prop} (hQ : C.Q = bodyPost C.P fn (RetWP C.w0 G ow φ ψ)) (hmb : ∀ g, g ∈ C.mb → mutOf ow g) {mh : Nat} (hmh : C.mh = mh) (hG : C.G0 = G) (hmub : ∀ g, mutOf ow g → blkOf ow g) (hml : ow.length = mh)
    (hrs : fn.results.toList = []) (hdf : s.df = []) {ow' : Lds} (hp : pickO s.own 0 mh = some ow') (hpl : Plain (enumO 0 ow')) (h : ∀ v, φ v s.G ow') : SGo C [] s := by
  intro a w hS
  show C.Q .normal a w
  rw [hQ]
  obtain ⟨v, h1, h2⟩ := retw0 hmb hmh hG hmub hml hrs hp hpl h hS
  exact ⟨by rw [hS.df, hdf], v, h1, .inl h2⟩
theorem go_callWv (ks : List Nat) {g : Operand} {f : FuncId} {cap : List Value} {z : SV} {args : Array Operand} {tys : Array TypeId} {vs : List SV} {ow : Lds} {φ : Value → Hp → Lds → Prop} (hd : dOk C.nt d = true) (hf : canCall C.P f = true) (hg : ev s.sl g = some z) (hz : z.den = .func (.func f) #[] cap.toArray) (ha : evs s.sl args.toList = some vs)
    (hk : lkAll s.own ks = some ow) (hn : noDup ks = true) (hks : (∀ k ∈ ks, C.mh ≤ k) ∨ (∀ k ∈ ks, k < C.mh)) (hc : PureW C.P f (dens vs ++ cap) s.G ow φ)
    (h : ∀ v G' ow', Le s.G G' → φ v G' ow' → SGo C (.ops R l :: K) ⟨putS d (rv v) s.sl, setO ks ow' s.own, G', s.df⟩) : SGo C (.ops R (⟨d, .call ⟨.value g, args, tys⟩, t, pos, aft, none⟩ :: l) :: K) s := by
  intro a w hS
  have hargs : args.map a.eval = (dens vs).toArray := by apply Array.ext'; rw [Array.toList_map]; exact evs_ok hS.sl ha
  have hgv := ev_ok hS.sl hg
  rw [hz] at hgv
  have hrun : (execOp a.eval ⟨d, .call ⟨.value g, args, tys⟩, t, pos, aft, none⟩).run C.P w = .ok (.enter f (dens vs ++ cap).toArray) w := by
    simp only [execOp, resolve, hargs, hgv, Deferred.ofValue, Sem.run_bind, Sem.run_pure, Result.andThen_ok, invoke]
    simp [callFunc_ok hf]
  refine K_enter rfl hrun ((hc w hS.mem.has (Lent.of hS.mem hk hn)).mono ?_)
  rintro e w' ⟨v, G', ow', rfl, q1, q2, q3, q4, q5, q6, q7, q8, q9⟩
  have hle : Le s.G G' := fun b o e => by
    rw [q4 b (lt_of_heap (hS.mem.has b o e))]; exact e
  have hS' := hS.put hd (rv v) (hS.mem.lentM hk hn hks q1 q2 q3 q4 q5 q6 q7 q8)
  rw [rv_den] at hS'
  exact ⟨_, rfl, h v G' ow' hle q9 _ _ hS'⟩
end
end Go.Sx
namespace Go.Proofs.Ytpmmbjcgabnloaa
set_option linter.unusedSimpArgs false
set_option linter.unusedVariables false
open Go.Sx
set_option maxHeartbeats 8000000
set_option maxRecDepth 20000
def faultV (e : Int) : Value := .iface 117 (.agg #[.int .i64 e])
theorem need_ok (b : Bool) (e : Int) (G : Hp) : PureWP Try.prog 36 [.bool b, .int .i64 e] G [] (fun _ _ ow => b = true ∧ ow = []) (fun v => v = faultV e ∧ b = false) := by
  refine enterWP ty tyok Try.func36 rfl Try.ntmps36 [.v (.bool b), .v (.int .i64 e)] (by simp) (mh := 0) rfl ?_
  intro C hP hQ hnt hty hmb hmh hro hG0 hmub; have hQp := qp_body hQ; refine st_ ?_
  simp only [enumO]
  refine rn_ ?_; intros
  refine x_split rfl rfl rfl (fun h => ?_) (fun h => ?_) <;> (refine st_ ?_; (refine ru_ ?_; intros))
  · refine rn_ ?_; intros
    refine go_panic rfl rfl rfl (x_panWP hQ hmb rfl ?_)
    exact ⟨rfl, by simpa using h⟩
  · refine rn_ ?_; intros
    refine x_endWP hQ hmb hmh hG0 hmub rfl rfl rfl rfl (by simp only [enumO]; exact (by repeat (first | exact plain_nil | refine plain_cons (fun _ h => h) ?_))) ?_
    intro _
    exact ⟨by simpa using h, rfl⟩
theorem catch_nil (be : Nat) (e : Int) (G : Hp) : PureW Try.prog 35 [.nilIface, .pointer (some ⟨be, 0, none⟩)] G [(be, .c 32 [.v (.int .i64 e)])] (fun _ _ ow => ow = [(be, .c 32 [.v (.int .i64 e)])]) := by
  refine enterW ty tyok Try.func35 rfl Try.ntmps35 [.v .nilIface, .p 0 be 0] (by simp) (mh := 1) rfl ?_
  intro C hP hQ hnt hty hmb hmh hro hG0 hmub; have hQp := qp_body hQ; refine st_ ?_
  simp only [enumO]
  refine rn_ ?_; intros
  refine go_q (by rw [hnt]; rfl) (quiet_ieq_nil (by rw [hty]; rfl) rfl rfl) ?_
  refine rn_ ?_; intros
  (refine x_split rfl rfl rfl (fun _ => ?_) (fun hc => absurd hc (by first | decide +kernel | (simp; first | done | fail))); refine st_ ?_; (refine ru_ ?_; intros))
  refine rn_ ?_; intros
  refine x_ret0 rfl hQ hmb hmh hG0 hmub rfl rfl rfl rfl (by simp only [enumO]; exact (by repeat (first | exact plain_nil | refine plain_cons (fun _ h => h) ?_))) ?_
  intro _
  rfl
theorem catch_f (be : Nat) (e e' : Int) (G : Hp) : PureW Try.prog 35 [faultV e', .pointer (some ⟨be, 0, none⟩)] G [(be, .c 32 [.v (.int .i64 e)])] (fun _ _ ow => ow = [(be, .c 32 [.v (.int .i64 e')])]) := by
  refine enterW ty tyok Try.func35 rfl Try.ntmps35 [.v (faultV e'), .p 0 be 0] (by simp) (mh := 1) rfl ?_
  intro C hP hQ hnt hty hmb hmh hro hG0 hmub; have hQp := qp_body hQ; refine st_ ?_
  simp only [enumO, faultV]
  refine rn_ ?_; intros
  refine go_q (by rw [hnt]; rfl) (quiet_ieq_held (by rw [hty]; rfl) rfl rfl) ?_
  refine rn_ ?_; intros
  (refine x_split rfl rfl rfl (fun hc => absurd hc (by first | decide +kernel | (simp; first | done | fail))) (fun _ => ?_); refine st_ ?_; (refine ru_ ?_; intros))
  refine rn_ ?_; intros
  refine go_q (by rw [hnt]; rfl) (quiet_is (by rw [hty]; rfl) rfl rfl) ?_
  refine rn_ ?_; intros
  (refine x_split rfl rfl rfl (fun hc => absurd hc (by first | decide +kernel | (simp; first | done | fail))) (fun _ => ?_); refine st_ ?_; (refine ru_ ?_; intros))
  refine rn_ ?_; intros
  refine x_endW hQ hmb hmh hG0 hmub rfl rfl rfl rfl (by simp only [enumO]; exact (by repeat (first | exact plain_nil | refine plain_cons (fun _ h => h) ?_))) ?_
  intro _
  rfl
def eC (be : Nat) (e : Int) : Nat × OO := (be, .c 32 [.v (.int .i64 e)])
def doC (be bt bv bc : Nat) (e : Int) (tv tp vk vn vl : Value) (can : Bool) : List (Nat × OO) := [eC be e, (bt, .c 44 [.v tv, .v tp]), (bv, .c 28 [.v vk, .v vn, .v vl]), (bc, .c 4 [.v (.bool can)])]
def doCap (be bt bv bc : Nat) : List Value := [.pointer (some ⟨be, 0, none⟩), .pointer (some ⟨bt, 0, none⟩), .pointer (some ⟨bv, 0, none⟩), .pointer (some ⟨bc, 0, none⟩)]
theorem doClo_idle (be bt bv bc : Nat) (tv tp vk vn vl : Value) (can : Bool) (G : Hp) : CloD Try.prog 39 (doCap be bt bv bc) G (doC be bt bv bc 0 tv tp vk vn vl can) .returning (fun u' _ ow => settle u' = .returning ∧ ow = doC be bt bv bc 0 tv tp vk vn vl can) := by
  refine enterClo2 ty tyok Try.func39 rfl Try.ntmps39 (by omega) [.p 0 be 0, .p 1 bt 0, .p 2 bv 0, .p 3 bc 0] (by simp) (mh := 4) rfl (.inl ⟨rfl, rfl, rfl⟩) ?_
  intro C hP hQ hnt hty hmb hmh hro hG0 hmub; have hQp := qp_body hQ; refine st_ ?_
  simp only [enumO, doC, eC]
  refine go_callW [0] (by rw [hnt]; rfl) (by rw [hP]; kernel_rfl) rfl rfl rfl (.inr (by rw [hmh]; decide)) (by rw [hP]; exact catch_nil be _ _) ?_
  rintro v G1 ow1 (hle1 : Le G G1) rfl
  simp only [setO]
  refine st_ ?_
  refine rn_ ?_; intros
  (refine x_split rfl rfl rfl (fun hc => absurd hc (by first | decide +kernel | (simp; first | done | fail))) (fun _ => ?_); refine st_ ?_; (refine ru_ ?_; intros))
  refine rn_ ?_; intros
  refine x_endW hQ hmb hmh hG0 hmub rfl rfl rfl rfl (by simp only [enumO]; exact (by repeat (first | exact plain_nil | refine plain_cons (fun _ h => h) ?_))) ?_
  intro _
  exact ⟨rfl, rfl⟩
theorem doClo_catch (be bt bv bc : Nat) (tv tp vk vn vl : Value) (can : Bool) (e0 e : Int) (he : e ≠ 0) (G : Hp) : CloD Try.prog 39 (doCap be bt bv bc) G (doC be bt bv bc e0 tv tp vk vn vl can) (.panicking [pE (faultV e)]) (fun u' _ ow => settle u' = .returning ∧ ow = doC be bt bv bc e (.slice none 0 0) (.slice none 0 0) (.int .i64 0) (.int .i64 0) (.slice none 0 0) false) := by
  refine enterClo2 ty tyok Try.func39 rfl Try.ntmps39 (by omega) [.p 0 be 0, .p 1 bt 0, .p 2 bv 0, .p 3 bc 0] (by simp) (mh := 4) rfl (.inr ⟨rfl, rfl⟩) ?_
  intro C hP hQ hnt hty hmb hmh hro hG0 hmub; have hQp := qp_body hQ; refine st_ ?_
  simp only [enumO, doC, eC]
  refine go_callW [0] (by rw [hnt]; rfl) (by rw [hP]; kernel_rfl) rfl rfl rfl (.inr (by rw [hmh]; decide)) (by rw [hP]; exact catch_f be _ _ _) ?_
  rintro v G1 ow1 (hle1 : Le G G1) rfl
  simp only [setO]
  refine st_ ?_
  refine rn_ ?_; intros
  (refine x_split rfl rfl rfl (fun _ => ?_) (fun hc => absurd hc (by simpa using he)); refine st_ ?_; (refine ru_ ?_; intros))
  refine rn_ ?_; intros
  refine go_see 3 [.v (.bool false)] rfl rfl ?_
  refine st_ ?_
  refine x_endW hQ hmb hmh hG0 hmub rfl rfl rfl rfl (by simp only [enumO]; exact (by repeat (first | exact plain_nil | refine plain_cons (fun _ h => h) ?_))) ?_
  intro _
  exact ⟨rfl, rfl⟩
def effV (K mo : Int) (pt : Bool) (f : Nat) : Value := .agg #[.int .i64 K, .int .i64 mo, .bool pt, .func (.func f) #[] #[]]
def effE : MEs := [(1, effV 2 1 false 60, 0), (2, effV 2 1 false 61, 1), (3, effV 2 0 false 62, 2), (4, effV 3 0 true 63, 3)]
theorem effects_ok (G : Hp) : Pure Try.prog 40 [] G (fun v G' => ∃ b, v = .map (some b) ∧ G' b = some (mObj .i64 effE 4)) := by
  refine enterX ty tyok Try.func40 rfl Try.ntmps40 [] (by simp) ?_
  intro C hP hQ hnt hty hmb hmh hro; have hQp := qp_body hQ; refine st_ ?_
  refine rn_ ?_; intros
  refine go_mkmap 40 .i64 (by rw [hnt]; rfl) rfl (by omega) ?_
  intro g
  refine rn_ ?_; intros
  refine go_mupd 40 (.inr rfl) (by rw [hnt]; rfl) (by rw [hty]; rfl) (by rw [hty]; rfl) rfl rfl rfl rfl ?_
  refine st_ ?_
  refine rn_ ?_; intros
  refine go_mupd 40 (.inr rfl) (by rw [hnt]; rfl) (by rw [hty]; rfl) (by rw [hty]; rfl) rfl rfl rfl rfl ?_
  refine st_ ?_
  refine rn_ ?_; intros
  refine go_mupd 40 (.inr rfl) (by rw [hnt]; rfl) (by rw [hty]; rfl) (by rw [hty]; rfl) rfl rfl rfl rfl ?_
  refine st_ ?_
  refine rn_ ?_; intros
  refine go_mupd 40 (.inr rfl) (by rw [hnt]; rfl) (by rw [hty]; rfl) (by rw [hty]; rfl) rfl rfl rfl rfl ?_
  refine st_ ?_
  refine rn_ ?_; intros
  refine go_pubx 40 (g := g) rfl (by omega) rfl (fun w h => h) ?_
  intro G1 hle1 hG1
  refine x_retc rfl hQ hmb rfl (by rw [hty]; simp only [so, sq, zy, zz, tyE, SO', SQ', opQ, opStore, opAlloc, ev, putS, dOk, cv, SV.cs, SV.one, SV.bool?, eqB, Value.oneCell', ldOwn, binInt, binConst, binBool, binStr, isC, TK.agg, rv, rv1, ldV, resOne, resV, Nat.reduceAdd, Nat.reduceMul, Nat.reduceSub, Nat.reduceLT, Nat.reduceLeDiff, Nat.reduceEqDiff, Nat.reduceBEq, reduceIte, reduceCtorEq, eq_self]; try rfl) rfl ?_; simp only [SV.den, resV, dens]
  exact ⟨g, rfl, hG1⟩
end Go.Proofs.Ytpmmbjcgabnloaa
namespace Go.Proofs.Ytpmmbjcgabnloaa
set_option linter.unusedSimpArgs false
set_option linter.unusedVariables false
open Go.Sx
set_option maxHeartbeats 8000000
set_option maxRecDepth 20000
def pOk (nv : Nat) : List Int → List Po → Bool
  | _, [] => true
  | sn, p :: r => p.nm.k == 4 && vld p.nm && !(sn.any fun m => m == p.nm.n) && decide (0 ≤ p.pt) && decide (p.pt ≤ nv) && pOk nv (sn ++ [p.nm.n]) r
def stOk (m : Int) (s : MS) : Bool := (m != 0) && !(decide (m < 3) && decide (1 < s.vals.length)) && !(decide (m < 4) && decide (0 < s.ps.length)) && s.vals.all vld && pOk s.vals.length [] s.ps
def mesN : Nat → List Int → MEs
  | _, [] => []
  | i, n :: l => (n, .bool true, i) :: mesN (i + 1) l
theorem mesN_get (i : Nat) (n : Int) : ∀ l : List Int, (mget n (mesN i l)).isSome = l.any fun m => m == n
  | [] => rfl
  | m :: l => by
    simp only [mesN, mget, List.any_cons]
    by_cases h : m = n
    · simp [h]
    · have := mesN_get (i + 1) n l
      simp [h, this]
theorem mesN_val (n : Int) : ∀ (i : Nat) (l : List Int), (mget n (mesN i l)).getD (.bool false) = .bool (l.any fun m => m == n)
  | i, [] => rfl
  | i, m :: l => by
    simp only [mesN, mget, List.any_cons]
    by_cases h : m = n
    · simp [h]
    · have := mesN_val n (i + 1) l
      simp [h, this]
theorem mesN_put (n : Int) (c : Nat) : ∀ (i : Nat) (l : List Int), (l.any fun m => m == n) = false → mput n (.bool true) (i + l.length) (mesN i l) = mesN i (l ++ [n])
  | i, [], _ => rfl
  | i, m :: l, h => by
    simp only [List.any_cons, Bool.or_eq_false_iff, beq_eq_false_iff_ne] at h
    have := mesN_put n c (i + 1) l h.2
    simp only [mesN, mput, List.cons_append, List.length_cons]
    rw [if_neg h.1, ← this]
    congr 2
    omega
theorem fits_ok (K mo : Int) (pt : Bool) (fn : Value) (s : MS) (sv sp : Value) (m : Int) (G : Hp) (hfn : fn.oneCell' = true) (hs : s.rep G sv sp) (hm : (mo = 1 ∧ pt = false ∧ (m = 1 ∨ m = 2)) ∨ (mo = 0 ∧ pt = false ∧ m = 3) ∨ (mo = 0 ∧ pt = true ∧ m = 4)) :
    Pure Try.prog 42 [.agg #[.int .i64 K, .int .i64 mo, .bool pt, fn], .agg #[sv, sp]] G (fun r _ => r = .bool (stOk m s)) := by
  have hv := hs.v
  have hp := hs.p
  obtain ⟨ad1, cap1, rfl⟩ := Rp.S_slice hv
  obtain ⟨ad2, cap2, rfl⟩ := Rp.S_slice hp
  have h63 := Rp.S_len hv
  have h64 := Rp.S_len hp
  refine enterX ty tyok Try.func42 rfl Try.ntmps42 [.a [.v (.int .i64 K), .v (.int .i64 mo), .v (.bool pt), .v fn], .a [.v (.slice ad1 s.vals.length cap1), .v (.slice ad2 s.ps.length cap2)]] (by simp) ?_
  intro C hP hQ hnt hty hmb hmh hro; have hQp := qp_body hQ; refine st_ ?_
  refine rn_ ?_; intros
  rename_i b2 b3
  refine cut_tail 2 (fun st => (!(decide (m < 3) && decide (1 < s.vals.length))) = true ∧ (!(decide (m < 4) && decide (0 < s.ps.length))) = true ∧
    st = ⟨[(2, .p 0 b2 0), (3, .p 1 b3 0)], [(0, b2, .c 89 [.v (.int .i64 K), .v (.int .i64 mo), .v (.bool pt), .v fn]), (1, b3, .c 44 [.v (.slice ad1 s.vals.length cap1), .v (.slice ad2 s.ps.length cap2)])], G, []⟩) ?_ (fun key => ?_)
  rotate_left
  · simp only [List.drop_succ_cons, List.drop_zero] at key
    have hst0 : ∀ b, (m < 3 ∧ 1 < s.vals.length) ∨ (m < 4 ∧ 0 < s.ps.length) → .bool false = Value.bool (stOk m s && b) := fun b h => by
      have : stOk m s = false := by
        rw [stOk]
        rcases h with ⟨h1, h2⟩ | ⟨h1, h2⟩
        · rw [decide_eq_true h1, decide_eq_true h2]; simp
        · rw [decide_eq_true h1, decide_eq_true h2]; simp
      rw [this, Bool.false_and]
    have hst : (m < 3 ∧ 1 < s.vals.length) ∨ (m < 4 ∧ 0 < s.ps.length) → Value.bool false = Value.bool (stOk m s) := fun h => by
      have := hst0 true h
      simpa using this
    have hkey : ¬ (m < 3 ∧ 1 < s.vals.length) → ¬ (m < 4 ∧ 0 < s.ps.length) → (!(decide (m < 3) && decide (1 < s.vals.length))) = true ∧ (!(decide (m < 4) && decide (0 < s.ps.length))) = true := fun h1 h2 => by
      constructor
      · rw [Bool.not_eq_true', Bool.eq_false_iff]; simpa using h1
      · rw [Bool.not_eq_true', Bool.eq_false_iff]; simpa using h2
    rcases hm with ⟨rfl, rfl, hm⟩ | ⟨rfl, rfl, rfl⟩ | ⟨rfl, rfl, rfl⟩
    · (refine go_gsplit rfl rfl (fun _ => ?_) (fun hc => absurd hc (by first | decide +kernel | (simp; first | done | fail))); refine st_ ?_; (try (refine runo0 400 hty hnt hmh ?_; refine st_ ?_)))
      refine go_gsplit rfl rfl (fun h2 => ?_) (fun h2 => ?_) <;> (refine st_ ?_; (try (refine runo0 400 hty hnt hmh ?_; refine st_ ?_)))
      · repeat (refine go_gundef rfl (by rw [hnt]; rfl) rfl ?_; (refine st_ ?_; (try (refine runo0 400 hty hnt hmh ?_; refine st_ ?_))))
        refine rn_ ?_; intros
        refine x_retc rfl hQ hmb rfl (by rw [hty]; simp only [so, sq, zy, zz, tyE, SO', SQ', opQ, opStore, opAlloc, ev, putS, dOk, cv, SV.cs, SV.one, SV.bool?, eqB, Value.oneCell', ldOwn, binInt, binConst, binBool, binStr, isC, TK.agg, rv, rv1, ldV, resOne, resV, Nat.reduceAdd, Nat.reduceMul, Nat.reduceSub, Nat.reduceLT, Nat.reduceLeDiff, Nat.reduceEqDiff, Nat.reduceBEq, reduceIte, reduceCtorEq, eq_self]; try rfl) rfl ?_; simp only [SV.den, resV, dens]
        have := of_decide_eq_true h2
        exact hst (.inl (by omega))
      have h2' := of_decide_eq_false h2
      (refine go_gsplit rfl rfl (fun _ => ?_) (fun hc => absurd hc (by first | decide +kernel | (simp; first | done | fail))); refine st_ ?_; (try (refine runo0 400 hty hnt hmh ?_; refine st_ ?_)))
      refine go_ops ?_
      refine x_if rfl rfl rfl rfl (fun h3 => ?_) (fun h3 => ?_)
      · have h3 := of_decide_eq_true h3
        refine rn_ ?_; intros
        refine x_retc rfl hQ hmb rfl (by rw [hty]; simp only [so, sq, zy, zz, tyE, SO', SQ', opQ, opStore, opAlloc, ev, putS, dOk, cv, SV.cs, SV.one, SV.bool?, eqB, Value.oneCell', ldOwn, binInt, binConst, binBool, binStr, isC, TK.agg, rv, rv1, ldV, resOne, resV, Nat.reduceAdd, Nat.reduceMul, Nat.reduceSub, Nat.reduceLT, Nat.reduceLeDiff, Nat.reduceEqDiff, Nat.reduceBEq, reduceIte, reduceCtorEq, eq_self]; try rfl) rfl ?_; simp only [SV.den, resV, dens]
        exact hst (.inr (by omega))
      · have h3 := of_decide_eq_false h3
        refine x_skip rfl ?_
        refine go_keep [2, 3] [0, 1] ?_
        refine st_ ?_
        have := hkey (by omega) (by omega)
        exact key _ ⟨this.1, this.2, rfl⟩
    · (refine go_gsplit rfl rfl (fun hc => absurd hc (by first | decide +kernel | (simp; first | done | fail))) (fun _ => ?_); refine st_ ?_; (try (refine runo0 400 hty hnt hmh ?_; refine st_ ?_)))
      (refine go_gsplit rfl rfl (fun _ => ?_) (fun hc => absurd hc (by first | decide +kernel | (simp; first | done | fail))); refine st_ ?_; (try (refine runo0 400 hty hnt hmh ?_; refine st_ ?_)))
      refine go_ops ?_
      refine x_if rfl rfl rfl rfl (fun h3 => ?_) (fun h3 => ?_)
      · have h3 := of_decide_eq_true h3
        refine rn_ ?_; intros
        refine x_retc rfl hQ hmb rfl (by rw [hty]; simp only [so, sq, zy, zz, tyE, SO', SQ', opQ, opStore, opAlloc, ev, putS, dOk, cv, SV.cs, SV.one, SV.bool?, eqB, Value.oneCell', ldOwn, binInt, binConst, binBool, binStr, isC, TK.agg, rv, rv1, ldV, resOne, resV, Nat.reduceAdd, Nat.reduceMul, Nat.reduceSub, Nat.reduceLT, Nat.reduceLeDiff, Nat.reduceEqDiff, Nat.reduceBEq, reduceIte, reduceCtorEq, eq_self]; try rfl) rfl ?_; simp only [SV.den, resV, dens]
        exact hst (.inr (by omega))
      · have h3 := of_decide_eq_false h3
        refine x_skip rfl ?_
        refine go_keep [2, 3] [0, 1] ?_
        refine st_ ?_
        have := hkey (by omega) (by omega)
        exact key _ ⟨this.1, this.2, rfl⟩
    · (refine go_gsplit rfl rfl (fun hc => absurd hc (by first | decide +kernel | (simp; first | done | fail))) (fun _ => ?_); refine st_ ?_; (try (refine runo0 400 hty hnt hmh ?_; refine st_ ?_)))
      (refine go_gsplit rfl rfl (fun hc => absurd hc (by first | decide +kernel | (simp; first | done | fail))) (fun _ => ?_); refine st_ ?_; (try (refine runo0 400 hty hnt hmh ?_; refine st_ ?_)))
      refine go_ops ?_
      refine x_iff rfl rfl rfl ?_
      refine x_skip rfl ?_
      refine go_keep [2, 3] [0, 1] ?_
      refine st_ ?_
      have := hkey (by omega) (by omega)
      exact key _ ⟨this.1, this.2, rfl⟩
  rintro st ⟨q1, q2, rfl⟩
  simp only [List.drop_succ_cons, List.drop_zero]
  have hfe : stOk m s = (s.vals.all vld && pOk s.vals.length [] s.ps) := by
    have h0 : (m != 0) = true := by rcases hm with ⟨_, _, rfl | rfl⟩ | ⟨_, _, rfl⟩ | ⟨_, _, rfl⟩ <;> rfl
    rw [stOk, q1, q2, h0]; rfl
  clear q1 q2 hm
  refine rn_ ?_; intros
  refine go_keep [2, 3, 33, 34, 35] [0, 1] ?_
  refine st_ ?_
  refine x_loop rfl (fun q st => ∃ (k : Nat) (G' : Hp), k ≤ s.vals.length ∧ q = s.vals.length - k ∧ Le G G' ∧ s.vals.all vld = (s.vals.drop k).all vld ∧
    st = ⟨[(2, .p 0 b2 0), (3, .p 1 b3 0), (33, .v (.slice ad1 s.vals.length cap1)), (34, .v (.int .i64 s.vals.length)), (35, .v (.int .i64 k))], [(0, b2, .c 89 [.v (.int .i64 K), .v (.int .i64 mo), .v (.bool pt), .v fn]), (1, b3, .c 44 [.v (.slice ad1 s.vals.length cap1), .v (.slice ad2 s.ps.length cap2)])], G', []⟩) ⟨0, G, by omega, rfl, Le.refl _, rfl, rfl⟩ ?_
  rintro q st ⟨k, G1, hk, hq, hle, hinv, rfl⟩ ih
  refine rn_ ?_; intros
  refine x_if rfl rfl rfl rfl (fun hjl => ?_) (fun hjl => ?_)
  · have hlt : k < s.vals.length := by simp at hjl; omega
    obtain ⟨c1, o1, sl, rfl, hat, hrep, hb⟩ := rV_at hv (i := k) hlt
    obtain ⟨asl, csl, rfl⟩ := VT.rep_slice hrep
    rw [List.drop_eq_getElem_cons hlt, List.all_cons] at hinv
    refine rn_ ?_; intros
    refine go_q (by rw [hnt]; rfl) (quiet_index (by rw [hty]; rfl) (by rw [hty]; rfl) rfl rfl rfl (by omega) (by omega)) ?_
    refine rn_ ?_; intros
    refine go_q (by rw [hnt]; rfl) (quiet_load (by rw [hty]; rfl) rfl (by simp [TK.agg]) (hat.mono hle) rfl) ?_
    refine rn_ ?_; intros
    refine go_callf (by rw [hnt]; rfl) (by rw [hP]; kernel_rfl) rfl (hP ▸ check_ok s.vals[k] _ _ (VT.rep_mono hle hrep)) ?_; refine rn_ ?_; intros
    rw [chk_ne0]
    refine x_split rfl rfl rfl (fun ha => ?_) (fun ha => ?_) <;> (refine st_ ?_; (refine ru_ ?_; intros))
    · refine rn_ ?_; intros
      refine x_retc rfl hQ hmb rfl (by rw [hty]; simp only [so, sq, zy, zz, tyE, SO', SQ', opQ, opStore, opAlloc, ev, putS, dOk, cv, SV.cs, SV.one, SV.bool?, eqB, Value.oneCell', ldOwn, binInt, binConst, binBool, binStr, isC, TK.agg, rv, rv1, ldV, resOne, resV, Nat.reduceAdd, Nat.reduceMul, Nat.reduceSub, Nat.reduceLT, Nat.reduceLeDiff, Nat.reduceEqDiff, Nat.reduceBEq, reduceIte, reduceCtorEq, eq_self]; try rfl) rfl ?_; simp only [SV.den, resV, dens]
      simp at ha
      rw [hfe, hinv, ha]; rfl
    have ha' : vld s.vals[k] = true := by simpa using ha
    rw [ha', Bool.true_and] at hinv
    refine rn_ ?_; intros
    rw [wr (n := (k : Int) + 1) (by omega) (by omega)]
    refine go_keep [2, 3, 33, 34, 35] [0, 1] ?_
    refine st_ ?_
    exact ih (s.vals.length - (k + 1)) _ (by omega) ⟨k + 1, G1, by omega, rfl, hle, hinv, by simp⟩
  have hge : k = s.vals.length := by simp at hjl; omega
  rw [hge, List.drop_length] at hinv
  rw [hinv, List.all_nil, Bool.true_and] at hfe
  clear ih hinv hge hjl hq hk
  refine rn_ ?_; intros
  refine go_mkmap 40 .i64 (by rw [hnt]; rfl) rfl (by omega) ?_
  intro bm
  refine rn_ ?_; intros
  refine go_keep [2, 3, 7, 45, 46, 47] [0, 1, 40] ?_
  refine st_ ?_
  refine x_loop rfl (fun q st => ∃ (k : Nat) (sn : List Int) (G' : Hp), k ≤ s.ps.length ∧ q = s.ps.length - k ∧ Le G G' ∧ pOk s.vals.length [] s.ps = pOk s.vals.length sn (s.ps.drop k) ∧
    st = ⟨[(2, .p 0 b2 0), (3, .p 1 b3 0), (7, .v (.map (some bm))), (45, .v (.slice ad2 s.ps.length cap2)), (46, .v (.int .i64 s.ps.length)), (47, .v (.int .i64 k))], [(0, b2, .c 89 [.v (.int .i64 K), .v (.int .i64 mo), .v (.bool pt), .v fn]), (1, b3, .c 44 [.v (.slice ad1 s.vals.length cap1), .v (.slice ad2 s.ps.length cap2)]), (40, bm, .o (mObj .i64 (mesN 0 sn) sn.length))], G', []⟩) ⟨0, [], G1, by omega, rfl, hle, rfl, rfl⟩ ?_
  clear hle
  rintro q st ⟨k, sn, G1, hk, hq, hle, hinv, rfl⟩ ih
  refine rn_ ?_; intros
  refine x_if rfl rfl rfl rfl (fun hjl => ?_) (fun hjl => ?_)
  · have hlt : k < s.ps.length := by simp at hjl; omega
    obtain ⟨c1, o1, sl, rfl, hat, hrep, hb, h64⟩ := rPo_at hp (i := k) hlt
    obtain ⟨asl, csl, rfl⟩ := VT.rep_slice hrep
    rw [List.drop_eq_getElem_cons hlt, pOk] at hinv
    generalize s.ps[k] = p at *
    have hno : (p.nm.k == 4 && vld p.nm && !(sn.any fun m => m == p.nm.n) && decide (0 ≤ p.pt) && decide (p.pt ≤ s.vals.length)) = false → Value.bool false = .bool (stOk m s) := fun h => by rw [hfe, hinv, h]; rfl
    refine rn_ ?_; intros
    refine go_q (by rw [hnt]; rfl) (quiet_index (by rw [hty]; rfl) (by rw [hty]; rfl) rfl rfl rfl (by omega) (by omega)) ?_
    refine rn_ ?_; intros
    refine go_q (by rw [hnt]; rfl) (quiet_load (by rw [hty]; rfl) rfl (by simp [TK.agg]) (hat.mono hle) rfl) ?_
    refine rn_ ?_; intros
    rename_i b9
    refine go_gsplit rfl rfl (fun h1 => ?_) (fun h1 => ?_) <;> (refine st_ ?_; (refine rn_ ?_; intros))
    · repeat (refine go_gundef rfl (by rw [hnt]; rfl) rfl ?_; (refine st_ ?_; (refine rn_ ?_; intros)))
      refine rn_ ?_; intros
      refine x_retc rfl hQ hmb rfl (by rw [hty]; simp only [so, sq, zy, zz, tyE, SO', SQ', opQ, opStore, opAlloc, ev, putS, dOk, cv, SV.cs, SV.one, SV.bool?, eqB, Value.oneCell', ldOwn, binInt, binConst, binBool, binStr, isC, TK.agg, rv, rv1, ldV, resOne, resV, Nat.reduceAdd, Nat.reduceMul, Nat.reduceSub, Nat.reduceLT, Nat.reduceLeDiff, Nat.reduceEqDiff, Nat.reduceBEq, reduceIte, reduceCtorEq, eq_self]; try rfl) rfl ?_; simp only [SV.den, resV, dens]
      refine hno ?_
      simp only [bne_iff_ne, ne_eq] at h1
      simp [h1]
    have h1' : (p.nm.k == 4) = true := by simpa using h1
    refine go_callf (by rw [hnt]; rfl) (by rw [hP]; kernel_rfl) rfl (hP ▸ check_ok p.nm _ _ (VT.rep_mono hle hrep)) ?_; refine rn_ ?_; intros
    rw [chk_ne0]
    refine go_gsplit rfl rfl (fun h2 => ?_) (fun h2 => ?_) <;> (refine st_ ?_; (refine rn_ ?_; intros))
    · repeat (refine go_gundef rfl (by rw [hnt]; rfl) rfl ?_; (refine st_ ?_; (refine rn_ ?_; intros)))
      refine rn_ ?_; intros
      refine x_retc rfl hQ hmb rfl (by rw [hty]; simp only [so, sq, zy, zz, tyE, SO', SQ', opQ, opStore, opAlloc, ev, putS, dOk, cv, SV.cs, SV.one, SV.bool?, eqB, Value.oneCell', ldOwn, binInt, binConst, binBool, binStr, isC, TK.agg, rv, rv1, ldV, resOne, resV, Nat.reduceAdd, Nat.reduceMul, Nat.reduceSub, Nat.reduceLT, Nat.reduceLeDiff, Nat.reduceEqDiff, Nat.reduceBEq, reduceIte, reduceCtorEq, eq_self]; try rfl) rfl ?_; simp only [SV.den, resV, dens]
      refine hno ?_
      simp at h2
      simp [h2]
    have h2' : vld p.nm = true := by simpa using h2
    refine go_q (v := .bool (sn.any fun m => m == p.nm.n)) (by rw [hnt]; rfl) ((quiet_lookup (ok := false) 40 (z := .bool false) (by rw [hty]; rfl) (by rw [hty]; rfl) (by rw [hP]; exact ⟨_, (by kernel_rfl : Try.prog.info? 4 = some Try.t4), rfl⟩) rfl rfl rfl).cast (mesN_val _ _ _)) ?_
    refine rn_ ?_; intros
    refine x_split rfl rfl rfl (fun h3 => ?_) (fun h3 => ?_) <;> (refine st_ ?_; (refine ru_ ?_; intros))
    · refine rn_ ?_; intros
      refine x_retc rfl hQ hmb rfl (by rw [hty]; simp only [so, sq, zy, zz, tyE, SO', SQ', opQ, opStore, opAlloc, ev, putS, dOk, cv, SV.cs, SV.one, SV.bool?, eqB, Value.oneCell', ldOwn, binInt, binConst, binBool, binStr, isC, TK.agg, rv, rv1, ldV, resOne, resV, Nat.reduceAdd, Nat.reduceMul, Nat.reduceSub, Nat.reduceLT, Nat.reduceLeDiff, Nat.reduceEqDiff, Nat.reduceBEq, reduceIte, reduceCtorEq, eq_self]; try rfl) rfl ?_; simp only [SV.den, resV, dens]
      refine hno ?_
      rw [h3]; simp
    refine rn_ ?_; intros
    refine go_gsplit rfl rfl (fun h4 => ?_) (fun h4 => ?_) <;> (refine st_ ?_; (refine rn_ ?_; intros))
    · repeat (refine go_gundef rfl (by rw [hnt]; rfl) rfl ?_; (refine st_ ?_; (refine rn_ ?_; intros)))
      refine rn_ ?_; intros
      refine x_retc rfl hQ hmb rfl (by rw [hty]; simp only [so, sq, zy, zz, tyE, SO', SQ', opQ, opStore, opAlloc, ev, putS, dOk, cv, SV.cs, SV.one, SV.bool?, eqB, Value.oneCell', ldOwn, binInt, binConst, binBool, binStr, isC, TK.agg, rv, rv1, ldV, resOne, resV, Nat.reduceAdd, Nat.reduceMul, Nat.reduceSub, Nat.reduceLT, Nat.reduceLeDiff, Nat.reduceEqDiff, Nat.reduceBEq, reduceIte, reduceCtorEq, eq_self]; try rfl) rfl ?_; simp only [SV.den, resV, dens]
      refine hno ?_
      have := of_decide_eq_true h4
      rw [decide_eq_false (p := 0 ≤ p.pt) (by omega)]; simp
    have h4' := of_decide_eq_false h4
    refine x_split rfl rfl rfl (fun h5 => ?_) (fun h5 => ?_) <;> (refine st_ ?_; (refine ru_ ?_; intros))
    · refine rn_ ?_; intros
      refine x_retc rfl hQ hmb rfl (by rw [hty]; simp only [so, sq, zy, zz, tyE, SO', SQ', opQ, opStore, opAlloc, ev, putS, dOk, cv, SV.cs, SV.one, SV.bool?, eqB, Value.oneCell', ldOwn, binInt, binConst, binBool, binStr, isC, TK.agg, rv, rv1, ldV, resOne, resV, Nat.reduceAdd, Nat.reduceMul, Nat.reduceSub, Nat.reduceLT, Nat.reduceLeDiff, Nat.reduceEqDiff, Nat.reduceBEq, reduceIte, reduceCtorEq, eq_self]; try rfl) rfl ?_; simp only [SV.den, resV, dens]
      refine hno ?_
      have := of_decide_eq_true h5
      rw [decide_eq_false (p := p.pt ≤ s.vals.length) (by omega)]; simp
    have h5' := of_decide_eq_false h5
    rw [h1', h2', h3, decide_eq_true (p := 0 ≤ p.pt) (by omega), decide_eq_true (p := p.pt ≤ s.vals.length) (by omega)] at hinv
    simp only [Bool.not_false, Bool.and_true, Bool.true_and] at hinv
    refine rn_ ?_; intros
    refine go_mupd 40 (.inl rfl) (by rw [hnt]; rfl) (by rw [hty]; rfl) (by rw [hty]; rfl) rfl rfl rfl rfl ?_
    have hpn := mesN_put p.nm.n 0 0 sn h3
    rw [Nat.zero_add] at hpn
    have hck : mclk p.nm.n sn.length (mesN 0 sn) = (sn ++ [p.nm.n]).length := by rw [mclk, mesN_get, h3]; simp
    simp only [cv, SV.den]
    rw [hpn, hck]
    refine st_ ?_
    refine rn_ ?_; intros
    rw [wr (n := (k : Int) + 1) (by omega) (by omega)]
    refine go_keep [2, 3, 7, 45, 46, 47] [0, 1, 40] ?_
    refine st_ ?_
    exact ih (s.ps.length - (k + 1)) _ (by omega) ⟨k + 1, sn ++ [p.nm.n], G1, by omega, rfl, hle, hinv, by simp⟩
  have hge : k = s.ps.length := by simp at hjl; omega
  rw [hge, List.drop_length, pOk] at hinv
  refine rn_ ?_; intros
  refine x_retc rfl hQ hmb rfl (by rw [hty]; simp only [so, sq, zy, zz, tyE, SO', SQ', opQ, opStore, opAlloc, ev, putS, dOk, cv, SV.cs, SV.one, SV.bool?, eqB, Value.oneCell', ldOwn, binInt, binConst, binBool, binStr, isC, TK.agg, rv, rv1, ldV, resOne, resV, Nat.reduceAdd, Nat.reduceMul, Nat.reduceSub, Nat.reduceLT, Nat.reduceLeDiff, Nat.reduceEqDiff, Nat.reduceBEq, reduceIte, reduceCtorEq, eq_self]; try rfl) rfl ?_; simp only [SV.den, resV, dens]
  rw [hfe, hinv]
end Go.Proofs.Ytpmmbjcgabnloaa
namespace Go.Proofs.Ytpmmbjcgabnloaa
set_option linter.unusedSimpArgs false
set_option linter.unusedVariables false
open Go.Sx
set_option maxHeartbeats 8000000
set_option maxRecDepth 20000
theorem vld_sml {x : VT} (h : vld x = true) : sml x = true := by
  rw [vld] at h
  cases hs : sml x with
  | true => rfl
  | false => rw [hs] at h; cases h
end Go.Proofs.Ytpmmbjcgabnloaa
namespace Go.Proofs.Ytpmmbjcgabnloaa
set_option linter.unusedSimpArgs false
set_option linter.unusedVariables false
open Go.Sx
set_option maxHeartbeats 8000000
set_option maxRecDepth 20000
def doP (m : Int) (s : MS) (o : Op) : MS × VT × Bool := if m = 1 then varP s o else if m = 2 then slotP s o else if m = 3 then boxP s o else castP s o
structure MS.vd (s : MS) : Prop where
  v : ∀ x ∈ s.vals, vld x = true
  p : ∀ p ∈ s.ps, vld p.nm = true
theorem pOk_all : ∀ {nv : Nat} {sn : List Int} {l : List Po}, pOk nv sn l = true → ∀ p ∈ l, vld p.nm = true ∧ 0 ≤ p.pt ∧ p.pt ≤ nv
  | _, _, [], _ => fun _ h => by cases h
  | nv, sn, p :: r, h => fun x hx => by
    simp only [pOk, Bool.and_eq_true, decide_eq_true_eq] at h
    rcases List.mem_cons.1 hx with rfl | hx
    · exact ⟨h.1.1.1.1.2, h.1.1.2, h.1.2⟩
    · exact pOk_all h.2 x hx
theorem stOk_vd {m : Int} {s : MS} (h : stOk m s = true) : s.vd ∧ s.wf := by
  simp only [stOk, Bool.and_eq_true, List.all_eq_true] at h
  obtain ⟨⟨_, h1⟩, h2⟩ := h
  exact ⟨⟨h1, fun p hp => (pOk_all h2 p hp).1⟩, fun p hp => (pOk_all h2 p hp).2⟩
theorem sml_none : sml noneV = true := by decide +kernel
theorem sml_unit : sml unitV = true := by decide +kernel
theorem sml_int (n : Int) : sml (intV n) = true := by simp [intV, sml, cnt, cntL]
structure DoOk (s : MS) (r : MS × VT × Bool) : Prop where
  vd : r.1.vd
  sm : sml r.2.1 = true
  lv : r.1.vals.length ≤ s.vals.length + 1
  lp : r.1.ps.length ≤ s.ps.length + 1
theorem box_vd {s : MS} {o : Op} (h : s.vd) (ha : vld o.arg = true) : DoOk s (boxP s o) := by
  rw [boxP]
  split
  · refine ⟨⟨fun x hx => ?_, h.p⟩, sml_unit, by simp, by simp⟩
    rcases List.mem_append.1 hx with hx | hx
    · exact h.v x hx
    · simp at hx; subst hx; exact ha
  · split
    · exact ⟨h, sml_none, by simp, by simp⟩
    · rename_i v r e
      refine ⟨⟨fun x hx => h.v x (by rw [e]; simp [hx]), h.p⟩, vld_sml (h.v v (by rw [e]; simp)), by rw [e]; simp; omega, by simp⟩
theorem do_vd {m : Int} {s : MS} {o : Op} (h : s.vd) (ha : vld o.arg = true) (hr : o.dn = true → vld o.res = true) : DoOk s (doP m s o) := by
  have h0 : DoOk s (s, noneV, false) := ⟨h, sml_none, by simp, by simp⟩
  rw [doP]
  split
  · rw [varP]
    split
    · split
      · exact ⟨⟨fun x hx => by
          rcases List.mem_append.1 hx with hx | hx
          · exact h.v x hx
          · simp at hx; subst hx; exact ha, h.p⟩, sml_int 1, by simp, by simp⟩
      · exact h0
    · rename_i v r e
      split
      · exact ⟨h, sml_int 0, by simp, by simp⟩
      · exact ⟨h, vld_sml (h.v v (by rw [e]; simp)), by simp, by simp⟩
  split
  · rw [slotP]
    split
    · exact h0
    · exact box_vd h ha
  split
  · exact box_vd h ha
  · rw [castP]
    split
    · split
      · exact h0
      · rename_i hc
        have hd : o.dn = true := by
          cases hd : o.dn
          · rw [hd] at hc; simp at hc
          · rfl
        refine ⟨⟨h.v, fun p hp => ?_⟩, vld_sml (hr hd), by simp, by simp⟩
        rcases List.mem_append.1 hp with hp | hp
        · exact h.p p hp
        · simp at hp; subst hp; exact hr hd
    · split
      · refine ⟨⟨fun x hx => ?_, h.p⟩, sml_unit, by simp, by simp⟩
        rcases List.mem_append.1 hx with hx | hx
        · exact h.v x hx
        · simp at hx; subst hx; exact ha
      · split
        · exact h0
        · rename_i i hi
          have hil := (pix_lt hi).2
          have hg : s.ps.getD i ⟨noneV, 0⟩ = s.ps[i]'(by omega) := by rw [List.getD_eq_getElem?_getD, List.getElem?_eq_getElem (by omega)]; rfl
          split
          · exact h0
          · refine ⟨⟨h.v, fun p hp => ?_⟩, ?_, by simp, by simp⟩
            · rcases List.mem_or_eq_of_mem_set hp with hp | hp
              · exact h.p p hp
              · subst hp; rw [hg]; exact h.p s.ps[i] (List.getElem_mem _)
            · generalize (s.ps.getD i ⟨noneV, 0⟩).pt.toNat = j
              show sml (s.vals.getD j noneV) = true
              rw [List.getD_eq_getElem?_getD]
              rcases Nat.lt_or_ge j s.vals.length with q | q
              · rw [List.getElem?_eq_getElem q]; exact vld_sml (h.v _ (List.getElem_mem _))
              · rw [List.getElem?_eq_none q]; exact sml_none
structure EffOk (m : Int) (K mo : Int) (pt : Bool) (f : Nat) : Prop where
  get : mget m effE = some (effV K mo pt f)
  kn : K = kns m
  fit : (mo = 1 ∧ pt = false ∧ (m = 1 ∨ m = 2)) ∨ (mo = 0 ∧ pt = false ∧ m = 3) ∨ (mo = 0 ∧ pt = true ∧ m = 4)
  can : canCall Try.prog f = true
  run : ∀ (s : MS) (o : Op) (sa sr : Value) (b : Nat) (ow : Lds) (G0 G : Hp), Le G0 G → StO G0 b s G ow → o.rep G sa sr → s.vals.length < 1000000 → s.ps.length < 1000000 → s.wf → PureW Try.prog f [.pointer (some ⟨b, 0, none⟩), .agg (opL o sa sr).toArray] G ow (doPost G0 b (doP m s o))
theorem eff_of (m : Int) : (kns m = 0 ∧ mget m effE = none) ∨ ∃ K mo pt f, EffOk m K mo pt f := by
  by_cases h1 : m = 1
  · subst h1
    exact .inr ⟨2, 1, false, 60, rfl, rfl, by simp, by kernel_rfl, fun s o sa sr b ow G0 G h1 h2 h3 h4 _ _ => doVar_ok s o sa sr b ow G0 G h1 h2 h3 h4⟩
  by_cases h2 : m = 2
  · subst h2
    exact .inr ⟨2, 1, false, 61, rfl, rfl, by simp, by kernel_rfl, fun s o sa sr b ow G0 G h1 h2 h3 h4 _ _ => doSlot_ok s o sa sr b ow G0 G h1 h2 h3 h4⟩
  by_cases h3 : m = 3
  · subst h3
    exact .inr ⟨2, 0, false, 62, rfl, rfl, by simp, by kernel_rfl, fun s o sa sr b ow G0 G h1 h2 h3 h4 _ _ => doBox_ok s o sa sr b ow G0 G h1 h2 h3 h4⟩
  by_cases h4 : m = 4
  · subst h4
    exact .inr ⟨3, 0, true, 63, rfl, rfl, by simp, by kernel_rfl, fun s o sa sr b ow G0 G h1 h2 h3 h4 h5 h6 => doCast_ok s o sa sr b ow G0 G h1 h2 h3 h4 h5 h6⟩
  refine .inl ⟨?_, ?_⟩
  · rw [kns, if_neg (by omega), if_neg (by omega)]
  · simp only [effE, mget, if_neg (Ne.symm h1), if_neg (Ne.symm h2), if_neg (Ne.symm h3), if_neg (Ne.symm h4)]
theorem kns0_rgt {m : Int} {o : Op} (h : kns m = 0) : rgtO (kns m) o = false := by
  rw [h, rgtO]
  by_cases hk : 0 ≤ o.kd
  · rw [decide_eq_false (p := o.kd < 0) (by omega)]; simp
  · rw [decide_eq_false (p := 0 ≤ o.kd) hk]; simp
theorem rgt_vld {K : Int} {o : Op} (h : rgtO K o = true) : vld o.arg = true ∧ (o.dn = true → vld o.res = true) := by
  simp only [rgtO, Bool.and_eq_true] at h
  refine ⟨h.1.2, fun hd => ?_⟩
  have := h.2
  rw [if_pos hd, Bool.and_eq_true] at this
  exact this.1
def doR (m : Int) (s : MS) (o : Op) : MS × VT × Bool × Int := if rgtO (kns m) o && stOk m s then ((doP m s o).1, (doP m s o).2.1, (doP m s o).2.2, 0) else (⟨[], []⟩, noneV, false, 2)
end Go.Proofs.Ytpmmbjcgabnloaa
namespace Go.Proofs.Ytpmmbjcgabnloaa
set_option linter.unusedSimpArgs false
set_option linter.unusedVariables false
open Go.Sx
set_option maxHeartbeats 8000000
set_option maxRecDepth 20000
theorem doRes {sl : List (Nat × SV)} {own : List (Nat × Nat × OO)} {be bt bv bc : Nat} {tv tp vk vn vl : Value} {can : Bool} {e : Int} {T : TypeId → Option TI} (hT : T = ty) (h6 : lk 6 sl = some (.p 2 bt 0)) (h7 : lk 7 sl = some (.p 3 bv 0)) (h8 : lk 8 sl = some (.p 4 bc 0)) (h9 : lk 9 sl = some (.p 5 be 0))
    (o0 : lk 5 own = some (be, .c 32 [.v (.int .i64 e)])) (o1 : lk 2 own = some (bt, .c 44 [.v tv, .v tp])) (o2 : lk 3 own = some (bv, .c 28 [.v vk, .v vn, .v vl])) (o3 : lk 4 own = some (bc, .c 4 [.v (.bool can)])) :
    resAll sl T own Try.f17.results.toList = some [.a [.v tv, .v tp], .a [.v vk, .v vn, .v vl], .v (.bool can), .v (.int .i64 e)] := by
  have e : Try.f17.results.toList = [.cell 6 44, .cell 7 28, .cell 8 4, .cell 9 32] := rfl
  subst hT
  rw [e]
  simp only [resAll, resOne, h6, h7, h8, h9, o0, o1, o2, o3, if_true]
  refine st_ ?_
  simp only [o0, o1, o2, o3, if_true]
  rfl
theorem doRes4 (tmps : Array Value) (v : Value) (d : Nat) (h : d < 6 ∨ 9 < d) : results Try.f17 (tmps.setIfInBounds d v) = results Try.f17 tmps := by
  have e : Try.f17.results = #[.cell 6 44, .cell 7 28, .cell 8 4, .cell 9 32] := rfl
  simp only [results, e]
  have h6 : d ≠ 6 := by omega
  have h7 : d ≠ 7 := by omega
  have h8 : d ≠ 8 := by omega
  have h9 : d ≠ 9 := by omega
  simp [Array.getElem?_setIfInBounds, h6, h7, h8, h9]
def doRet (r : MS × VT × Bool × Int) (v : Value) (G : Hp) (rs : List Rw) : Prop := ∃ v1 v2 sl xs ys, v = .tuple #[.agg #[v1, v2], .agg #[.int .i64 r.2.1.k, .int .i64 r.2.1.n, sl], .bool r.2.2.1, .int .i64 r.2.2.2] ∧ rs = stRows v1 r.1.vals.length xs v2 r.1.ps.length ys ∧ rV.L G r.1.vals xs ∧ rPo.L G r.1.ps ys ∧ r.2.1.rep G sl ∧ tsz r.2.1 ≤ 1048576
theorem hDo_ok (m : Int) (s : MS) (sv sp : Value) (o : Op) (sa sr : Value) (G : Hp) (hs : s.rep G sv sp) (ho : o.rep G sa sr) (hl : s.vals.length ≤ 100) (hlp : s.ps.length ≤ 100) :
    PureV Try.prog 17 [.int .i64 m, .agg #[sv, sp], .agg (opL o sa sr).toArray] G (doRet (doR m s o)) := by
  obtain ⟨ada, capa, rfl⟩ := VT.rep_slice ho.a
  obtain ⟨adr, capr, rfl⟩ := VT.rep_slice ho.r
  obtain ⟨ad1, cap1, rfl⟩ := Rp.S_slice hs.v
  obtain ⟨ad2, cap2, rfl⟩ := Rp.S_slice hs.p
  refine enterDV ty tyok Try.func17 rfl Try.ntmps17 [.v (.int .i64 m), .a [.v (.slice ad1 s.vals.length cap1), .v (.slice ad2 s.ps.length cap2)], .a (opC o (.slice ada o.arg.l.length capa) (.slice adr o.res.l.length capr))] (by simp) ?_
  simp only [opC]
  intro C hP hQ hnt hty hmb hmh hro; refine st_ ?_
  refine rn_ ?_; intros
  refine go_defer hro (by rw [hnt]; rfl) rfl rfl ?_
  refine rn_ ?_; intros
  rename_i bs bo bt bv bc be
  have hQD : ∀ d, d < 6 ∨ 9 < d → QPd C (some d) := fun d h => qpd_bodyD hQ fun tmps v => doRes4 tmps v d h
  refine go_call (by rw [hnt]; rfl) (by rw [hP]; kernel_rfl) rfl (hP ▸ effects_ok G) ?_
  rintro v G1 (hle1 : Le G G1) ⟨mp, rfl, hmp⟩
  refine rn_ ?_; intros
  rcases eff_of m with ⟨hk0, hg0⟩ | ⟨K, mo, pt, f, he⟩
  · refine go_q (v := .tuple #[.agg #[.int .i64 0, .int .i64 0, .bool false, .nilFunc], .bool false]) (by rw [hnt]; rfl) ((quiet_lookupG (ok := true) (z := .agg #[.int .i64 0, .int .i64 0, .bool false, .nilFunc]) (by rw [hty]; rfl) (by rw [hty]; rfl) (by rw [hP]; exact ⟨_, (by kernel_rfl : Try.prog.info? 89 = some Try.t89), rfl⟩) rfl rfl hmp).cast (by rw [hg0]; rfl)) ?_
    refine rn_ ?_; intros
    repeat (first | (refine go_gsplit rfl rfl (fun hc => absurd hc (by first | decide +kernel | (simp; first | done | fail))) (fun _ => ?_); refine st_ ?_; (refine rn_ ?_; intros)) | (refine go_gsplit rfl rfl (fun _ => ?_) (fun hc => absurd hc (by first | decide +kernel | (simp; first | done | fail))); refine st_ ?_; (refine rn_ ?_; intros)) | (refine x_split rfl rfl rfl (fun hc => absurd hc (by first | decide +kernel | (simp; first | done | fail))) (fun _ => ?_); refine st_ ?_; (refine ru_ ?_; intros)) | (refine x_split rfl rfl rfl (fun _ => ?_) (fun hc => absurd hc (by first | decide +kernel | (simp; first | done | fail))); refine st_ ?_; (refine ru_ ?_; intros)))
    repeat (refine go_gundef rfl (by rw [hnt]; rfl) rfl ?_; (refine st_ ?_; (refine rn_ ?_; intros)))
    repeat (first | (refine go_gsplit rfl rfl (fun hc => absurd hc (by first | decide +kernel | (simp; first | done | fail))) (fun _ => ?_); refine st_ ?_; (refine rn_ ?_; intros)) | (refine go_gsplit rfl rfl (fun _ => ?_) (fun hc => absurd hc (by first | decide +kernel | (simp; first | done | fail))); refine st_ ?_; (refine rn_ ?_; intros)) | (refine x_split rfl rfl rfl (fun hc => absurd hc (by first | decide +kernel | (simp; first | done | fail))) (fun _ => ?_); refine st_ ?_; (refine ru_ ?_; intros)) | (refine x_split rfl rfl rfl (fun _ => ?_) (fun hc => absurd hc (by first | decide +kernel | (simp; first | done | fail))); refine st_ ?_; (refine ru_ ?_; intros)))
    repeat (refine go_gundef rfl (by rw [hnt]; rfl) rfl ?_; (refine st_ ?_; (refine rn_ ?_; intros)))
    refine rn_ ?_; intros
    refine go_callWP [] (ow := []) (by rw [hnt]; rfl) rfl (by rw [hP]; kernel_rfl) rfl rfl rfl (.inl (by intro k hk; cases hk)) (hP ▸ need_ok false 2 G1) ?_ ?_
    · rintro v G' ow' _ ⟨h, _⟩
      cases h
    rintro v ⟨rfl, _⟩
    have e : doR m s o = (⟨[], []⟩, noneV, false, 2) := by rw [doR, kns0_rgt hk0]; rfl
    rw [e] at hQ
    refine x_panDV 60 hQ hmb hmh rfl (by rw [hP]; kernel_rfl) (ks := [5, 2, 3, 4]) (ow := doC be bt bv bc 0 (.slice none 0 0) (.slice none 0 0) (.int .i64 0) (.int .i64 0) (.slice none 0 0) false) rfl rfl (.inl (by intro k hk; omega)) (hP ▸ doClo_catch be bt bv bc _ _ _ _ _ _ 0 2 (by omega) _) ?_
    rintro u' G' ow' _ ⟨hs', rfl⟩
    refine ⟨hs', _, stRows (.slice none 0 0) 0 [] (.slice none 0 0) 0 [], doRes hty rfl rfl rfl rfl rfl rfl rfl rfl, .inr ?_, ?_⟩
    · intro r hr
      simp only [stRows, List.mem_cons, List.not_mem_nil, or_false] at hr
      rcases hr with rfl | rfl <;> exact ⟨rfl, rfl, rfl⟩
    · exact ⟨_, _, _, _, _, rfl, rfl, rfl, rfl, rep_leaf _ 0 0 (by simp [isI64]) (by simp [isI64]), by simp [noneV, tsz, tszL]⟩
  · refine go_q (v := .tuple #[effV K mo pt f, .bool true]) (by rw [hnt]; rfl) ((quiet_lookupG (ok := true) (z := .agg #[.int .i64 0, .int .i64 0, .bool false, .nilFunc]) (by rw [hty]; rfl) (by rw [hty]; rfl) (by rw [hP]; exact ⟨_, (by kernel_rfl : Try.prog.info? 89 = some Try.t89), rfl⟩) rfl rfl hmp).cast (by rw [he.get]; rfl)) ?_
    simp only [effV]
    refine rn_ ?_; intros
    repeat (first | (refine go_gsplit rfl rfl (fun hc => absurd hc (by first | decide +kernel | (simp; first | done | fail))) (fun _ => ?_); refine st_ ?_; (refine rn_ ?_; intros)) | (refine go_gsplit rfl rfl (fun _ => ?_) (fun hc => absurd hc (by first | decide +kernel | (simp; first | done | fail))); refine st_ ?_; (refine rn_ ?_; intros)) | (refine x_split rfl rfl rfl (fun hc => absurd hc (by first | decide +kernel | (simp; first | done | fail))) (fun _ => ?_); refine st_ ?_; (refine ru_ ?_; intros)) | (refine x_split rfl rfl rfl (fun _ => ?_) (fun hc => absurd hc (by first | decide +kernel | (simp; first | done | fail))); refine st_ ?_; (refine ru_ ?_; intros)))
    refine go_callf (by rw [hnt]; rfl) (by rw [hP]; kernel_rfl) rfl (hP ▸ valid_ok2 K mo pt _ o _ _ G1 rfl (ho.mono hle1)) ?_; refine rn_ ?_; intros
    have hK := he.kn
    have hno : (rgtO K o && stOk m s) = false → doR m s o = (⟨[], []⟩, noneV, false, 2) := fun h => by rw [doR, ← hK, h]; rfl
    refine go_gsplit rfl rfl (fun hv => ?_) (fun hv => ?_) <;> (refine st_ ?_; (refine rn_ ?_; intros))
    · -- valid
      refine go_callf (by rw [hnt]; rfl) (by rw [hP]; kernel_rfl) rfl (hP ▸ fits_ok K mo pt _ s _ _ m G1 rfl (hs.mono hle1) he.fit) ?_; refine rn_ ?_; intros
      cases hst : stOk m s
      · refine go_callWP [] (ow := []) (by rw [hnt]; rfl) rfl (by rw [hP]; kernel_rfl) rfl rfl rfl (.inl (by intro k hk; cases hk)) (hP ▸ need_ok _ 2 G1) ?_ ?_
        · rintro v G' ow' _ ⟨h, _⟩
          cases h
        rintro v ⟨rfl, _⟩
        rw [hno (by rw [hst, Bool.and_false])] at hQ
        refine x_panDV 60 hQ hmb hmh rfl (by rw [hP]; kernel_rfl) (ks := [5, 2, 3, 4]) (ow := doC be bt bv bc 0 (.slice none 0 0) (.slice none 0 0) (.int .i64 0) (.int .i64 0) (.slice none 0 0) false) rfl rfl (.inl (by intro k hk; omega)) (hP ▸ doClo_catch be bt bv bc _ _ _ _ _ _ 0 2 (by omega) _) ?_
        rintro u' G' ow' _ ⟨hs', rfl⟩
        refine ⟨hs', _, stRows (.slice none 0 0) 0 [] (.slice none 0 0) 0 [], doRes hty rfl rfl rfl rfl rfl rfl rfl rfl, .inr ?_, ?_⟩
        · intro r hr
          simp only [stRows, List.mem_cons, List.not_mem_nil, or_false] at hr
          rcases hr with rfl | rfl <;> exact ⟨rfl, rfl, rfl⟩
        · exact ⟨_, _, _, _, _, rfl, rfl, rfl, rfl, rep_leaf _ 0 0 (by simp [isI64]) (by simp [isI64]), by simp [noneV, tsz, tszL]⟩
      refine go_callWP [] (ow := []) (by rw [hnt]; rfl) rfl (by rw [hP]; kernel_rfl) rfl rfl rfl (.inl (by intro k hk; cases hk)) (hP ▸ need_ok _ 2 G1) ?_ ?_
      rotate_left
      · rintro v ⟨_, h⟩
        cases h
      rintro v G2 ow' (hle2 : Le G1 G2) ⟨_, rfl⟩
      simp only [setO]
      rename_i bf
      refine go_keep [4, 5, 6, 7, 8, 9, 10] [0, 1, 2, 3, 4, 5, 6] ?_
      refine st_ ?_
      clear v
      refine rn_ ?_; intros
      obtain ⟨⟨hvv, hvp⟩, hwf⟩ := stOk_vd hst
      have hle02 := hle1.trans hle2
      refine go_callV 60 (by rw [hnt]; rfl) (by rw [hP]; kernel_rfl) rfl rfl (by omega) (hP ▸ copyState_ok s _ _ G2 (hs.mono hle02) (fun x hx => vld_sml (hvv x hx)) (fun p hp => vld_sml (hvp p hp)) (by omega) (by omega)) ?_
      rintro v G3 rs Z (hle3 : Le G2 G3) ⟨v1, v2, xs, ys, rfl, rfl, hL, hM⟩
      refine go_ztake 60 61 0 rfl rfl rfl (by omega) (by omega) ?_
      intro Z1
      refine go_ztake 60 62 1 rfl rfl rfl (by omega) (by omega) ?_
      intro Z2
      refine go_drop 60 ?_
      simp only [stRows]
      refine st_ ?_
      refine go_qrow (G0 := G3) 61 rfl ?_
      intro Zv bz
      refine st_ ?_
      refine go_qval 61 rfl ?_
      rintro a1 c1 rfl _ _ _
      refine go_rowS 62 rfl ?_
      rintro a2 c2 rfl
      refine rn_ ?_; intros
      refine go_callWv [2, 61, 62] (f := f) (cap := []) (by rw [hnt]; rfl) (hP ▸ he.can) rfl rfl rfl rfl rfl (.inl (by intro k hk; omega)) (hP ▸ he.run s o _ _ bt _ G3 G3 (Le.refl _) ⟨_, _, bz, Zv, 0, xs, ys, rfl, hL, hM, by omega, by omega⟩ (ho.mono (hle02.trans hle3)) (by omega) (by omega) hwf) ?_
      rintro v G4 ow' (hle4 : Le G3 G4) ⟨slr, rfl, hrr, hrb, vv, pv, bz2, Z2, b2, xs2, ys2, rfl, hL2, hM2, hn1, hn2⟩
      simp only [setO]
      refine st_ ?_
      refine go_qval 61 rfl ?_
      rintro a3 c3 rfl _ _ _
      refine go_rowS 62 rfl ?_
      rintro a4 c4 rfl
      obtain ⟨asr, csr, rfl⟩ := VT.rep_slice hrr
      refine rn_ ?_; intros
      refine go_qpub rV 61 rfl hle4 (by omega) rfl (by omega) hL2 ?_
      intro G5 (hle5 : Le G4 G5) hS5
      refine st_ ?_
      refine go_pubL rPo 62 rfl (by omega) rfl (by omega) (Rp.L_mono hle5 hM2) ?_
      intro G6 ad6 cap6 (hle6 : Le G5 G6) he6 hS6
      rw [← he6] at hS6
      have hdv := do_vd (m := m) (s := s) (o := o) ⟨hvv, hvp⟩ (rgt_vld hv).1 (rgt_vld hv).2
      have hdR : doR m s o = ((doP m s o).1, (doP m s o).2.1, (doP m s o).2.2, 0) := by rw [doR, ← hK, hv, hst]; rfl
      rw [hdR] at hQ
      generalize doP m s o = r at *
      have hSv := Rp.S_mono hle6 hS5
      refine go_keep [6, 7, 8, 9] [2, 3, 4, 5] ?_
      refine st_ ?_
      refine x_held [(4, bc, .c 4 [.v (.bool r.2.2)])] rfl (by rw [hP]; kernel_rfl) rfl rfl rfl ?_; refine st_ ?_
      refine h_takeD 4 rfl (by kernel_rfl) (by kernel_rfl) (by kernel_rfl) (hQD _ (by decide)) (by rw [hnt]; rfl) (allIn (by repeat (first | exact trivial | refine ⟨rfl, ?_⟩))) (by first | exact Le.refl _ | assumption) (quiet_op (by rw [hty]; first | rfl | (refine st_ ?_; rfl))) ?_; refine st_ ?_
      refine h_two 0 2 rfl rfl (by kernel_rfl) ?_ ?_
      · refine rn_ ?_; intros
        refine h_hs (allIn (by repeat (first | exact trivial | refine ⟨rfl, ?_⟩))) (by first | exact Le.refl _ | assumption) ?_
        refine h_two 1 2 rfl rfl (by kernel_rfl) ?_ ?_
        · refine go_callV 60 (by rw [hnt]; rfl) (by rw [hP]; kernel_rfl) rfl rfl (by omega) (hP ▸ copyState_ok r.1 _ _ G6 ⟨hSv, hS6⟩ (fun x hx => vld_sml (hdv.vd.v x hx)) (fun p hp => vld_sml (hdv.vd.p p hp)) (by omega) (by omega)) ?_
          rintro v G7 rs Z7 (hle7 : Le G6 G7) ⟨v1, v2, xs3, ys3, rfl, rfl, hL3, hM3⟩
          refine go_ztake 60 61 0 rfl rfl rfl (by omega) (by omega) ?_
          intro Z3
          refine go_ztake 60 62 1 rfl rfl rfl (by omega) (by omega) ?_
          intro Z4
          refine go_drop 60 ?_
          simp only [stRows]
          refine st_ ?_
          refine go_rowS 61 rfl ?_
          rintro a5 c5 rfl
          refine go_rowS 62 rfl ?_
          rintro a6 c6 rfl
          refine rn_ ?_; intros
          refine h_hs (allIn (by repeat (first | exact trivial | refine ⟨rfl, ?_⟩))) (by first | exact Le.refl _ | assumption) ?_
          refine h_one 2 rfl (by kernel_rfl) ?_
          refine rn_ ?_; intros
          refine h_hs (allIn (by repeat (first | exact trivial | refine ⟨rfl, ?_⟩))) (by first | exact Le.refl _ | assumption) ?_
          refine h_one 3 rfl (by kernel_rfl) ?_
          refine go_call (by rw [hnt]; rfl) (by rw [hP]; kernel_rfl) rfl (hP ▸ copy_ok r.2.1 _ _ (VT.rep_mono (hle5.trans (hle6.trans hle7)) hrr) (by omega)) ?_
          rintro v G8 (hle8 : Le G7 G8) hv0
          obtain ⟨_, hv0⟩ | ⟨hsm, _⟩ := hv0
          rotate_left
          · rw [hdv.sm] at hsm; cases hsm
          obtain ⟨sl8, rfl, hr8⟩ := copied_cells hv0
          clear hv0
          have hle68 : Le G6 G8 := hle7.trans hle8
          obtain ⟨asl8, csl8, rfl⟩ := VT.rep_slice hr8
          refine rn_ ?_; intros
          refine h_hs (allIn (by repeat (first | exact trivial | refine ⟨rfl, ?_⟩))) (by first | exact Le.refl _ | assumption) ?_
          refine h_one 5 rfl (by kernel_rfl) ?_
          refine rn_ ?_; intros
          refine h_hs (allIn (by repeat (first | exact trivial | refine ⟨rfl, ?_⟩))) (by first | exact Le.refl _ | assumption) ?_
          refine h_one 6 rfl (by kernel_rfl) ?_
          refine rn_ ?_; intros
          refine h_hs (allIn (by repeat (first | exact trivial | refine ⟨rfl, ?_⟩))) (by first | exact Le.refl _ | assumption) ?_
          refine h_one 7 rfl (by kernel_rfl) ?_
          refine rn_ ?_; intros
          refine h_hs (allIn (by repeat (first | exact trivial | refine ⟨rfl, ?_⟩))) (by first | exact Le.refl _ | assumption) ?_
          refine h_one 8 rfl (by kernel_rfl) ?_
          refine rn_ ?_; intros
          refine h_hs (allIn (by repeat (first | exact trivial | refine ⟨rfl, ?_⟩))) (by first | exact Le.refl _ | assumption) ?_
          refine h_end (by kernel_rfl) ?_
          refine go_znil 60 rfl (by omega) ?_
          intro Z0
          refine go_zadd 60 61 rfl rfl (by omega) (by omega) (by omega) ?_
          intro Z1
          refine st_ ?_
          refine go_zadd 60 62 rfl rfl (by omega) (by omega) (by omega) ?_
          intro Z2
          refine st_ ?_
          refine rn_ ?_; intros
          refine x_retDV 60 rfl hQ hmb hmh rfl (by rw [hP]; kernel_rfl) (ks := [5, 2, 3, 4]) (ow := doC be bt bv bc 0 _ _ _ _ _ _) rfl rfl (.inl (by intro k hk; omega)) (hP ▸ doClo_idle be bt bv bc _ _ _ _ _ _ _) ?_
          rintro u' G' ow' (hle9 : Le G8 G') ⟨hs', rfl⟩
          refine ⟨hs', _, _, doRes hty rfl rfl rfl rfl rfl rfl rfl rfl, .inl ⟨_, _, rfl⟩, ?_⟩
          exact ⟨_, _, _, _, _, rfl, rfl, Rp.L_mono (hle8.trans hle9) hL3, Rp.L_mono (hle8.trans hle9) hM3, VT.rep_mono hle9 hr8, hrb⟩
        · refine rn_ ?_; intros
          refine h_hs (allIn (by repeat (first | exact trivial | refine ⟨rfl, ?_⟩))) (by first | exact Le.refl _ | assumption) ?_
          refine h_one 1 rfl (by kernel_rfl) ?_
          refine go_callV 60 (by rw [hnt]; rfl) (by rw [hP]; kernel_rfl) rfl rfl (by omega) (hP ▸ copyState_ok r.1 _ _ G6 ⟨hSv, hS6⟩ (fun x hx => vld_sml (hdv.vd.v x hx)) (fun p hp => vld_sml (hdv.vd.p p hp)) (by omega) (by omega)) ?_
          rintro v G7 rs Z7 (hle7 : Le G6 G7) ⟨v1, v2, xs3, ys3, rfl, rfl, hL3, hM3⟩
          refine go_ztake 60 61 0 rfl rfl rfl (by omega) (by omega) ?_
          intro Z3
          refine go_ztake 60 62 1 rfl rfl rfl (by omega) (by omega) ?_
          intro Z4
          refine go_drop 60 ?_
          simp only [stRows]
          refine st_ ?_
          refine go_rowS 61 rfl ?_
          rintro a5 c5 rfl
          refine go_rowS 62 rfl ?_
          rintro a6 c6 rfl
          refine rn_ ?_; intros
          refine h_hs (allIn (by repeat (first | exact trivial | refine ⟨rfl, ?_⟩))) (by first | exact Le.refl _ | assumption) ?_
          refine h_one 3 rfl (by kernel_rfl) ?_
          refine go_call (by rw [hnt]; rfl) (by rw [hP]; kernel_rfl) rfl (hP ▸ copy_ok r.2.1 _ _ (VT.rep_mono (hle5.trans (hle6.trans hle7)) hrr) (by omega)) ?_
          rintro v G8 (hle8 : Le G7 G8) hv0
          obtain ⟨_, hv0⟩ | ⟨hsm, _⟩ := hv0
          rotate_left
          · rw [hdv.sm] at hsm; cases hsm
          obtain ⟨sl8, rfl, hr8⟩ := copied_cells hv0
          clear hv0
          have hle68 : Le G6 G8 := hle7.trans hle8
          obtain ⟨asl8, csl8, rfl⟩ := VT.rep_slice hr8
          refine rn_ ?_; intros
          refine h_hs (allIn (by repeat (first | exact trivial | refine ⟨rfl, ?_⟩))) (by first | exact Le.refl _ | assumption) ?_
          refine h_one 5 rfl (by kernel_rfl) ?_
          refine rn_ ?_; intros
          refine h_hs (allIn (by repeat (first | exact trivial | refine ⟨rfl, ?_⟩))) (by first | exact Le.refl _ | assumption) ?_
          refine h_one 6 rfl (by kernel_rfl) ?_
          refine rn_ ?_; intros
          refine h_hs (allIn (by repeat (first | exact trivial | refine ⟨rfl, ?_⟩))) (by first | exact Le.refl _ | assumption) ?_
          refine h_one 7 rfl (by kernel_rfl) ?_
          refine rn_ ?_; intros
          refine h_hs (allIn (by repeat (first | exact trivial | refine ⟨rfl, ?_⟩))) (by first | exact Le.refl _ | assumption) ?_
          refine h_one 8 rfl (by kernel_rfl) ?_
          refine rn_ ?_; intros
          refine h_hs (allIn (by repeat (first | exact trivial | refine ⟨rfl, ?_⟩))) (by first | exact Le.refl _ | assumption) ?_
          refine h_end (by kernel_rfl) ?_
          refine go_znil 60 rfl (by omega) ?_
          intro Z0
          refine go_zadd 60 61 rfl rfl (by omega) (by omega) (by omega) ?_
          intro Z1
          refine st_ ?_
          refine go_zadd 60 62 rfl rfl (by omega) (by omega) (by omega) ?_
          intro Z2
          refine st_ ?_
          refine rn_ ?_; intros
          refine x_retDV 60 rfl hQ hmb hmh rfl (by rw [hP]; kernel_rfl) (ks := [5, 2, 3, 4]) (ow := doC be bt bv bc 0 _ _ _ _ _ _) rfl rfl (.inl (by intro k hk; omega)) (hP ▸ doClo_idle be bt bv bc _ _ _ _ _ _ _) ?_
          rintro u' G' ow' (hle9 : Le G8 G') ⟨hs', rfl⟩
          refine ⟨hs', _, _, doRes hty rfl rfl rfl rfl rfl rfl rfl rfl, .inl ⟨_, _, rfl⟩, ?_⟩
          exact ⟨_, _, _, _, _, rfl, rfl, Rp.L_mono (hle8.trans hle9) hL3, Rp.L_mono (hle8.trans hle9) hM3, VT.rep_mono hle9 hr8, hrb⟩
      · refine rn_ ?_; intros
        refine h_hs (allIn (by repeat (first | exact trivial | refine ⟨rfl, ?_⟩))) (by first | exact Le.refl _ | assumption) ?_
        refine h_one 0 rfl (by kernel_rfl) ?_
        refine rn_ ?_; intros
        refine h_hs (allIn (by repeat (first | exact trivial | refine ⟨rfl, ?_⟩))) (by first | exact Le.refl _ | assumption) ?_
        refine h_one 1 rfl (by kernel_rfl) ?_
        refine go_callV 60 (by rw [hnt]; rfl) (by rw [hP]; kernel_rfl) rfl rfl (by omega) (hP ▸ copyState_ok r.1 _ _ G6 ⟨hSv, hS6⟩ (fun x hx => vld_sml (hdv.vd.v x hx)) (fun p hp => vld_sml (hdv.vd.p p hp)) (by omega) (by omega)) ?_
        rintro v G7 rs Z7 (hle7 : Le G6 G7) ⟨v1, v2, xs3, ys3, rfl, rfl, hL3, hM3⟩
        refine go_ztake 60 61 0 rfl rfl rfl (by omega) (by omega) ?_
        intro Z3
        refine go_ztake 60 62 1 rfl rfl rfl (by omega) (by omega) ?_
        intro Z4
        refine go_drop 60 ?_
        simp only [stRows]
        refine st_ ?_
        refine go_rowS 61 rfl ?_
        rintro a5 c5 rfl
        refine go_rowS 62 rfl ?_
        rintro a6 c6 rfl
        refine rn_ ?_; intros
        refine h_hs (allIn (by repeat (first | exact trivial | refine ⟨rfl, ?_⟩))) (by first | exact Le.refl _ | assumption) ?_
        refine h_one 3 rfl (by kernel_rfl) ?_
        refine go_call (by rw [hnt]; rfl) (by rw [hP]; kernel_rfl) rfl (hP ▸ copy_ok r.2.1 _ _ (VT.rep_mono (hle5.trans (hle6.trans hle7)) hrr) (by omega)) ?_
        rintro v G8 (hle8 : Le G7 G8) hv0
        obtain ⟨_, hv0⟩ | ⟨hsm, _⟩ := hv0
        rotate_left
        · rw [hdv.sm] at hsm; cases hsm
        obtain ⟨sl8, rfl, hr8⟩ := copied_cells hv0
        clear hv0
        have hle68 : Le G6 G8 := hle7.trans hle8
        obtain ⟨asl8, csl8, rfl⟩ := VT.rep_slice hr8
        refine rn_ ?_; intros
        refine h_hs (allIn (by repeat (first | exact trivial | refine ⟨rfl, ?_⟩))) (by first | exact Le.refl _ | assumption) ?_
        refine h_one 5 rfl (by kernel_rfl) ?_
        refine rn_ ?_; intros
        refine h_hs (allIn (by repeat (first | exact trivial | refine ⟨rfl, ?_⟩))) (by first | exact Le.refl _ | assumption) ?_
        refine h_one 6 rfl (by kernel_rfl) ?_
        refine rn_ ?_; intros
        refine h_hs (allIn (by repeat (first | exact trivial | refine ⟨rfl, ?_⟩))) (by first | exact Le.refl _ | assumption) ?_
        refine h_one 7 rfl (by kernel_rfl) ?_
        refine rn_ ?_; intros
        refine h_hs (allIn (by repeat (first | exact trivial | refine ⟨rfl, ?_⟩))) (by first | exact Le.refl _ | assumption) ?_
        refine h_one 8 rfl (by kernel_rfl) ?_
        refine rn_ ?_; intros
        refine h_hs (allIn (by repeat (first | exact trivial | refine ⟨rfl, ?_⟩))) (by first | exact Le.refl _ | assumption) ?_
        refine h_end (by kernel_rfl) ?_
        refine go_znil 60 rfl (by omega) ?_
        intro Z0
        refine go_zadd 60 61 rfl rfl (by omega) (by omega) (by omega) ?_
        intro Z1
        refine st_ ?_
        refine go_zadd 60 62 rfl rfl (by omega) (by omega) (by omega) ?_
        intro Z2
        refine st_ ?_
        refine rn_ ?_; intros
        refine x_retDV 60 rfl hQ hmb hmh rfl (by rw [hP]; kernel_rfl) (ks := [5, 2, 3, 4]) (ow := doC be bt bv bc 0 _ _ _ _ _ _) rfl rfl (.inl (by intro k hk; omega)) (hP ▸ doClo_idle be bt bv bc _ _ _ _ _ _ _) ?_
        rintro u' G' ow' (hle9 : Le G8 G') ⟨hs', rfl⟩
        refine ⟨hs', _, _, doRes hty rfl rfl rfl rfl rfl rfl rfl rfl, .inl ⟨_, _, rfl⟩, ?_⟩
        exact ⟨_, _, _, _, _, rfl, rfl, Rp.L_mono (hle8.trans hle9) hL3, Rp.L_mono (hle8.trans hle9) hM3, VT.rep_mono hle9 hr8, hrb⟩
    · refine go_callWP [] (ow := []) (by rw [hnt]; rfl) rfl (by rw [hP]; kernel_rfl) rfl rfl rfl (.inl (by intro k hk; cases hk)) (hP ▸ need_ok _ 2 G1) ?_ ?_
      · rintro v G' ow' _ ⟨h, _⟩
        cases h
      rintro v ⟨rfl, _⟩
      rw [hno (by rw [hv]; rfl)] at hQ
      refine x_panDV 60 hQ hmb hmh rfl (by rw [hP]; kernel_rfl) (ks := [5, 2, 3, 4]) (ow := doC be bt bv bc 0 (.slice none 0 0) (.slice none 0 0) (.int .i64 0) (.int .i64 0) (.slice none 0 0) false) rfl rfl (.inl (by intro k hk; omega)) (hP ▸ doClo_catch be bt bv bc _ _ _ _ _ _ 0 2 (by omega) _) ?_
      rintro u' G' ow' _ ⟨hs', rfl⟩
      refine ⟨hs', _, stRows (.slice none 0 0) 0 [] (.slice none 0 0) 0 [], doRes hty rfl rfl rfl rfl rfl rfl rfl rfl, .inr ?_, ?_⟩
      · intro r hr
        simp only [stRows, List.mem_cons, List.not_mem_nil, or_false] at hr
        rcases hr with rfl | rfl <;> exact ⟨rfl, rfl, rfl⟩
      · exact ⟨_, _, _, _, _, rfl, rfl, rfl, rfl, rep_leaf _ 0 0 (by simp [isI64]) (by simp [isI64]), by simp [noneV, tsz, tszL]⟩
end Go.Proofs.Ytpmmbjcgabnloaa
namespace Go.Sx
set_option linter.unusedSimpArgs false
set_option linter.unusedVariables false
open Go.RowKit
section
variable {P : Program} {ro : Option Nat} {ops : Array Oper} {md : Region.Mode}
theorem wpAnyHU_first {S : World → Prop} {Q : Exit → Act → World → Prop} {i p : Nat} {oi op : Oper} {v : Value} (hi : ops[i]? = some oi) (hsel : ∀ (j : Nat) (o : Oper) cs b, ops[j]? = some o → o.op ≠ .select cs b)
    (hQ : ∀ c a w, Q (.panic c) (a.put oi.dst v) w → Q (.panic c) a w) (hop : ops[p]? = some op) (hpi : p ≠ i) (hpe : ∃ e ∈ op.after, Region.binds md e = true ∧ e.on = i) :
    ∀ (fuel : Nat) (listed : Array Bool) (a : Act) (w : World),
      (∀ j oj, ops[j]? = some oj → j ≠ i → listed.getD j true = false → (∀ e ∈ oj.after, Region.binds md e = true → e.on ≠ i) → oi.apart ops oj = true) →
      i ∈ Region.ready md ops listed → YieldsIf P ops S oi v a → S w → listed.getD p true = false →
      wpAnyHU P ro md ops Q S p fuel (listed.setIfInBounds i true) (a.put oi.dst v) w → wpAnyHU P ro md ops Q S p (fuel + 1) listed a w := by
  intro fuel
  induction fuel with
  | zero =>
    intro listed a w _ hr hy hS hpl H
    refine ⟨fun h => (by rw [h] at hr; cases hr), fun j hj => ?_⟩
    by_cases hji : j = i
    · subst hji; exact yieldsIf_wpOpIn hi hy hS ⟨fun _ => hS, H⟩
    · have := ready_mono hj hji
      rw [H.1] at this
      cases this
  | succ fuel ih =>
    intro listed a w hfree hr hy hS hpl H
    refine ⟨fun h => (by rw [h] at hr; cases hr), fun j hj => ?_⟩
    by_cases hji : j = i
    · subst hji; exact yieldsIf_wpOpIn hi hy hS ⟨fun _ => hS, H⟩
    · have h1 := H.2 j (ready_mono hj hji)
      obtain ⟨hjun, oj, hoj, hall⟩ := mem_ready.1 hj
      have hnot : ∀ e ∈ oj.after, Region.binds md e = true → e.on ≠ i := fun e he hb heq => by
        have h1 := hall e he hb
        have h0 := (mem_ready.1 hr).1
        rw [heq] at h1
        rcases Nat.lt_or_ge i listed.size with h' | h'
        · simp [h'] at h0 h1; rw [h0] at h1; cases h1
        · simp [Array.getElem?_eq_none h'] at h1
      have hjp : j ≠ p := fun q => by
        subst q
        rw [hop] at hoj
        cases hoj
        obtain ⟨e, he, hb, heq⟩ := hpe
        exact hnot e he hb heq
      have hg1 : ((listed.setIfInBounds i true).setIfInBounds j true).getD p true = false := by
        rw [getD_set_ne true hjp, getD_set_ne true (Ne.symm hpi)]; exact hpl
      have hg2 : (listed.setIfInBounds j true).getD p true = false := by
        rw [getD_set_ne true hjp]; exact hpl
      have h2 := wpOpIn_putIf hoj (hfree j oj hoj hji hjun hnot) (fun cs b => hsel i oi cs b hi) (fun cs b => hsel j oj cs b hoj) hQ hy h1
      have hfree' : ∀ k ok, ops[k]? = some ok → k ≠ i → (listed.setIfInBounds j true).getD k true = false →
          (∀ e ∈ ok.after, Region.binds md e = true → e.on ≠ i) → oi.apart ops ok = true := fun k ok hk hki hun hno => by
        refine hfree k ok hk hki ?_ hno
        by_cases hjk : j = k
        · subst hjk; exact hjun
        · rw [getD_set_ne true hjk] at hun; exact hun
      refine wpOpIn_mono (fun a' w' h3 => ⟨fun _ => h3.2.1 hg1, ih (listed.setIfInBounds j true) a' w' hfree' (ready_mono hr (Ne.symm hji)) h3.1 (h3.2.1 hg1) hg2 ?_⟩) h2
      rw [Array.setIfInBounds_comm _ _ hji]
      exact h3.2.2
def behind (ops : Array Oper) (p i : Nat) : Bool := match ops[p]? with
  | some o => p != i && o.after.any fun e => Region.binds .any e && e.on == i
  | none => false
theorem behind_ok {p i : Nat} (h : behind ops p i = true) : ∃ op, ops[p]? = some op ∧ p ≠ i ∧ ∃ e ∈ op.after, Region.binds .any e = true ∧ e.on = i := by
  rw [behind] at h
  split at h
  · rename_i o ho
    simp only [Bool.and_eq_true, bne_iff_ne, ne_eq, Array.any_eq_true'] at h
    obtain ⟨h1, e, h2, h3⟩ := h
    exact ⟨o, ho, h1, e, h2, by simpa using h3⟩
  · cases h
theorem wpAnyIn_of_hu {S : World → Prop} {Q : Exit → Act → World → Prop} {p : Nat} : ∀ (fuel : Nat) (listed : Array Bool) (a : Act) (w : World), wpAnyHU P ro md ops Q S p fuel listed a w → wpAnyIn (FR ro) 0 P md ops Q fuel listed a w
  | 0, _, _, _, h => h
  | fuel + 1, _, _, _, h => ⟨h.1, fun i hi => wpOpIn_mono (fun a' w' h' => wpAnyIn_of_hu fuel _ a' w' h'.2) (h.2 i hi)⟩
theorem wpIn_region_hu {S : World → Prop} {Q : Exit → Act → World → Prop} {p id : Nat} {a : Act} {w : World} (hm : P.follows .mixedOrders = true)
    (h : wpAnyHU P ro .any ops Q S p ops.size (Array.replicate ops.size false) a { w with drawn := w.drawn + 1 }) : (Code.region id ops true).wpIn (FR ro) 0 P Q a w :=
  wpIn_region_any hm (wpAnyIn_of_hu _ _ _ _ h)
theorem hu_of_hi {S S' : World → Prop} {Q : Exit → Act → World → Prop} {p : Nat} : ∀ (fuel : Nat) (listed : Array Bool) (a : Act) (w : World), listed.getD p true = true → wpAnyHI P ro md ops Q S' fuel listed a w → wpAnyHU P ro md ops Q S p fuel listed a w
  | 0, _, _, _, _, h => h
  | fuel + 1, listed, _, _, hl, h => ⟨h.1, fun i hi => wpOpIn_mono (fun a' w' h' => by
      have hg : (listed.setIfInBounds i true).getD p true = true := by
        by_cases hip : i = p
        · subst hip
          rcases Nat.lt_or_ge i listed.size with q | q
          · simp [q]
          · simp [Array.getD_eq_getD_getElem?, Array.getElem?_setIfInBounds]; rw [if_neg (by omega)]; rfl
        · rw [getD_set_ne true hip]; exact hl
      exact ⟨fun q => (by rw [hg] at q; cases q), hu_of_hi fuel _ a' w' hg h'.2⟩) (h.2 i hi)⟩
end
section
variable {C : Ctx} {K : List KI} {s : St} {R : Array Oper} {l : List Oper} {d : Option Tmp} {t : TypeId} {pos : String} {aft : Array Edge}
theorem x_heldP (own0 : List (Nat × Nat × OO)) (p : Nat) {k : Code} (ht : tag k = 9) (hm : C.P.follows .mixedOrders = true) {o : Oper} (hR : cops k = (o :: l).toArray) {n : Nat} (hn : (o :: l).length = n) {ls : List Bool} (hls : List.replicate n false = ls) (h : SGo C (.hu (Hold C own0 s.G) p (o :: l).toArray n ls.toArray :: K) s) : SGo C (.code k :: K) s := by
  subst hls hn
  cases k <;> simp [tag] at ht
  rename_i a b c
  cases c <;> simp at ht
  simp only [cops] at hR
  subst hR
  intro a w hS
  have := h a _ (⟨hS.sl, hS.nt, hS.df, hS.mem.drew⟩ : Sat C s a w.drew)
  simp only [wpK] at this ⊢
  exact wpIn_region_hu (S := Hold C own0 s.G) hm (by simpa using this)
theorem hu_take (i : Nat) {own0 : List (Nat × Nat × OO)} {G0 : Hp} {n p : Nat} {listed : Array Bool} {op : Op} {x : SV} (hi : R[i]? = some ⟨d, op, t, pos, aft, none⟩) (hs : Region.noSelect R = true) (hf : Region.free .any R listed i = true)
    (hr : (Region.ready .any R listed).contains i = true) (hp : behind R p i = true) (hpl : listed.getD p true = false) (hQ : QPd C d) (hd : dOk C.nt d = true) (ho : ∀ j y, lk j own0 = some y → lk j s.own = some y) (hG : Le G0 s.G)
    (hq : Quiet C s.sl own0 G0 op x.den) (h : SGo C (.hu (Hold C own0 G0) p R n (listed.setIfInBounds i true) :: K) ⟨putS d x s.sl, s.own, s.G, s.df⟩) :
    SGo C (.hu (Hold C own0 G0) p R (n + 1) listed :: K) s := by
  intro a w hS
  have hhold : Hold C own0 G0 w := ⟨fun k b o e => (hS.mem.own k b o (ho _ _ e)).1, fun b o e => hS.mem.has b o (hG b o e)⟩
  have := h _ _ (hS.put hd x hS.mem)
  simp only [wpK] at this ⊢
  obtain ⟨op', h1, h2, h3⟩ := behind_ok hp
  refine wpAnyHU_first (i := i) (v := x.den) hi (Region.noSelect_spec hs) ?_ h1 h2 h3 n listed a w (Region.free_spec hi hf) (by simpa using hr) (.inl ⟨by simp [Region.wanted], fun w' hw' => hq a w' d t pos aft none hS.sl hw'⟩) hhold hpl this
  intro c a' w' hp
  exact wpK_panic c d x.den (fun a w => hQ c a w x.den) K a' w' hp
theorem hu_step {own0 : List (Nat × Nat × OO)} {G0 : Hp} {n p : Nat} {listed : Array Bool} {i : Nat} {o : Oper} {a : Act} {w : World} (hi : R[i]? = some o) {Ks : List KI}
    (hks : Ks = .hs (Hold C own0 G0) :: .hu (Hold C own0 G0) p R n (listed.setIfInBounds i true) :: K ∨ ∃ own1, (Ks = .h (Hold C own1 G0) R n (listed.setIfInBounds i true) :: K ∧ (listed.setIfInBounds i true).getD p true = true))
    (this : wpK C.P C.ro C.Q (.ops R [o] :: Ks) .normal a w) :
    wpOpIn (FR C.ro) 0 C.P R (wpK C.P C.ro C.Q K) i (fun a' w' => ((listed.setIfInBounds i true).getD p true = false → Hold C own0 G0 w') ∧ wpAnyHU C.P C.ro .any R (wpK C.P C.ro C.Q K) (Hold C own0 G0) p n (listed.setIfInBounds i true) a' w') a w := by
  have hK : ∀ a' w', wpK C.P C.ro C.Q Ks .normal a' w' → ((listed.setIfInBounds i true).getD p true = false → Hold C own0 G0 w') ∧ wpAnyHU C.P C.ro .any R (wpK C.P C.ro C.Q K) (Hold C own0 G0) p n (listed.setIfInBounds i true) a' w' := by
    intro a' w' q
    rcases hks with rfl | ⟨own1, rfl, hl⟩
    · simp only [wpK] at q; exact ⟨fun _ => q.1, q.2⟩
    · simp only [wpK] at q; exact ⟨fun z => (by rw [hl] at z; cases z), hu_of_hi _ _ _ _ hl q⟩
  have hE : ∀ e a' w', (∀ (q : e = Exit.normal), False) → wpK C.P C.ro C.Q Ks e a' w' → wpK C.P C.ro C.Q K e a' w' := by
    intro e a' w' hn q
    cases e with
    | normal => exact (hn rfl).elim
    | _ => rcases hks with rfl | ⟨own1, rfl, hl⟩ <;> simpa only [wpK] using q
  simp only [wpK] at this
  unfold wpOpIn
  simp only [hi]
  simp only [wpListIn] at this
  split
  · rename_i hw
    rw [if_pos hw] at this
    refine ⟨this.1, ?_⟩
    have q := this.2
    generalize (o.semAt (FR C.ro).round a.eval).run C.P w = r at q ⊢
    cases r with
    | ok nx w' =>
      cases nx <;> simp only [Oper.uponIn] at q ⊢
      case value u => exact hK _ _ q
      case skip => exact hK _ _ q
      case defer u => exact hK _ _ q
      case enter f args =>
        refine ⟨q.1, q.2.mono fun e w'' he => ?_⟩
        cases e with
        | returned u => exact hK _ _ he
        | panicked c => exact hE _ _ _ (fun q => by cases q) he
        | outgrown => rcases hks with rfl | ⟨own1, rfl, hl⟩ <;> simpa only [LetsOut, wpK] using he
      case row row args => exact ⟨q.1, q.2.mono fun u w'' he => hK _ _ he⟩
      case round l f tmps assign body =>
        refine ⟨q.1, q.2.mono fun e w'' he => ?_⟩
        cases e with
        | returned u => exact hK _ _ he
        | panicked c => exact hE _ _ _ (fun q => by cases q) he
        | outgrown => rcases hks with rfl | ⟨own1, rfl, hl⟩ <;> simpa only [LetsOut, wpK] using he
    | halt x w' =>
      cases x <;> simp only [Oper.uponIn] at q ⊢
      case panic u => exact hE _ _ _ (fun q => by cases q) q
  · rename_i hw
    rw [if_neg hw] at this
    exact ⟨this.1, hK _ _ this.2⟩
theorem hu_one (i : Nat) {own0 : List (Nat × Nat × OO)} {G0 : Hp} {n p : Nat} {listed : Array Bool} {op : Op} {g : Option (Nat × Bool)} (hi : R[i]? = some ⟨d, op, t, pos, aft, g⟩) (hr : Region.ready .any R listed = [i])
    (h : SGo C (.ops R [⟨d, op, t, pos, aft, g⟩] :: .hs (Hold C own0 G0) :: .hu (Hold C own0 G0) p R n (listed.setIfInBounds i true) :: K) s) : SGo C (.hu (Hold C own0 G0) p R (n + 1) listed :: K) s := by
  intro a w hS
  have := h a w hS
  show wpAnyHU _ _ _ _ _ _ _ _ _ _ _
  refine ⟨fun q => (by rw [hr] at q; cases q), fun j hj => ?_⟩
  rw [hr] at hj
  simp only [List.mem_singleton] at hj
  subst hj
  exact hu_step hi (.inl rfl) this
theorem hu_two (i j : Nat) {own0 : List (Nat × Nat × OO)} {G0 : Hp} {n p : Nat} {listed : Array Bool} {op op' : Op} {g g' : Option (Nat × Bool)} {d' : Option Tmp} {t' : TypeId} {pos' : String} {aft' : Array Edge} (hi : R[i]? = some ⟨d, op, t, pos, aft, g⟩) (hj : R[j]? = some ⟨d', op', t', pos', aft', g'⟩) (hr : Region.ready .any R listed = [i, j])
    (h : SGo C (.ops R [⟨d, op, t, pos, aft, g⟩] :: .hs (Hold C own0 G0) :: .hu (Hold C own0 G0) p R n (listed.setIfInBounds i true) :: K) s)
    (h' : SGo C (.ops R [⟨d', op', t', pos', aft', g'⟩] :: .hs (Hold C own0 G0) :: .hu (Hold C own0 G0) p R n (listed.setIfInBounds j true) :: K) s) : SGo C (.hu (Hold C own0 G0) p R (n + 1) listed :: K) s := by
  intro a w hS
  have h1 := h a w hS
  have h2 := h' a w hS
  show wpAnyHU _ _ _ _ _ _ _ _ _ _ _
  refine ⟨fun q => (by rw [hr] at q; cases q), fun q hq => ?_⟩
  rw [hr] at hq
  simp only [List.mem_cons, List.not_mem_nil, or_false] at hq
  rcases hq with rfl | rfl
  · exact hu_step hi (.inl rfl) h1
  · exact hu_step hj (.inl rfl) h2
theorem hu_last (i : Nat) (own1 : List (Nat × Nat × OO)) {own0 : List (Nat × Nat × OO)} {G0 : Hp} {n p : Nat} {listed : Array Bool} {op : Op} {g : Option (Nat × Bool)} (hi : R[i]? = some ⟨d, op, t, pos, aft, g⟩) (hr : Region.ready .any R listed = [i]) (hl : (listed.setIfInBounds i true).getD p true = true)
    (h : SGo C (.ops R [⟨d, op, t, pos, aft, g⟩] :: .h (Hold C own1 G0) R n (listed.setIfInBounds i true) :: K) s) : SGo C (.hu (Hold C own0 G0) p R (n + 1) listed :: K) s := by
  intro a w hS
  have := h a w hS
  show wpAnyHU _ _ _ _ _ _ _ _ _ _ _
  refine ⟨fun q => (by rw [hr] at q; cases q), fun j hj => ?_⟩
  rw [hr] at hj
  simp only [List.mem_singleton] at hj
  subst hj
  exact hu_step hi (.inr ⟨own1, rfl, hl⟩) this
end
end Go.Sx
namespace Go.Proofs.Ytpmmbjcgabnloaa
set_option linter.unusedSimpArgs false
set_option linter.unusedVariables false
open Go.Sx
set_option maxHeartbeats 8000000
set_option maxRecDepth 20000
def CapOk (v : Value) : Prop := ∀ ad n c, v = .slice ad n c → n ≤ c
theorem put_ok (s : MS) (v : VT) (sv sp sl : Value) (G : Hp) (hs : s.rep G sv sp) (hv : v.rep G sl) (hb : tsz v ≤ 1048576) (hl : s.vals.length ≤ 100000) :
    Pure Try.prog 68 [.agg #[sv, sp], .agg #[.int .i64 v.k, .int .i64 v.n, sl]] G (fun r G' => ∃ sv', r = .agg #[sv', sp] ∧ (⟨s.vals ++ [v], s.ps⟩ : MS).rep G' sv' sp ∧ CapOk sv') := by
  obtain ⟨ad1, cap1, rfl⟩ := Rp.S_slice hs.v
  obtain ⟨ad2, cap2, rfl⟩ := Rp.S_slice hs.p
  obtain ⟨ad3, cap3, rfl⟩ := VT.rep_slice hv
  obtain ⟨cs, hcs, hsrc⟩ := Rp.srcS hs.v
  refine enterX ty tyok Try.func68 rfl Try.ntmps68 [.a [.v (.slice ad1 s.vals.length cap1), .v (.slice ad2 s.ps.length cap2)], .a [.v (.int .i64 v.k), .v (.int .i64 v.n), .v (.slice ad3 v.l.length cap3)]] (by simp) ?_
  intro C hP hQ hnt hty hmb hmh hro; have hQp := qp_body hQ; refine st_ ?_
  refine rn_ ?_; intros
  rename_i b0 b1 b2
  refine x_heldP [(0, b0, .c 44 [.v (.slice ad1 s.vals.length cap1), .v (.slice ad2 s.ps.length cap2)]), (1, b1, .c 28 [.v (.int .i64 v.k), .v (.int .i64 v.n), .v (.slice ad3 v.l.length cap3)])] 8 rfl (by rw [hP]; kernel_rfl) rfl rfl rfl ?_; refine st_ ?_
  refine hu_take 1 rfl (by kernel_rfl) (by kernel_rfl) (by kernel_rfl) (by kernel_rfl) rfl (fun c a w v => hQp c a w _ v) (by rw [hnt]; rfl) (allIn (by repeat (first | exact trivial | refine ⟨rfl, ?_⟩))) (by first | exact Le.refl _ | assumption) (quiet_op (by rw [hty]; first | rfl | (refine st_ ?_; rfl))) ?_; refine st_ ?_
  refine hu_take 2 rfl (by kernel_rfl) (by kernel_rfl) (by kernel_rfl) (by kernel_rfl) rfl (fun c a w v => hQp c a w _ v) (by rw [hnt]; rfl) (allIn (by repeat (first | exact trivial | refine ⟨rfl, ?_⟩))) (by first | exact Le.refl _ | assumption) (quiet_op (by rw [hty]; first | rfl | (refine st_ ?_; rfl))) ?_; refine st_ ?_
  refine hu_take 4 rfl (by kernel_rfl) (by kernel_rfl) (by kernel_rfl) (by kernel_rfl) rfl (fun c a w v => hQp c a w _ v) (by rw [hnt]; rfl) (allIn (by repeat (first | exact trivial | refine ⟨rfl, ?_⟩))) (by first | exact Le.refl _ | assumption) (quiet_op (by rw [hty]; first | rfl | (refine st_ ?_; rfl))) ?_; refine st_ ?_
  refine hu_two 0 5 rfl rfl (by kernel_rfl) ?_ ?_
  · refine rn_ ?_; intros
    refine h_hs (allIn (by repeat (first | exact trivial | refine ⟨rfl, ?_⟩))) (by first | exact Le.refl _ | assumption) ?_
    refine hu_two 3 5 rfl rfl (by kernel_rfl) ?_ ?_
    · refine go_litrow 3 (n := 0) (size := 3) rfl (by omega) rfl (by omega) ?_
      refine st_ ?_
      refine go_append_any 3 (by rw [hnt]; rfl) (by rw [hty]; rfl) (by rw [hty]; rfl) (by decide) rfl rfl rfl (by omega) rfl (hsrc.imp id fun f => f _ _ rfl) (Rp.L_len hcs) (Rp.L_one hcs) (by omega) (by simp only []; omega) ?_
      intro v1
      refine go_rowS 3 rfl ?_
      rintro a3 c3 rfl
      refine rn_ ?_; intros
      refine h_hs (allIn (by repeat (first | exact trivial | refine ⟨rfl, ?_⟩))) (by first | exact Le.refl _ | assumption) ?_
      refine hu_one 5 rfl (by kernel_rfl) ?_
      refine rn_ ?_; intros
      refine h_hs (allIn (by repeat (first | exact trivial | refine ⟨rfl, ?_⟩))) (by first | exact Le.refl _ | assumption) ?_
      refine hu_one 6 rfl (by kernel_rfl) ?_
      refine go_append_any 3 (by rw [hnt]; rfl) (by rw [hty]; rfl) (by rw [hty]; rfl) (by decide) rfl rfl rfl (by omega) rfl (.inr (src_own 3 rfl rfl)) rfl (by simp [dens, SV.den, Value.oneCell']) (by omega) (by simp only []; omega) ?_
      intro v2
      refine go_rowC 3 rfl ?_
      rintro a4 c4 rfl hc4
      refine rn_ ?_; intros
      refine h_hs (allIn (by repeat (first | exact trivial | refine ⟨rfl, ?_⟩))) (by first | exact Le.refl _ | assumption) ?_
      refine hu_one 7 rfl (by kernel_rfl) ?_
      refine rn_ ?_; intros
      refine h_hs (allIn (by repeat (first | exact trivial | refine ⟨rfl, ?_⟩))) (by first | exact Le.refl _ | assumption) ?_
      refine hu_last 8 [] rfl (by kernel_rfl) rfl ?_
      refine rn_ ?_; intros
      refine h_end (by kernel_rfl) ?_
      refine go_pubL rV 3 rfl (by omega) (ts := s.vals ++ [v]) (by simp) (by omega) (Rp.L_append (by simpa using hcs) (Rp.L_single ⟨_, rfl, hv, hb⟩)) ?_
      intro G6 ad6 cap6 (hle6 : Le G G6) he6 hS6
      rw [← he6] at hS6
      refine st_ ?_
      refine rn_ ?_; intros
      refine x_retc rfl hQ hmb rfl (by rw [hty]; simp only [so, sq, zy, zz, tyE, SO', SQ', opQ, opStore, opAlloc, ev, putS, dOk, cv, SV.cs, SV.one, SV.bool?, eqB, Value.oneCell', ldOwn, binInt, binConst, binBool, binStr, isC, TK.agg, rv, rv1, ldV, resOne, resV, Nat.reduceAdd, Nat.reduceMul, Nat.reduceSub, Nat.reduceLT, Nat.reduceLeDiff, Nat.reduceEqDiff, Nat.reduceBEq, reduceIte, reduceCtorEq, eq_self]; try rfl) rfl ?_; simp only [SV.den, resV, dens]
      exact ⟨_, rfl, ⟨hS6, Rp.S_mono hle6 hs.p⟩, fun ad n c h => by cases h; simpa using hc4⟩
    · refine rn_ ?_; intros
      refine h_hs (allIn (by repeat (first | exact trivial | refine ⟨rfl, ?_⟩))) (by first | exact Le.refl _ | assumption) ?_
      refine hu_one 3 rfl (by kernel_rfl) ?_
      refine go_litrow 3 (n := 0) (size := 3) rfl (by omega) rfl (by omega) ?_
      refine st_ ?_
      refine go_append_any 3 (by rw [hnt]; rfl) (by rw [hty]; rfl) (by rw [hty]; rfl) (by decide) rfl rfl rfl (by omega) rfl (hsrc.imp id fun f => f _ _ rfl) (Rp.L_len hcs) (Rp.L_one hcs) (by omega) (by simp only []; omega) ?_
      intro v1
      refine go_rowS 3 rfl ?_
      rintro a3 c3 rfl
      refine rn_ ?_; intros
      refine h_hs (allIn (by repeat (first | exact trivial | refine ⟨rfl, ?_⟩))) (by first | exact Le.refl _ | assumption) ?_
      refine hu_one 6 rfl (by kernel_rfl) ?_
      refine go_append_any 3 (by rw [hnt]; rfl) (by rw [hty]; rfl) (by rw [hty]; rfl) (by decide) rfl rfl rfl (by omega) rfl (.inr (src_own 3 rfl rfl)) rfl (by simp [dens, SV.den, Value.oneCell']) (by omega) (by simp only []; omega) ?_
      intro v2
      refine go_rowC 3 rfl ?_
      rintro a4 c4 rfl hc4
      refine rn_ ?_; intros
      refine h_hs (allIn (by repeat (first | exact trivial | refine ⟨rfl, ?_⟩))) (by first | exact Le.refl _ | assumption) ?_
      refine hu_one 7 rfl (by kernel_rfl) ?_
      refine rn_ ?_; intros
      refine h_hs (allIn (by repeat (first | exact trivial | refine ⟨rfl, ?_⟩))) (by first | exact Le.refl _ | assumption) ?_
      refine hu_last 8 [] rfl (by kernel_rfl) rfl ?_
      refine rn_ ?_; intros
      refine h_end (by kernel_rfl) ?_
      refine go_pubL rV 3 rfl (by omega) (ts := s.vals ++ [v]) (by simp) (by omega) (Rp.L_append (by simpa using hcs) (Rp.L_single ⟨_, rfl, hv, hb⟩)) ?_
      intro G6 ad6 cap6 (hle6 : Le G G6) he6 hS6
      rw [← he6] at hS6
      refine st_ ?_
      refine rn_ ?_; intros
      refine x_retc rfl hQ hmb rfl (by rw [hty]; simp only [so, sq, zy, zz, tyE, SO', SQ', opQ, opStore, opAlloc, ev, putS, dOk, cv, SV.cs, SV.one, SV.bool?, eqB, Value.oneCell', ldOwn, binInt, binConst, binBool, binStr, isC, TK.agg, rv, rv1, ldV, resOne, resV, Nat.reduceAdd, Nat.reduceMul, Nat.reduceSub, Nat.reduceLT, Nat.reduceLeDiff, Nat.reduceEqDiff, Nat.reduceBEq, reduceIte, reduceCtorEq, eq_self]; try rfl) rfl ?_; simp only [SV.den, resV, dens]
      exact ⟨_, rfl, ⟨hS6, Rp.S_mono hle6 hs.p⟩, fun ad n c h => by cases h; simpa using hc4⟩
  · refine rn_ ?_; intros
    refine h_hs (allIn (by repeat (first | exact trivial | refine ⟨rfl, ?_⟩))) (by first | exact Le.refl _ | assumption) ?_
    refine hu_one 0 rfl (by kernel_rfl) ?_
    refine rn_ ?_; intros
    refine h_hs (allIn (by repeat (first | exact trivial | refine ⟨rfl, ?_⟩))) (by first | exact Le.refl _ | assumption) ?_
    refine hu_one 3 rfl (by kernel_rfl) ?_
    refine go_litrow 4 (n := 0) (size := 3) rfl (by omega) rfl (by omega) ?_
    refine st_ ?_
    refine go_append_any 4 (by rw [hnt]; rfl) (by rw [hty]; rfl) (by rw [hty]; rfl) (by decide) rfl rfl rfl (by omega) rfl (hsrc.imp id fun f => f _ _ rfl) (Rp.L_len hcs) (Rp.L_one hcs) (by omega) (by simp only []; omega) ?_
    intro v1
    refine go_rowS 4 rfl ?_
    rintro a3 c3 rfl
    refine rn_ ?_; intros
    refine h_hs (allIn (by repeat (first | exact trivial | refine ⟨rfl, ?_⟩))) (by first | exact Le.refl _ | assumption) ?_
    refine hu_one 6 rfl (by kernel_rfl) ?_
    refine go_append_any 4 (by rw [hnt]; rfl) (by rw [hty]; rfl) (by rw [hty]; rfl) (by decide) rfl rfl rfl (by omega) rfl (.inr (src_own 3 rfl rfl)) rfl (by simp [dens, SV.den, Value.oneCell']) (by omega) (by simp only []; omega) ?_
    intro v2
    refine go_rowC 4 rfl ?_
    rintro a4 c4 rfl hc4
    refine rn_ ?_; intros
    refine h_hs (allIn (by repeat (first | exact trivial | refine ⟨rfl, ?_⟩))) (by first | exact Le.refl _ | assumption) ?_
    refine hu_one 7 rfl (by kernel_rfl) ?_
    refine rn_ ?_; intros
    refine h_hs (allIn (by repeat (first | exact trivial | refine ⟨rfl, ?_⟩))) (by first | exact Le.refl _ | assumption) ?_
    refine hu_last 8 [] rfl (by kernel_rfl) rfl ?_
    refine rn_ ?_; intros
    refine h_end (by kernel_rfl) ?_
    refine go_pubL rV 4 rfl (by omega) (ts := s.vals ++ [v]) (by simp) (by omega) (Rp.L_append (by simpa using hcs) (Rp.L_single ⟨_, rfl, hv, hb⟩)) ?_
    intro G6 ad6 cap6 (hle6 : Le G G6) he6 hS6
    rw [← he6] at hS6
    refine st_ ?_
    refine rn_ ?_; intros
    refine x_retc rfl hQ hmb rfl (by rw [hty]; simp only [so, sq, zy, zz, tyE, SO', SQ', opQ, opStore, opAlloc, ev, putS, dOk, cv, SV.cs, SV.one, SV.bool?, eqB, Value.oneCell', ldOwn, binInt, binConst, binBool, binStr, isC, TK.agg, rv, rv1, ldV, resOne, resV, Nat.reduceAdd, Nat.reduceMul, Nat.reduceSub, Nat.reduceLT, Nat.reduceLeDiff, Nat.reduceEqDiff, Nat.reduceBEq, reduceIte, reduceCtorEq, eq_self]; try rfl) rfl ?_; simp only [SV.den, resV, dens]
    exact ⟨_, rfl, ⟨hS6, Rp.S_mono hle6 hs.p⟩, fun ad n c h => by cases h; simpa using hc4⟩
end Go.Proofs.Ytpmmbjcgabnloaa
namespace Go.Proofs.Ytpmmbjcgabnloaa
set_option linter.unusedSimpArgs false
set_option linter.unusedVariables false
open Go.Sx
set_option maxHeartbeats 8000000
set_option maxRecDepth 20000
def rdRet (r : MS × VT × Bool) (v : Value) (G : Hp) : Prop := ∃ v1 v2 sl, v = .tuple #[.agg #[v1, v2], .agg #[.int .i64 r.2.1.k, .int .i64 r.2.1.n, sl], .bool r.2.2] ∧ r.1.rep G v1 v2 ∧ r.2.1.rep G sl ∧ tsz r.2.1 ≤ 1048576 ∧ CapOk v1
theorem does10_ok (th : Int) (arg res : VT) (fr to : Int) (dn : Bool) (s : MS) (sv sp sa sr : Value) (G : Hp) (hs : s.rep G sv sp) (ho : (⟨th, 0, arg, res, fr, to, dn⟩ : Op).rep G sa sr) (hl : s.vals.length ≤ 100000) (hc : CapOk sv) :
    Pure Try.prog 47 [.int .i64 1, .agg #[sv, sp], .agg (opL ⟨th, 0, arg, res, fr, to, dn⟩ sa sr).toArray] G (rdRet (varP s ⟨th, 0, arg, res, fr, to, dn⟩)) := by
  obtain ⟨ada, capa, rfl⟩ := VT.rep_slice ho.a
  obtain ⟨adr, capr, rfl⟩ := VT.rep_slice ho.r
  obtain ⟨ad1, cap1, rfl⟩ := Rp.S_slice hs.v
  obtain ⟨ad2, cap2, rfl⟩ := Rp.S_slice hs.p
  refine enterX ty tyok Try.func47 rfl Try.ntmps47 [.v (.int .i64 1), .a [.v (.slice ad1 s.vals.length cap1), .v (.slice ad2 s.ps.length cap2)], .a (opC ⟨th, 0, arg, res, fr, to, dn⟩ (.slice ada arg.l.length capa) (.slice adr res.l.length capr))] (by simp) ?_
  simp only [opC]
  intro C hP hQ hnt hty hmb hmh hro; have hQp := qp_body hQ; refine st_ ?_
  refine rn_ ?_; intros
  rename_i b0 b1 b2 b3 b4 b5
  (refine x_split rfl rfl rfl (fun _ => ?_) (fun hc => absurd hc (by first | decide +kernel | (simp; first | done | fail))); refine st_ ?_; (refine ru_ ?_; intros))
  refine rn_ ?_; intros
  refine x_split rfl rfl rfl (fun hv => ?_) (fun hv => ?_) <;> (refine st_ ?_; (refine ru_ ?_; intros))
  · have e : varP s ⟨th, 0, arg, res, fr, to, dn⟩ = (s, intV 0, true) := by
      rw [varP]
      split
      · rename_i q; rw [q] at hv; simp at hv
      · rfl
    refine x_held [(0, b0, .c 44 [.v (.slice ad1 s.vals.length cap1), .v (.slice ad2 s.ps.length cap2)])] rfl (by rw [hP]; kernel_rfl) rfl rfl rfl ?_; refine st_ ?_
    refine h_take 0 rfl (by kernel_rfl) (by kernel_rfl) (by kernel_rfl) hQp (by rw [hnt]; rfl) (allIn (by repeat (first | exact trivial | refine ⟨rfl, ?_⟩))) (by first | exact Le.refl _ | assumption) (quiet_op (by rw [hty]; first | rfl | (refine st_ ?_; rfl))) ?_; refine st_ ?_
    refine h_one 1 rfl (by kernel_rfl) ?_
    refine go_callf (by rw [hnt]; rfl) (by rw [hP]; kernel_rfl) rfl (hP ▸ refint_ok 0 _) ?_; refine rn_ ?_; intros
    refine h_hs (allIn (by repeat (first | exact trivial | refine ⟨rfl, ?_⟩))) (by first | exact Le.refl _ | assumption) ?_
    refine h_one 2 rfl (by kernel_rfl) ?_
    refine rn_ ?_; intros
    refine h_hs (allIn (by repeat (first | exact trivial | refine ⟨rfl, ?_⟩))) (by first | exact Le.refl _ | assumption) ?_
    refine h_one 3 rfl (by kernel_rfl) ?_
    refine rn_ ?_; intros
    refine h_hs (allIn (by repeat (first | exact trivial | refine ⟨rfl, ?_⟩))) (by first | exact Le.refl _ | assumption) ?_
    refine h_one 4 rfl (by kernel_rfl) ?_
    refine rn_ ?_; intros
    refine h_hs (allIn (by repeat (first | exact trivial | refine ⟨rfl, ?_⟩))) (by first | exact Le.refl _ | assumption) ?_
    refine h_end (by kernel_rfl) ?_
    refine rn_ ?_; intros
    refine x_retc rfl hQ hmb rfl (by rw [hty]; simp only [so, sq, zy, zz, tyE, SO', SQ', opQ, opStore, opAlloc, ev, putS, dOk, cv, SV.cs, SV.one, SV.bool?, eqB, Value.oneCell', ldOwn, binInt, binConst, binBool, binStr, isC, TK.agg, rv, rv1, ldV, resOne, resV, Nat.reduceAdd, Nat.reduceMul, Nat.reduceSub, Nat.reduceLT, Nat.reduceLeDiff, Nat.reduceEqDiff, Nat.reduceBEq, reduceIte, reduceCtorEq, eq_self]; try rfl) rfl ?_; simp only [SV.den, resV, dens]
    rw [e]
    exact ⟨_, _, _, rfl, hs, rep_leaf _ 2 0 (by simp [isI64]) (by simp [isI64]), by simp [intV, tsz, tszL], hc⟩
  have hv' : s.vals = [] := by simpa using hv
  have e : varP s ⟨th, 0, arg, res, fr, to, dn⟩ = (⟨s.vals ++ [arg], s.ps⟩, intV 1, true) := by rw [varP, hv']; rfl
  refine rn_ ?_; intros
  refine go_call (by rw [hnt]; rfl) (by rw [hP]; kernel_rfl) rfl (hP ▸ put_ok s arg _ _ _ _ hs ho.a ho.ok.ba hl) ?_
  rintro v G1 (hle1 : Le G G1) ⟨sv', rfl, hs1, hc1⟩
  obtain ⟨ad7, cap7, e7⟩ := Rp.S_slice hs1.v
  simp only at e7
  subst e7
  refine rn_ ?_; intros
  refine go_callf (by rw [hnt]; rfl) (by rw [hP]; kernel_rfl) rfl (hP ▸ refint_ok 1 _) ?_; refine rn_ ?_; intros
  refine x_retc rfl hQ hmb rfl (by rw [hty]; simp only [so, sq, zy, zz, tyE, SO', SQ', opQ, opStore, opAlloc, ev, putS, dOk, cv, SV.cs, SV.one, SV.bool?, eqB, Value.oneCell', ldOwn, binInt, binConst, binBool, binStr, isC, TK.agg, rv, rv1, ldV, resOne, resV, Nat.reduceAdd, Nat.reduceMul, Nat.reduceSub, Nat.reduceLT, Nat.reduceLeDiff, Nat.reduceEqDiff, Nat.reduceBEq, reduceIte, reduceCtorEq, eq_self]; try rfl) rfl ?_; simp only [SV.den, resV, dens]
  rw [e]
  exact ⟨_, _, _, rfl, hs1, rep_leaf _ 2 1 (by simp [isI64]) (by simp [isI64]), by simp [intV, tsz, tszL], hc1⟩
theorem does11_ok (th : Int) (arg res : VT) (fr to : Int) (dn : Bool) (s : MS) (sv sp sa sr : Value) (G : Hp) (hs : s.rep G sv sp) (ho : (⟨th, 1, arg, res, fr, to, dn⟩ : Op).rep G sa sr) (hl : s.vals.length ≤ 100000) (hc : CapOk sv) :
    Pure Try.prog 47 [.int .i64 1, .agg #[sv, sp], .agg (opL ⟨th, 1, arg, res, fr, to, dn⟩ sa sr).toArray] G (rdRet (varP s ⟨th, 1, arg, res, fr, to, dn⟩)) := by
  obtain ⟨ada, capa, rfl⟩ := VT.rep_slice ho.a
  obtain ⟨adr, capr, rfl⟩ := VT.rep_slice ho.r
  obtain ⟨ad1, cap1, rfl⟩ := Rp.S_slice hs.v
  obtain ⟨ad2, cap2, rfl⟩ := Rp.S_slice hs.p
  refine enterX ty tyok Try.func47 rfl Try.ntmps47 [.v (.int .i64 1), .a [.v (.slice ad1 s.vals.length cap1), .v (.slice ad2 s.ps.length cap2)], .a (opC ⟨th, 1, arg, res, fr, to, dn⟩ (.slice ada arg.l.length capa) (.slice adr res.l.length capr))] (by simp) ?_
  simp only [opC]
  intro C hP hQ hnt hty hmb hmh hro; have hQp := qp_body hQ; refine st_ ?_
  refine rn_ ?_; intros
  rename_i b0 b1 b2 b3 b4 b5
  (refine x_split rfl rfl rfl (fun hc => absurd hc (by first | decide +kernel | (simp; first | done | fail))) (fun _ => ?_); refine st_ ?_; (refine ru_ ?_; intros))
  refine rn_ ?_; intros
  (refine x_split rfl rfl rfl (fun _ => ?_) (fun hc => absurd hc (by first | decide +kernel | (simp; first | done | fail))); refine st_ ?_; (refine ru_ ?_; intros))
  refine rn_ ?_; intros
  refine x_split rfl rfl rfl (fun hv => ?_) (fun hv => ?_) <;> (refine st_ ?_; (refine ru_ ?_; intros))
  · obtain ⟨x, r, hx⟩ : ∃ x r, s.vals = x :: r := by
      rcases h : s.vals with _ | ⟨x, r⟩
      · rw [h] at hv; simp at hv
      · exact ⟨x, r, rfl⟩
    have h0 : 0 < s.vals.length := by rw [hx]; simp
    have hx0 : s.vals[0] = x := by simp [hx]
    have e : varP s ⟨th, 1, arg, res, fr, to, dn⟩ = (s, s.vals[0], true) := by rw [hx0]; simp only [varP, hx]; rfl
    obtain ⟨c1, o1, slx, rfl, hat, hrep, hb⟩ := rV_at hs.v (i := 0) h0
    obtain ⟨asl, csl, rfl⟩ := VT.rep_slice hrep
    refine x_held [(0, b0, .c 44 [.v (.slice (some ⟨c1, o1, none⟩) s.vals.length cap1), .v (.slice ad2 s.ps.length cap2)])] rfl (by rw [hP]; kernel_rfl) rfl rfl rfl ?_; refine st_ ?_
    refine h_take 0 rfl (by kernel_rfl) (by kernel_rfl) (by kernel_rfl) hQp (by rw [hnt]; rfl) (allIn (by repeat (first | exact trivial | refine ⟨rfl, ?_⟩))) (by first | exact Le.refl _ | assumption) (quiet_op (by rw [hty]; first | rfl | (refine st_ ?_; rfl))) ?_; refine st_ ?_
    refine h_take 1 rfl (by kernel_rfl) (by kernel_rfl) (by kernel_rfl) hQp (by rw [hnt]; rfl) (allIn (by repeat (first | exact trivial | refine ⟨rfl, ?_⟩))) (by first | exact Le.refl _ | assumption) (quiet_op (by rw [hty]; first | rfl | (refine st_ ?_; rfl))) ?_; refine st_ ?_
    refine h_take 2 rfl (by kernel_rfl) (by kernel_rfl) (by kernel_rfl) hQp (by rw [hnt]; rfl) (allIn (by repeat (first | exact trivial | refine ⟨rfl, ?_⟩))) (by first | exact Le.refl _ | assumption) (quiet_op (by rw [hty]; first | rfl | (refine st_ ?_; rfl))) ?_; refine st_ ?_
    refine h_take 3 rfl (by kernel_rfl) (by kernel_rfl) (by kernel_rfl) hQp (by rw [hnt]; rfl) (allIn (by repeat (first | exact trivial | refine ⟨rfl, ?_⟩))) (by first | exact Le.refl _ | assumption) (x := .v (.pointer (some ⟨c1, o1 + 0 * 3, none⟩))) ((quiet_index (k := .i64) (n := 0) (by rw [hty]; rfl) (by rw [hty]; rfl) rfl rfl rfl (by omega) (by omega)).cast rfl) ?_
    refine st_ ?_
    refine h_take 4 rfl (by kernel_rfl) (by kernel_rfl) (by kernel_rfl) hQp (by rw [hnt]; rfl) (allIn (by repeat (first | exact trivial | refine ⟨rfl, ?_⟩))) (by first | exact Le.refl _ | assumption) (x := .a [.v (.int .i64 s.vals[0].k), .v (.int .i64 s.vals[0].n), .v (.slice asl s.vals[0].l.length csl)]) ((quiet_load (by rw [hty]; rfl) rfl (fun q => by cases q) hat rfl).cast (by simp only [ldV, SV.den, dens]; rfl)) ?_
    refine st_ ?_
    refine h_one 5 rfl (by kernel_rfl) ?_
    refine rn_ ?_; intros
    refine h_hs (allIn (by repeat (first | exact trivial | refine ⟨rfl, ?_⟩))) (by first | exact Le.refl _ | assumption) ?_
    refine h_one 6 rfl (by kernel_rfl) ?_
    refine rn_ ?_; intros
    refine h_hs (allIn (by repeat (first | exact trivial | refine ⟨rfl, ?_⟩))) (by first | exact Le.refl _ | assumption) ?_
    refine h_one 7 rfl (by kernel_rfl) ?_
    refine rn_ ?_; intros
    refine h_hs (allIn (by repeat (first | exact trivial | refine ⟨rfl, ?_⟩))) (by first | exact Le.refl _ | assumption) ?_
    refine h_end (by kernel_rfl) ?_
    refine rn_ ?_; intros
    refine x_retc rfl hQ hmb rfl (by rw [hty]; simp only [so, sq, zy, zz, tyE, SO', SQ', opQ, opStore, opAlloc, ev, putS, dOk, cv, SV.cs, SV.one, SV.bool?, eqB, Value.oneCell', ldOwn, binInt, binConst, binBool, binStr, isC, TK.agg, rv, rv1, ldV, resOne, resV, Nat.reduceAdd, Nat.reduceMul, Nat.reduceSub, Nat.reduceLT, Nat.reduceLeDiff, Nat.reduceEqDiff, Nat.reduceBEq, reduceIte, reduceCtorEq, eq_self]; try rfl) rfl ?_; simp only [SV.den, resV, dens]
    rw [e]
    exact ⟨_, _, _, rfl, hs, hrep, hb, hc⟩
  have e : varP s ⟨th, 1, arg, res, fr, to, dn⟩ = (s, noneV, false) := by
    have hv' : s.vals = [] := by simpa using hv
    rw [varP, hv']; rfl
  refine rn_ ?_; intros
  refine x_held [(0, b0, .c 44 [.v (.slice ad1 s.vals.length cap1), .v (.slice ad2 s.ps.length cap2)]), (5, b5, .c 28 [.v (.int .i64 0), .v (.int .i64 0), .v (.slice none 0 0)])] rfl (by rw [hP]; kernel_rfl) rfl rfl rfl ?_; refine st_ ?_
  refine h_take 0 rfl (by kernel_rfl) (by kernel_rfl) (by kernel_rfl) hQp (by rw [hnt]; rfl) (allIn (by repeat (first | exact trivial | refine ⟨rfl, ?_⟩))) (by first | exact Le.refl _ | assumption) (quiet_op (by rw [hty]; first | rfl | (refine st_ ?_; rfl))) ?_; refine st_ ?_
  refine h_take 1 rfl (by kernel_rfl) (by kernel_rfl) (by kernel_rfl) hQp (by rw [hnt]; rfl) (allIn (by repeat (first | exact trivial | refine ⟨rfl, ?_⟩))) (by first | exact Le.refl _ | assumption) (quiet_op (by rw [hty]; first | rfl | (refine st_ ?_; rfl))) ?_; refine st_ ?_
  refine h_one 2 rfl (by kernel_rfl) ?_
  refine rn_ ?_; intros
  refine h_hs (allIn (by repeat (first | exact trivial | refine ⟨rfl, ?_⟩))) (by first | exact Le.refl _ | assumption) ?_
  refine h_one 3 rfl (by kernel_rfl) ?_
  refine rn_ ?_; intros
  refine h_hs (allIn (by repeat (first | exact trivial | refine ⟨rfl, ?_⟩))) (by first | exact Le.refl _ | assumption) ?_
  refine h_one 4 rfl (by kernel_rfl) ?_
  refine rn_ ?_; intros
  refine h_hs (allIn (by repeat (first | exact trivial | refine ⟨rfl, ?_⟩))) (by first | exact Le.refl _ | assumption) ?_
  refine h_end (by kernel_rfl) ?_
  refine rn_ ?_; intros
  refine x_retc rfl hQ hmb rfl (by rw [hty]; simp only [so, sq, zy, zz, tyE, SO', SQ', opQ, opStore, opAlloc, ev, putS, dOk, cv, SV.cs, SV.one, SV.bool?, eqB, Value.oneCell', ldOwn, binInt, binConst, binBool, binStr, isC, TK.agg, rv, rv1, ldV, resOne, resV, Nat.reduceAdd, Nat.reduceMul, Nat.reduceSub, Nat.reduceLT, Nat.reduceLeDiff, Nat.reduceEqDiff, Nat.reduceBEq, reduceIte, reduceCtorEq, eq_self]; try rfl) rfl ?_; simp only [SV.den, resV, dens]
  rw [e]
  exact ⟨_, _, _, rfl, hs, rep_leaf _ 0 0 (by simp [isI64]) (by simp [isI64]), by simp [noneV, tsz, tszL], hc⟩
theorem does20_ok (th : Int) (arg res : VT) (fr to : Int) (dn : Bool) (s : MS) (sv sp sa sr : Value) (G : Hp) (hs : s.rep G sv sp) (ho : (⟨th, 0, arg, res, fr, to, dn⟩ : Op).rep G sa sr) (hl : s.vals.length ≤ 100000) (hc : CapOk sv) :
    Pure Try.prog 47 [.int .i64 2, .agg #[sv, sp], .agg (opL ⟨th, 0, arg, res, fr, to, dn⟩ sa sr).toArray] G (rdRet (slotP s ⟨th, 0, arg, res, fr, to, dn⟩)) := by
  obtain ⟨ada, capa, rfl⟩ := VT.rep_slice ho.a
  obtain ⟨adr, capr, rfl⟩ := VT.rep_slice ho.r
  obtain ⟨ad1, cap1, rfl⟩ := Rp.S_slice hs.v
  obtain ⟨ad2, cap2, rfl⟩ := Rp.S_slice hs.p
  refine enterX ty tyok Try.func47 rfl Try.ntmps47 [.v (.int .i64 2), .a [.v (.slice ad1 s.vals.length cap1), .v (.slice ad2 s.ps.length cap2)], .a (opC ⟨th, 0, arg, res, fr, to, dn⟩ (.slice ada arg.l.length capa) (.slice adr res.l.length capr))] (by simp) ?_
  simp only [opC]
  intro C hP hQ hnt hty hmb hmh hro; have hQp := qp_body hQ; refine st_ ?_
  refine rn_ ?_; intros
  rename_i b0 b1 b2 b3 b4 b5
  (refine x_split rfl rfl rfl (fun hc => absurd hc (by first | decide +kernel | (simp; first | done | fail))) (fun _ => ?_); refine st_ ?_; (refine ru_ ?_; intros))
  refine rn_ ?_; intros
  (refine x_split rfl rfl rfl (fun hc => absurd hc (by first | decide +kernel | (simp; first | done | fail))) (fun _ => ?_); refine st_ ?_; (refine ru_ ?_; intros))
  refine rn_ ?_; intros
  (refine x_split rfl rfl rfl (fun _ => ?_) (fun hc => absurd hc (by first | decide +kernel | (simp; first | done | fail))); refine st_ ?_; (refine ru_ ?_; intros))
  refine rn_ ?_; intros
  refine x_split rfl rfl rfl (fun hv => ?_) (fun hv => ?_) <;> (refine st_ ?_; (refine ru_ ?_; intros))
  · have hv' : s.vals = [] := by simpa using hv
    have e : slotP s ⟨th, 0, arg, res, fr, to, dn⟩ = (⟨s.vals ++ [arg], s.ps⟩, unitV, true) := by rw [slotP, hv']; simp [boxP, hv']
    refine x_held [(0, b0, .c 44 [.v (.slice ad1 s.vals.length cap1), .v (.slice ad2 s.ps.length cap2)]), (1, b1, .c 40 [.v (.int .i64 th), .v (.int .i64 0), .v (.int .i64 arg.k), .v (.int .i64 arg.n), .v (.slice ada arg.l.length capa), .v (.int .i64 res.k), .v (.int .i64 res.n), .v (.slice adr res.l.length capr), .v (.int .i64 fr), .v (.int .i64 to), .v (.bool dn)]), (4, b4, .c 28 [.v (.int .i64 1), .v (.int .i64 0), .v (.slice none 0 0)])] rfl (by rw [hP]; kernel_rfl) rfl rfl rfl ?_; refine st_ ?_
    refine h_take 0 rfl (by kernel_rfl) (by kernel_rfl) (by kernel_rfl) hQp (by rw [hnt]; rfl) (allIn (by repeat (first | exact trivial | refine ⟨rfl, ?_⟩))) (by first | exact Le.refl _ | assumption) (quiet_op (by rw [hty]; first | rfl | (refine st_ ?_; rfl))) ?_; refine st_ ?_
    refine h_take 1 rfl (by kernel_rfl) (by kernel_rfl) (by kernel_rfl) hQp (by rw [hnt]; rfl) (allIn (by repeat (first | exact trivial | refine ⟨rfl, ?_⟩))) (by first | exact Le.refl _ | assumption) (quiet_op (by rw [hty]; first | rfl | (refine st_ ?_; rfl))) ?_; refine st_ ?_
    refine h_take 2 rfl (by kernel_rfl) (by kernel_rfl) (by kernel_rfl) hQp (by rw [hnt]; rfl) (allIn (by repeat (first | exact trivial | refine ⟨rfl, ?_⟩))) (by first | exact Le.refl _ | assumption) (quiet_op (by rw [hty]; first | rfl | (refine st_ ?_; rfl))) ?_; refine st_ ?_
    refine h_take 4 rfl (by kernel_rfl) (by kernel_rfl) (by kernel_rfl) hQp (by rw [hnt]; rfl) (allIn (by repeat (first | exact trivial | refine ⟨rfl, ?_⟩))) (by first | exact Le.refl _ | assumption) (quiet_op (by rw [hty]; first | rfl | (refine st_ ?_; rfl))) ?_; refine st_ ?_
    refine h_one 3 rfl (by kernel_rfl) ?_
    refine go_call (by rw [hnt]; rfl) (by rw [hP]; kernel_rfl) rfl (hP ▸ put_ok s arg _ _ _ _ hs ho.a ho.ok.ba hl) ?_
    rintro v G1 (hle1 : Le G G1) ⟨sv', rfl, hs1, hc1⟩
    obtain ⟨ad7, cap7, e7⟩ := Rp.S_slice hs1.v
    simp only at e7
    subst e7
    refine rn_ ?_; intros
    refine h_hs (allIn (by repeat (first | exact trivial | refine ⟨rfl, ?_⟩))) (by first | exact Le.refl _ | assumption) ?_
    refine h_one 5 rfl (by kernel_rfl) ?_
    refine rn_ ?_; intros
    refine h_hs (allIn (by repeat (first | exact trivial | refine ⟨rfl, ?_⟩))) (by first | exact Le.refl _ | assumption) ?_
    refine h_one 6 rfl (by kernel_rfl) ?_
    refine rn_ ?_; intros
    refine h_hs (allIn (by repeat (first | exact trivial | refine ⟨rfl, ?_⟩))) (by first | exact Le.refl _ | assumption) ?_
    refine h_one 7 rfl (by kernel_rfl) ?_
    refine rn_ ?_; intros
    refine h_hs (allIn (by repeat (first | exact trivial | refine ⟨rfl, ?_⟩))) (by first | exact Le.refl _ | assumption) ?_
    refine h_end (by kernel_rfl) ?_
    refine rn_ ?_; intros
    refine x_retc rfl hQ hmb rfl (by rw [hty]; simp only [so, sq, zy, zz, tyE, SO', SQ', opQ, opStore, opAlloc, ev, putS, dOk, cv, SV.cs, SV.one, SV.bool?, eqB, Value.oneCell', ldOwn, binInt, binConst, binBool, binStr, isC, TK.agg, rv, rv1, ldV, resOne, resV, Nat.reduceAdd, Nat.reduceMul, Nat.reduceSub, Nat.reduceLT, Nat.reduceLeDiff, Nat.reduceEqDiff, Nat.reduceBEq, reduceIte, reduceCtorEq, eq_self]; try rfl) rfl ?_; simp only [SV.den, resV, dens]
    rw [e]
    exact ⟨_, _, _, rfl, hs1, rep_leaf _ 1 0 (by simp [isI64]) (by simp [isI64]), by simp [unitV, tsz, tszL], hc1⟩
  have e : slotP s ⟨th, 0, arg, res, fr, to, dn⟩ = (s, noneV, false) := by
    rw [slotP, if_pos ⟨rfl, by simpa using hv⟩]
  refine rn_ ?_; intros
  refine x_held [(0, b0, .c 44 [.v (.slice ad1 s.vals.length cap1), .v (.slice ad2 s.ps.length cap2)]), (5, b5, .c 28 [.v (.int .i64 0), .v (.int .i64 0), .v (.slice none 0 0)])] rfl (by rw [hP]; kernel_rfl) rfl rfl rfl ?_; refine st_ ?_
  refine h_take 0 rfl (by kernel_rfl) (by kernel_rfl) (by kernel_rfl) hQp (by rw [hnt]; rfl) (allIn (by repeat (first | exact trivial | refine ⟨rfl, ?_⟩))) (by first | exact Le.refl _ | assumption) (quiet_op (by rw [hty]; first | rfl | (refine st_ ?_; rfl))) ?_; refine st_ ?_
  refine h_take 1 rfl (by kernel_rfl) (by kernel_rfl) (by kernel_rfl) hQp (by rw [hnt]; rfl) (allIn (by repeat (first | exact trivial | refine ⟨rfl, ?_⟩))) (by first | exact Le.refl _ | assumption) (quiet_op (by rw [hty]; first | rfl | (refine st_ ?_; rfl))) ?_; refine st_ ?_
  refine h_one 2 rfl (by kernel_rfl) ?_
  refine rn_ ?_; intros
  refine h_hs (allIn (by repeat (first | exact trivial | refine ⟨rfl, ?_⟩))) (by first | exact Le.refl _ | assumption) ?_
  refine h_one 3 rfl (by kernel_rfl) ?_
  refine rn_ ?_; intros
  refine h_hs (allIn (by repeat (first | exact trivial | refine ⟨rfl, ?_⟩))) (by first | exact Le.refl _ | assumption) ?_
  refine h_one 4 rfl (by kernel_rfl) ?_
  refine rn_ ?_; intros
  refine h_hs (allIn (by repeat (first | exact trivial | refine ⟨rfl, ?_⟩))) (by first | exact Le.refl _ | assumption) ?_
  refine h_end (by kernel_rfl) ?_
  refine rn_ ?_; intros
  refine x_retc rfl hQ hmb rfl (by rw [hty]; simp only [so, sq, zy, zz, tyE, SO', SQ', opQ, opStore, opAlloc, ev, putS, dOk, cv, SV.cs, SV.one, SV.bool?, eqB, Value.oneCell', ldOwn, binInt, binConst, binBool, binStr, isC, TK.agg, rv, rv1, ldV, resOne, resV, Nat.reduceAdd, Nat.reduceMul, Nat.reduceSub, Nat.reduceLT, Nat.reduceLeDiff, Nat.reduceEqDiff, Nat.reduceBEq, reduceIte, reduceCtorEq, eq_self]; try rfl) rfl ?_; simp only [SV.den, resV, dens]
  rw [e]
  exact ⟨_, _, _, rfl, hs, rep_leaf _ 0 0 (by simp [isI64]) (by simp [isI64]), by simp [noneV, tsz, tszL], hc⟩
end Go.Proofs.Ytpmmbjcgabnloaa
namespace Go.Proofs.Ytpmmbjcgabnloaa
set_option linter.unusedSimpArgs false
set_option linter.unusedVariables false
open Go.Sx
set_option maxHeartbeats 8000000
set_option maxRecDepth 20000
theorem does21_ok (th : Int) (arg res : VT) (fr to : Int) (dn : Bool) (s : MS) (sv sp sa sr : Value) (G : Hp) (hs : s.rep G sv sp) (ho : (⟨th, 1, arg, res, fr, to, dn⟩ : Op).rep G sa sr) (hl : s.vals.length ≤ 100000) (hc : CapOk sv) :
    Pure Try.prog 47 [.int .i64 2, .agg #[sv, sp], .agg (opL ⟨th, 1, arg, res, fr, to, dn⟩ sa sr).toArray] G (rdRet (slotP s ⟨th, 1, arg, res, fr, to, dn⟩)) := by
  have hP0 : slotP s ⟨th, 1, arg, res, fr, to, dn⟩ = boxP s ⟨th, 1, arg, res, fr, to, dn⟩ := by simp [slotP]
  rw [hP0]
  obtain ⟨ada, capa, rfl⟩ := VT.rep_slice ho.a
  obtain ⟨adr, capr, rfl⟩ := VT.rep_slice ho.r
  obtain ⟨ad1, cap1, rfl⟩ := Rp.S_slice hs.v
  obtain ⟨ad2, cap2, rfl⟩ := Rp.S_slice hs.p
  refine enterX ty tyok Try.func47 rfl Try.ntmps47 [.v (.int .i64 2), .a [.v (.slice ad1 s.vals.length cap1), .v (.slice ad2 s.ps.length cap2)], .a (opC ⟨th, 1, arg, res, fr, to, dn⟩ (.slice ada arg.l.length capa) (.slice adr res.l.length capr))] (by simp) ?_
  simp only [opC]
  intro C hP hQ hnt hty hmb hmh hro; have hQp := qp_body hQ; refine st_ ?_
  refine rn_ ?_; intros
  rename_i b0 b1 b2 b3 b4 b5
  (refine x_split rfl rfl rfl (fun hc => absurd hc (by first | decide +kernel | (simp; first | done | fail))) (fun _ => ?_); refine st_ ?_; (refine ru_ ?_; intros))
  refine rn_ ?_; intros
  (refine x_split rfl rfl rfl (fun hc => absurd hc (by first | decide +kernel | (simp; first | done | fail))) (fun _ => ?_); refine st_ ?_; (refine ru_ ?_; intros))
  refine rn_ ?_; intros
  (refine x_split rfl rfl rfl (fun hc => absurd hc (by first | decide +kernel | (simp; first | done | fail))) (fun _ => ?_); refine st_ ?_; (refine ru_ ?_; intros))
  refine rn_ ?_; intros
  (refine x_split rfl rfl rfl (fun _ => ?_) (fun hc => absurd hc (by first | decide +kernel | (simp; first | done | fail))); refine st_ ?_; (refine ru_ ?_; intros))
  refine rn_ ?_; intros
  refine x_split rfl rfl rfl (fun hv => ?_) (fun hv => ?_) <;> (refine st_ ?_; (refine ru_ ?_; intros))
  · obtain ⟨x, r, hx⟩ : ∃ x r, s.vals = x :: r := by
      rcases h : s.vals with _ | ⟨x, r⟩
      · rw [h] at hv; simp at hv
      · exact ⟨x, r, rfl⟩
    have h0 : 0 < s.vals.length := by rw [hx]; simp
    have hx0 : s.vals[0] = x := by simp [hx]
    have hx1 : s.vals.drop 1 = r := by simp [hx]
    have e : boxP s ⟨th, 1, arg, res, fr, to, dn⟩ = (⟨s.vals.drop 1, s.ps⟩, s.vals[0], true) := by rw [hx0, hx1]; simp only [boxP, hx]; rfl
    have hcv := hc _ _ _ rfl
    obtain ⟨c1, o1, slx, rfl, hat, hrep, hb⟩ := rV_at hs.v (i := 0) h0
    obtain ⟨asl, csl, rfl⟩ := VT.rep_slice hrep
    refine rn_ ?_; intros
    refine go_q (by rw [hnt]; rfl) (quiet_index (by rw [hty]; rfl) (by rw [hty]; rfl) rfl rfl rfl (by omega) (by omega)) ?_
    refine rn_ ?_; intros
    refine go_q (v := .agg #[.int .i64 s.vals[0].k, .int .i64 s.vals[0].n, .slice asl s.vals[0].l.length csl]) (by rw [hnt]; rfl) ((quiet_load (by rw [hty]; rfl) rfl (fun q => by cases q) hat rfl).cast (by simp only [ldV]; rfl)) ?_
    refine rn_ ?_; intros
    rename_i b6 b7
    obtain ⟨cs, hcs, hsrc⟩ := Rp.srcS (Rp.S_lo hs.v (a := 1) (by omega) hcv)
    have hcl := Rp.L_len hcs
    have hco := Rp.L_one hcs
    have hr3 : rV.size = 3 := rfl
    simp only [List.length_drop, hr3] at hcl hsrc
    refine go_litrow 7 (n := 0) (size := 3) rfl (by omega) rfl (by omega) ?_
    refine st_ ?_
    refine go_q (v := Sx.sliced (some ⟨c1, o1, none⟩) cap1 1 s.vals.length 3) (by rw [hnt]; rfl) ((quiet_sliceLo (k := .i64) (n := 1) (by rw [hty]; rfl) (by rw [hty]; rfl) rfl rfl rfl (by omega) (by omega)).cast rfl) ?_
    refine st_ ?_
    obtain ⟨a8, c8, e8⟩ := sliced_len (some ⟨c1, o1, none⟩) cap1 1 s.vals.length 3
    rw [e8] at hsrc ⊢
    refine st_ ?_
    refine go_append_any 7 (by rw [hnt]; rfl) (by rw [hty]; rfl) (by rw [hty]; rfl) (by decide) rfl rfl rfl (by omega) rfl (hsrc.imp id fun f => f _ _ rfl) hcl hco (by omega) (by simp only []; omega) ?_
    intro v1
    refine go_rowC 7 rfl ?_
    rintro a9 c9 rfl hc9
    refine rn_ ?_; intros
    refine go_pubL rV 7 rfl (by omega) (ts := s.vals.drop 1) (by simp) (by omega) (by simpa using hcs) ?_
    intro G6 ad6 cap6 (hle6 : Le G G6) he6 hS6
    rw [← he6] at hS6
    refine st_ ?_
    refine go_keep [4, 6, 7, 8, 12] [0, 2, 3, 6] ?_
    refine st_ ?_
    refine x_held [(0, b0, .c 44 [.v (.slice a9 (0 + (s.vals.length - 1)) c9), .v (.slice ad2 s.ps.length cap2)]), (6, b6, .c 28 [.v (.int .i64 s.vals[0].k), .v (.int .i64 s.vals[0].n), .v (.slice asl s.vals[0].l.length csl)])] rfl (by rw [hP]; kernel_rfl) rfl rfl rfl ?_; refine st_ ?_
    refine h_take 0 rfl (by kernel_rfl) (by kernel_rfl) (by kernel_rfl) hQp (by rw [hnt]; rfl) (allIn (by repeat (first | exact trivial | refine ⟨rfl, ?_⟩))) (by first | exact Le.refl _ | assumption) (quiet_op (by rw [hty]; first | rfl | (refine st_ ?_; rfl))) ?_; refine st_ ?_
    refine h_take 1 rfl (by kernel_rfl) (by kernel_rfl) (by kernel_rfl) hQp (by rw [hnt]; rfl) (allIn (by repeat (first | exact trivial | refine ⟨rfl, ?_⟩))) (by first | exact Le.refl _ | assumption) (quiet_op (by rw [hty]; first | rfl | (refine st_ ?_; rfl))) ?_; refine st_ ?_
    refine h_one 2 rfl (by kernel_rfl) ?_
    refine rn_ ?_; intros
    refine h_hs (allIn (by repeat (first | exact trivial | refine ⟨rfl, ?_⟩))) (by first | exact Le.refl _ | assumption) ?_
    refine h_one 3 rfl (by kernel_rfl) ?_
    refine rn_ ?_; intros
    refine h_hs (allIn (by repeat (first | exact trivial | refine ⟨rfl, ?_⟩))) (by first | exact Le.refl _ | assumption) ?_
    refine h_one 4 rfl (by kernel_rfl) ?_
    refine rn_ ?_; intros
    refine h_hs (allIn (by repeat (first | exact trivial | refine ⟨rfl, ?_⟩))) (by first | exact Le.refl _ | assumption) ?_
    refine h_end (by kernel_rfl) ?_
    refine rn_ ?_; intros
    refine x_retc rfl hQ hmb rfl (by rw [hty]; simp only [so, sq, zy, zz, tyE, SO', SQ', opQ, opStore, opAlloc, ev, putS, dOk, cv, SV.cs, SV.one, SV.bool?, eqB, Value.oneCell', ldOwn, binInt, binConst, binBool, binStr, isC, TK.agg, rv, rv1, ldV, resOne, resV, Nat.reduceAdd, Nat.reduceMul, Nat.reduceSub, Nat.reduceLT, Nat.reduceLeDiff, Nat.reduceEqDiff, Nat.reduceBEq, reduceIte, reduceCtorEq, eq_self]; try rfl) rfl ?_; simp only [SV.den, resV, dens]
    rw [e]
    exact ⟨_, _, _, rfl, ⟨hS6, Rp.S_mono hle6 hs.p⟩, VT.rep_mono hle6 hrep, hb, fun ad n c h => by cases h; omega⟩
  have e : boxP s ⟨th, 1, arg, res, fr, to, dn⟩ = (s, noneV, false) := by
    have hv' : s.vals = [] := by simpa using hv
    simp only [boxP, hv']; rfl
  refine rn_ ?_; intros
  refine x_held [(0, b0, .c 44 [.v (.slice ad1 s.vals.length cap1), .v (.slice ad2 s.ps.length cap2)]), (5, b5, .c 28 [.v (.int .i64 0), .v (.int .i64 0), .v (.slice none 0 0)])] rfl (by rw [hP]; kernel_rfl) rfl rfl rfl ?_; refine st_ ?_
  refine h_take 0 rfl (by kernel_rfl) (by kernel_rfl) (by kernel_rfl) hQp (by rw [hnt]; rfl) (allIn (by repeat (first | exact trivial | refine ⟨rfl, ?_⟩))) (by first | exact Le.refl _ | assumption) (quiet_op (by rw [hty]; first | rfl | (refine st_ ?_; rfl))) ?_; refine st_ ?_
  refine h_take 1 rfl (by kernel_rfl) (by kernel_rfl) (by kernel_rfl) hQp (by rw [hnt]; rfl) (allIn (by repeat (first | exact trivial | refine ⟨rfl, ?_⟩))) (by first | exact Le.refl _ | assumption) (quiet_op (by rw [hty]; first | rfl | (refine st_ ?_; rfl))) ?_; refine st_ ?_
  refine h_one 2 rfl (by kernel_rfl) ?_
  refine rn_ ?_; intros
  refine h_hs (allIn (by repeat (first | exact trivial | refine ⟨rfl, ?_⟩))) (by first | exact Le.refl _ | assumption) ?_
  refine h_one 3 rfl (by kernel_rfl) ?_
  refine rn_ ?_; intros
  refine h_hs (allIn (by repeat (first | exact trivial | refine ⟨rfl, ?_⟩))) (by first | exact Le.refl _ | assumption) ?_
  refine h_one 4 rfl (by kernel_rfl) ?_
  refine rn_ ?_; intros
  refine h_hs (allIn (by repeat (first | exact trivial | refine ⟨rfl, ?_⟩))) (by first | exact Le.refl _ | assumption) ?_
  refine h_end (by kernel_rfl) ?_
  refine rn_ ?_; intros
  refine x_retc rfl hQ hmb rfl (by rw [hty]; simp only [so, sq, zy, zz, tyE, SO', SQ', opQ, opStore, opAlloc, ev, putS, dOk, cv, SV.cs, SV.one, SV.bool?, eqB, Value.oneCell', ldOwn, binInt, binConst, binBool, binStr, isC, TK.agg, rv, rv1, ldV, resOne, resV, Nat.reduceAdd, Nat.reduceMul, Nat.reduceSub, Nat.reduceLT, Nat.reduceLeDiff, Nat.reduceEqDiff, Nat.reduceBEq, reduceIte, reduceCtorEq, eq_self]; try rfl) rfl ?_; simp only [SV.den, resV, dens]
  rw [e]
  exact ⟨_, _, _, rfl, hs, rep_leaf _ 0 0 (by simp [isI64]) (by simp [isI64]), by simp [noneV, tsz, tszL], hc⟩
theorem does31_ok (th : Int) (arg res : VT) (fr to : Int) (dn : Bool) (s : MS) (sv sp sa sr : Value) (G : Hp) (hs : s.rep G sv sp) (ho : (⟨th, 1, arg, res, fr, to, dn⟩ : Op).rep G sa sr) (hl : s.vals.length ≤ 100000) (hc : CapOk sv) :
    Pure Try.prog 47 [.int .i64 3, .agg #[sv, sp], .agg (opL ⟨th, 1, arg, res, fr, to, dn⟩ sa sr).toArray] G (rdRet (boxP s ⟨th, 1, arg, res, fr, to, dn⟩)) := by
  have hP0 : boxP s ⟨th, 1, arg, res, fr, to, dn⟩ = boxP s ⟨th, 1, arg, res, fr, to, dn⟩ := by rfl
  rw [hP0]
  obtain ⟨ada, capa, rfl⟩ := VT.rep_slice ho.a
  obtain ⟨adr, capr, rfl⟩ := VT.rep_slice ho.r
  obtain ⟨ad1, cap1, rfl⟩ := Rp.S_slice hs.v
  obtain ⟨ad2, cap2, rfl⟩ := Rp.S_slice hs.p
  refine enterX ty tyok Try.func47 rfl Try.ntmps47 [.v (.int .i64 3), .a [.v (.slice ad1 s.vals.length cap1), .v (.slice ad2 s.ps.length cap2)], .a (opC ⟨th, 1, arg, res, fr, to, dn⟩ (.slice ada arg.l.length capa) (.slice adr res.l.length capr))] (by simp) ?_
  simp only [opC]
  intro C hP hQ hnt hty hmb hmh hro; have hQp := qp_body hQ; refine st_ ?_
  refine rn_ ?_; intros
  rename_i b0 b1 b2 b3 b4 b5
  (refine x_split rfl rfl rfl (fun hc => absurd hc (by first | decide +kernel | (simp; first | done | fail))) (fun _ => ?_); refine st_ ?_; (refine ru_ ?_; intros))
  refine rn_ ?_; intros
  (refine x_split rfl rfl rfl (fun hc => absurd hc (by first | decide +kernel | (simp; first | done | fail))) (fun _ => ?_); refine st_ ?_; (refine ru_ ?_; intros))
  refine rn_ ?_; intros
  (refine x_split rfl rfl rfl (fun hc => absurd hc (by first | decide +kernel | (simp; first | done | fail))) (fun _ => ?_); refine st_ ?_; (refine ru_ ?_; intros))
  refine rn_ ?_; intros
  (refine x_split rfl rfl rfl (fun hc => absurd hc (by first | decide +kernel | (simp; first | done | fail))) (fun _ => ?_); refine st_ ?_; (refine ru_ ?_; intros))
  refine rn_ ?_; intros
  (refine x_split rfl rfl rfl (fun _ => ?_) (fun hc => absurd hc (by first | decide +kernel | (simp; first | done | fail))); refine st_ ?_; (refine ru_ ?_; intros))
  refine rn_ ?_; intros
  refine x_split rfl rfl rfl (fun hv => ?_) (fun hv => ?_) <;> (refine st_ ?_; (refine ru_ ?_; intros))
  · obtain ⟨x, r, hx⟩ : ∃ x r, s.vals = x :: r := by
      rcases h : s.vals with _ | ⟨x, r⟩
      · rw [h] at hv; simp at hv
      · exact ⟨x, r, rfl⟩
    have h0 : 0 < s.vals.length := by rw [hx]; simp
    have hx0 : s.vals[0] = x := by simp [hx]
    have hx1 : s.vals.drop 1 = r := by simp [hx]
    have e : boxP s ⟨th, 1, arg, res, fr, to, dn⟩ = (⟨s.vals.drop 1, s.ps⟩, s.vals[0], true) := by rw [hx0, hx1]; simp only [boxP, hx]; rfl
    have hcv := hc _ _ _ rfl
    obtain ⟨c1, o1, slx, rfl, hat, hrep, hb⟩ := rV_at hs.v (i := 0) h0
    obtain ⟨asl, csl, rfl⟩ := VT.rep_slice hrep
    refine rn_ ?_; intros
    refine go_q (by rw [hnt]; rfl) (quiet_index (by rw [hty]; rfl) (by rw [hty]; rfl) rfl rfl rfl (by omega) (by omega)) ?_
    refine rn_ ?_; intros
    refine go_q (v := .agg #[.int .i64 s.vals[0].k, .int .i64 s.vals[0].n, .slice asl s.vals[0].l.length csl]) (by rw [hnt]; rfl) ((quiet_load (by rw [hty]; rfl) rfl (fun q => by cases q) hat rfl).cast (by simp only [ldV]; rfl)) ?_
    refine rn_ ?_; intros
    rename_i b6 b7
    obtain ⟨cs, hcs, hsrc⟩ := Rp.srcS (Rp.S_lo hs.v (a := 1) (by omega) hcv)
    have hcl := Rp.L_len hcs
    have hco := Rp.L_one hcs
    have hr3 : rV.size = 3 := rfl
    simp only [List.length_drop, hr3] at hcl hsrc
    refine go_litrow 7 (n := 0) (size := 3) rfl (by omega) rfl (by omega) ?_
    refine st_ ?_
    refine go_q (v := Sx.sliced (some ⟨c1, o1, none⟩) cap1 1 s.vals.length 3) (by rw [hnt]; rfl) ((quiet_sliceLo (k := .i64) (n := 1) (by rw [hty]; rfl) (by rw [hty]; rfl) rfl rfl rfl (by omega) (by omega)).cast rfl) ?_
    refine st_ ?_
    obtain ⟨a8, c8, e8⟩ := sliced_len (some ⟨c1, o1, none⟩) cap1 1 s.vals.length 3
    rw [e8] at hsrc ⊢
    refine st_ ?_
    refine go_append_any 7 (by rw [hnt]; rfl) (by rw [hty]; rfl) (by rw [hty]; rfl) (by decide) rfl rfl rfl (by omega) rfl (hsrc.imp id fun f => f _ _ rfl) hcl hco (by omega) (by simp only []; omega) ?_
    intro v1
    refine go_rowC 7 rfl ?_
    rintro a9 c9 rfl hc9
    refine rn_ ?_; intros
    refine go_pubL rV 7 rfl (by omega) (ts := s.vals.drop 1) (by simp) (by omega) (by simpa using hcs) ?_
    intro G6 ad6 cap6 (hle6 : Le G G6) he6 hS6
    rw [← he6] at hS6
    refine st_ ?_
    refine go_keep [4, 6, 7, 8, 12] [0, 2, 3, 6] ?_
    refine st_ ?_
    refine x_held [(0, b0, .c 44 [.v (.slice a9 (0 + (s.vals.length - 1)) c9), .v (.slice ad2 s.ps.length cap2)]), (6, b6, .c 28 [.v (.int .i64 s.vals[0].k), .v (.int .i64 s.vals[0].n), .v (.slice asl s.vals[0].l.length csl)])] rfl (by rw [hP]; kernel_rfl) rfl rfl rfl ?_; refine st_ ?_
    refine h_take 0 rfl (by kernel_rfl) (by kernel_rfl) (by kernel_rfl) hQp (by rw [hnt]; rfl) (allIn (by repeat (first | exact trivial | refine ⟨rfl, ?_⟩))) (by first | exact Le.refl _ | assumption) (quiet_op (by rw [hty]; first | rfl | (refine st_ ?_; rfl))) ?_; refine st_ ?_
    refine h_take 1 rfl (by kernel_rfl) (by kernel_rfl) (by kernel_rfl) hQp (by rw [hnt]; rfl) (allIn (by repeat (first | exact trivial | refine ⟨rfl, ?_⟩))) (by first | exact Le.refl _ | assumption) (quiet_op (by rw [hty]; first | rfl | (refine st_ ?_; rfl))) ?_; refine st_ ?_
    refine h_one 2 rfl (by kernel_rfl) ?_
    refine rn_ ?_; intros
    refine h_hs (allIn (by repeat (first | exact trivial | refine ⟨rfl, ?_⟩))) (by first | exact Le.refl _ | assumption) ?_
    refine h_one 3 rfl (by kernel_rfl) ?_
    refine rn_ ?_; intros
    refine h_hs (allIn (by repeat (first | exact trivial | refine ⟨rfl, ?_⟩))) (by first | exact Le.refl _ | assumption) ?_
    refine h_one 4 rfl (by kernel_rfl) ?_
    refine rn_ ?_; intros
    refine h_hs (allIn (by repeat (first | exact trivial | refine ⟨rfl, ?_⟩))) (by first | exact Le.refl _ | assumption) ?_
    refine h_end (by kernel_rfl) ?_
    refine rn_ ?_; intros
    refine x_retc rfl hQ hmb rfl (by rw [hty]; simp only [so, sq, zy, zz, tyE, SO', SQ', opQ, opStore, opAlloc, ev, putS, dOk, cv, SV.cs, SV.one, SV.bool?, eqB, Value.oneCell', ldOwn, binInt, binConst, binBool, binStr, isC, TK.agg, rv, rv1, ldV, resOne, resV, Nat.reduceAdd, Nat.reduceMul, Nat.reduceSub, Nat.reduceLT, Nat.reduceLeDiff, Nat.reduceEqDiff, Nat.reduceBEq, reduceIte, reduceCtorEq, eq_self]; try rfl) rfl ?_; simp only [SV.den, resV, dens]
    rw [e]
    exact ⟨_, _, _, rfl, ⟨hS6, Rp.S_mono hle6 hs.p⟩, VT.rep_mono hle6 hrep, hb, fun ad n c h => by cases h; omega⟩
  have e : boxP s ⟨th, 1, arg, res, fr, to, dn⟩ = (s, noneV, false) := by
    have hv' : s.vals = [] := by simpa using hv
    simp only [boxP, hv']; rfl
  refine rn_ ?_; intros
  refine x_held [(0, b0, .c 44 [.v (.slice ad1 s.vals.length cap1), .v (.slice ad2 s.ps.length cap2)]), (5, b5, .c 28 [.v (.int .i64 0), .v (.int .i64 0), .v (.slice none 0 0)])] rfl (by rw [hP]; kernel_rfl) rfl rfl rfl ?_; refine st_ ?_
  refine h_take 0 rfl (by kernel_rfl) (by kernel_rfl) (by kernel_rfl) hQp (by rw [hnt]; rfl) (allIn (by repeat (first | exact trivial | refine ⟨rfl, ?_⟩))) (by first | exact Le.refl _ | assumption) (quiet_op (by rw [hty]; first | rfl | (refine st_ ?_; rfl))) ?_; refine st_ ?_
  refine h_take 1 rfl (by kernel_rfl) (by kernel_rfl) (by kernel_rfl) hQp (by rw [hnt]; rfl) (allIn (by repeat (first | exact trivial | refine ⟨rfl, ?_⟩))) (by first | exact Le.refl _ | assumption) (quiet_op (by rw [hty]; first | rfl | (refine st_ ?_; rfl))) ?_; refine st_ ?_
  refine h_one 2 rfl (by kernel_rfl) ?_
  refine rn_ ?_; intros
  refine h_hs (allIn (by repeat (first | exact trivial | refine ⟨rfl, ?_⟩))) (by first | exact Le.refl _ | assumption) ?_
  refine h_one 3 rfl (by kernel_rfl) ?_
  refine rn_ ?_; intros
  refine h_hs (allIn (by repeat (first | exact trivial | refine ⟨rfl, ?_⟩))) (by first | exact Le.refl _ | assumption) ?_
  refine h_one 4 rfl (by kernel_rfl) ?_
  refine rn_ ?_; intros
  refine h_hs (allIn (by repeat (first | exact trivial | refine ⟨rfl, ?_⟩))) (by first | exact Le.refl _ | assumption) ?_
  refine h_end (by kernel_rfl) ?_
  refine rn_ ?_; intros
  refine x_retc rfl hQ hmb rfl (by rw [hty]; simp only [so, sq, zy, zz, tyE, SO', SQ', opQ, opStore, opAlloc, ev, putS, dOk, cv, SV.cs, SV.one, SV.bool?, eqB, Value.oneCell', ldOwn, binInt, binConst, binBool, binStr, isC, TK.agg, rv, rv1, ldV, resOne, resV, Nat.reduceAdd, Nat.reduceMul, Nat.reduceSub, Nat.reduceLT, Nat.reduceLeDiff, Nat.reduceEqDiff, Nat.reduceBEq, reduceIte, reduceCtorEq, eq_self]; try rfl) rfl ?_; simp only [SV.den, resV, dens]
  rw [e]
  exact ⟨_, _, _, rfl, hs, rep_leaf _ 0 0 (by simp [isI64]) (by simp [isI64]), by simp [noneV, tsz, tszL], hc⟩
end Go.Proofs.Ytpmmbjcgabnloaa
namespace Go.Proofs.Ytpmmbjcgabnloaa
set_option linter.unusedSimpArgs false
set_option linter.unusedVariables false
open Go.Sx
set_option maxHeartbeats 8000000
set_option maxRecDepth 20000
theorem does30_ok (th : Int) (arg res : VT) (fr to : Int) (dn : Bool) (s : MS) (sv sp sa sr : Value) (G : Hp) (hs : s.rep G sv sp) (ho : (⟨th, 0, arg, res, fr, to, dn⟩ : Op).rep G sa sr) (hl : s.vals.length ≤ 100000) (hc : CapOk sv) :
    Pure Try.prog 47 [.int .i64 3, .agg #[sv, sp], .agg (opL ⟨th, 0, arg, res, fr, to, dn⟩ sa sr).toArray] G (rdRet (boxP s ⟨th, 0, arg, res, fr, to, dn⟩)) := by
  have e : boxP s ⟨th, 0, arg, res, fr, to, dn⟩ = (⟨s.vals ++ [arg], s.ps⟩, unitV, true) := rfl
  obtain ⟨ada, capa, rfl⟩ := VT.rep_slice ho.a
  obtain ⟨adr, capr, rfl⟩ := VT.rep_slice ho.r
  obtain ⟨ad1, cap1, rfl⟩ := Rp.S_slice hs.v
  obtain ⟨ad2, cap2, rfl⟩ := Rp.S_slice hs.p
  refine enterX ty tyok Try.func47 rfl Try.ntmps47 [.v (.int .i64 3), .a [.v (.slice ad1 s.vals.length cap1), .v (.slice ad2 s.ps.length cap2)], .a (opC ⟨th, 0, arg, res, fr, to, dn⟩ (.slice ada arg.l.length capa) (.slice adr res.l.length capr))] (by simp) ?_
  simp only [opC]
  intro C hP hQ hnt hty hmb hmh hro; have hQp := qp_body hQ; refine st_ ?_
  refine rn_ ?_; intros
  rename_i b0 b1 b2 b3 b4 b5
  (refine x_split rfl rfl rfl (fun hc => absurd hc (by first | decide +kernel | (simp; first | done | fail))) (fun _ => ?_); refine st_ ?_; (refine ru_ ?_; intros))
  refine rn_ ?_; intros
  (refine x_split rfl rfl rfl (fun hc => absurd hc (by first | decide +kernel | (simp; first | done | fail))) (fun _ => ?_); refine st_ ?_; (refine ru_ ?_; intros))
  refine rn_ ?_; intros
  (refine x_split rfl rfl rfl (fun hc => absurd hc (by first | decide +kernel | (simp; first | done | fail))) (fun _ => ?_); refine st_ ?_; (refine ru_ ?_; intros))
  refine rn_ ?_; intros
  (refine x_split rfl rfl rfl (fun hc => absurd hc (by first | decide +kernel | (simp; first | done | fail))) (fun _ => ?_); refine st_ ?_; (refine ru_ ?_; intros))
  refine rn_ ?_; intros
  (refine x_split rfl rfl rfl (fun hc => absurd hc (by first | decide +kernel | (simp; first | done | fail))) (fun _ => ?_); refine st_ ?_; (refine ru_ ?_; intros))
  refine rn_ ?_; intros
  (refine x_split rfl rfl rfl (fun _ => ?_) (fun hc => absurd hc (by first | decide +kernel | (simp; first | done | fail))); refine st_ ?_; (refine ru_ ?_; intros))
  refine rn_ ?_; intros
  refine x_held [(0, b0, .c 44 [.v (.slice ad1 s.vals.length cap1), .v (.slice ad2 s.ps.length cap2)]), (1, b1, .c 40 [.v (.int .i64 th), .v (.int .i64 0), .v (.int .i64 arg.k), .v (.int .i64 arg.n), .v (.slice ada arg.l.length capa), .v (.int .i64 res.k), .v (.int .i64 res.n), .v (.slice adr res.l.length capr), .v (.int .i64 fr), .v (.int .i64 to), .v (.bool dn)]), (4, b4, .c 28 [.v (.int .i64 1), .v (.int .i64 0), .v (.slice none 0 0)])] rfl (by rw [hP]; kernel_rfl) rfl rfl rfl ?_; refine st_ ?_
  refine h_take 0 rfl (by kernel_rfl) (by kernel_rfl) (by kernel_rfl) hQp (by rw [hnt]; rfl) (allIn (by repeat (first | exact trivial | refine ⟨rfl, ?_⟩))) (by first | exact Le.refl _ | assumption) (quiet_op (by rw [hty]; first | rfl | (refine st_ ?_; rfl))) ?_; refine st_ ?_
  refine h_take 1 rfl (by kernel_rfl) (by kernel_rfl) (by kernel_rfl) hQp (by rw [hnt]; rfl) (allIn (by repeat (first | exact trivial | refine ⟨rfl, ?_⟩))) (by first | exact Le.refl _ | assumption) (quiet_op (by rw [hty]; first | rfl | (refine st_ ?_; rfl))) ?_; refine st_ ?_
  refine h_take 2 rfl (by kernel_rfl) (by kernel_rfl) (by kernel_rfl) hQp (by rw [hnt]; rfl) (allIn (by repeat (first | exact trivial | refine ⟨rfl, ?_⟩))) (by first | exact Le.refl _ | assumption) (quiet_op (by rw [hty]; first | rfl | (refine st_ ?_; rfl))) ?_; refine st_ ?_
  refine h_take 4 rfl (by kernel_rfl) (by kernel_rfl) (by kernel_rfl) hQp (by rw [hnt]; rfl) (allIn (by repeat (first | exact trivial | refine ⟨rfl, ?_⟩))) (by first | exact Le.refl _ | assumption) (quiet_op (by rw [hty]; first | rfl | (refine st_ ?_; rfl))) ?_; refine st_ ?_
  refine h_one 3 rfl (by kernel_rfl) ?_
  refine go_call (by rw [hnt]; rfl) (by rw [hP]; kernel_rfl) rfl (hP ▸ put_ok s arg _ _ _ _ hs ho.a ho.ok.ba hl) ?_
  rintro v G1 (hle1 : Le G G1) ⟨sv', rfl, hs1, hc1⟩
  obtain ⟨ad7, cap7, e7⟩ := Rp.S_slice hs1.v
  simp only at e7
  subst e7
  refine rn_ ?_; intros
  refine h_hs (allIn (by repeat (first | exact trivial | refine ⟨rfl, ?_⟩))) (by first | exact Le.refl _ | assumption) ?_
  refine h_one 5 rfl (by kernel_rfl) ?_
  refine rn_ ?_; intros
  refine h_hs (allIn (by repeat (first | exact trivial | refine ⟨rfl, ?_⟩))) (by first | exact Le.refl _ | assumption) ?_
  refine h_one 6 rfl (by kernel_rfl) ?_
  refine rn_ ?_; intros
  refine h_hs (allIn (by repeat (first | exact trivial | refine ⟨rfl, ?_⟩))) (by first | exact Le.refl _ | assumption) ?_
  refine h_one 7 rfl (by kernel_rfl) ?_
  refine rn_ ?_; intros
  refine h_hs (allIn (by repeat (first | exact trivial | refine ⟨rfl, ?_⟩))) (by first | exact Le.refl _ | assumption) ?_
  refine h_end (by kernel_rfl) ?_
  refine rn_ ?_; intros
  refine x_retc rfl hQ hmb rfl (by rw [hty]; simp only [so, sq, zy, zz, tyE, SO', SQ', opQ, opStore, opAlloc, ev, putS, dOk, cv, SV.cs, SV.one, SV.bool?, eqB, Value.oneCell', ldOwn, binInt, binConst, binBool, binStr, isC, TK.agg, rv, rv1, ldV, resOne, resV, Nat.reduceAdd, Nat.reduceMul, Nat.reduceSub, Nat.reduceLT, Nat.reduceLeDiff, Nat.reduceEqDiff, Nat.reduceBEq, reduceIte, reduceCtorEq, eq_self]; try rfl) rfl ?_; simp only [SV.den, resV, dens]
  rw [e]
  exact ⟨_, _, _, rfl, hs1, rep_leaf _ 1 0 (by simp [isI64]) (by simp [isI64]), by simp [unitV, tsz, tszL], hc1⟩
theorem does41_ok (th : Int) (arg res : VT) (fr to : Int) (dn : Bool) (s : MS) (sv sp sa sr : Value) (G : Hp) (hs : s.rep G sv sp) (ho : (⟨th, 1, arg, res, fr, to, dn⟩ : Op).rep G sa sr) (hl : s.vals.length ≤ 100000) (hc : CapOk sv) :
    Pure Try.prog 47 [.int .i64 4, .agg #[sv, sp], .agg (opL ⟨th, 1, arg, res, fr, to, dn⟩ sa sr).toArray] G (rdRet (castP s ⟨th, 1, arg, res, fr, to, dn⟩)) := by
  have e : castP s ⟨th, 1, arg, res, fr, to, dn⟩ = (⟨s.vals ++ [arg], s.ps⟩, unitV, true) := rfl
  obtain ⟨ada, capa, rfl⟩ := VT.rep_slice ho.a
  obtain ⟨adr, capr, rfl⟩ := VT.rep_slice ho.r
  obtain ⟨ad1, cap1, rfl⟩ := Rp.S_slice hs.v
  obtain ⟨ad2, cap2, rfl⟩ := Rp.S_slice hs.p
  refine enterX ty tyok Try.func47 rfl Try.ntmps47 [.v (.int .i64 4), .a [.v (.slice ad1 s.vals.length cap1), .v (.slice ad2 s.ps.length cap2)], .a (opC ⟨th, 1, arg, res, fr, to, dn⟩ (.slice ada arg.l.length capa) (.slice adr res.l.length capr))] (by simp) ?_
  simp only [opC]
  intro C hP hQ hnt hty hmb hmh hro; have hQp := qp_body hQ; refine st_ ?_
  refine rn_ ?_; intros
  rename_i b0 b1 b2 b3 b4 b5
  (refine x_split rfl rfl rfl (fun hc => absurd hc (by first | decide +kernel | (simp; first | done | fail))) (fun _ => ?_); refine st_ ?_; (refine ru_ ?_; intros))
  refine rn_ ?_; intros
  (refine x_split rfl rfl rfl (fun hc => absurd hc (by first | decide +kernel | (simp; first | done | fail))) (fun _ => ?_); refine st_ ?_; (refine ru_ ?_; intros))
  refine rn_ ?_; intros
  (refine x_split rfl rfl rfl (fun hc => absurd hc (by first | decide +kernel | (simp; first | done | fail))) (fun _ => ?_); refine st_ ?_; (refine ru_ ?_; intros))
  refine rn_ ?_; intros
  (refine x_split rfl rfl rfl (fun hc => absurd hc (by first | decide +kernel | (simp; first | done | fail))) (fun _ => ?_); refine st_ ?_; (refine ru_ ?_; intros))
  refine rn_ ?_; intros
  (refine x_split rfl rfl rfl (fun hc => absurd hc (by first | decide +kernel | (simp; first | done | fail))) (fun _ => ?_); refine st_ ?_; (refine ru_ ?_; intros))
  refine rn_ ?_; intros
  (refine x_split rfl rfl rfl (fun hc => absurd hc (by first | decide +kernel | (simp; first | done | fail))) (fun _ => ?_); refine st_ ?_; (refine ru_ ?_; intros))
  refine rn_ ?_; intros
  (refine x_split rfl rfl rfl (fun _ => ?_) (fun hc => absurd hc (by first | decide +kernel | (simp; first | done | fail))); refine st_ ?_; (refine ru_ ?_; intros))
  refine rn_ ?_; intros
  refine x_held [(0, b0, .c 44 [.v (.slice ad1 s.vals.length cap1), .v (.slice ad2 s.ps.length cap2)]), (1, b1, .c 40 [.v (.int .i64 th), .v (.int .i64 1), .v (.int .i64 arg.k), .v (.int .i64 arg.n), .v (.slice ada arg.l.length capa), .v (.int .i64 res.k), .v (.int .i64 res.n), .v (.slice adr res.l.length capr), .v (.int .i64 fr), .v (.int .i64 to), .v (.bool dn)]), (4, b4, .c 28 [.v (.int .i64 1), .v (.int .i64 0), .v (.slice none 0 0)])] rfl (by rw [hP]; kernel_rfl) rfl rfl rfl ?_; refine st_ ?_
  refine h_take 0 rfl (by kernel_rfl) (by kernel_rfl) (by kernel_rfl) hQp (by rw [hnt]; rfl) (allIn (by repeat (first | exact trivial | refine ⟨rfl, ?_⟩))) (by first | exact Le.refl _ | assumption) (quiet_op (by rw [hty]; first | rfl | (refine st_ ?_; rfl))) ?_; refine st_ ?_
  refine h_take 1 rfl (by kernel_rfl) (by kernel_rfl) (by kernel_rfl) hQp (by rw [hnt]; rfl) (allIn (by repeat (first | exact trivial | refine ⟨rfl, ?_⟩))) (by first | exact Le.refl _ | assumption) (quiet_op (by rw [hty]; first | rfl | (refine st_ ?_; rfl))) ?_; refine st_ ?_
  refine h_take 2 rfl (by kernel_rfl) (by kernel_rfl) (by kernel_rfl) hQp (by rw [hnt]; rfl) (allIn (by repeat (first | exact trivial | refine ⟨rfl, ?_⟩))) (by first | exact Le.refl _ | assumption) (quiet_op (by rw [hty]; first | rfl | (refine st_ ?_; rfl))) ?_; refine st_ ?_
  refine h_take 4 rfl (by kernel_rfl) (by kernel_rfl) (by kernel_rfl) hQp (by rw [hnt]; rfl) (allIn (by repeat (first | exact trivial | refine ⟨rfl, ?_⟩))) (by first | exact Le.refl _ | assumption) (quiet_op (by rw [hty]; first | rfl | (refine st_ ?_; rfl))) ?_; refine st_ ?_
  refine h_one 3 rfl (by kernel_rfl) ?_
  refine go_call (by rw [hnt]; rfl) (by rw [hP]; kernel_rfl) rfl (hP ▸ put_ok s arg _ _ _ _ hs ho.a ho.ok.ba hl) ?_
  rintro v G1 (hle1 : Le G G1) ⟨sv', rfl, hs1, hc1⟩
  obtain ⟨ad7, cap7, e7⟩ := Rp.S_slice hs1.v
  simp only at e7
  subst e7
  refine rn_ ?_; intros
  refine h_hs (allIn (by repeat (first | exact trivial | refine ⟨rfl, ?_⟩))) (by first | exact Le.refl _ | assumption) ?_
  refine h_one 5 rfl (by kernel_rfl) ?_
  refine rn_ ?_; intros
  refine h_hs (allIn (by repeat (first | exact trivial | refine ⟨rfl, ?_⟩))) (by first | exact Le.refl _ | assumption) ?_
  refine h_one 6 rfl (by kernel_rfl) ?_
  refine rn_ ?_; intros
  refine h_hs (allIn (by repeat (first | exact trivial | refine ⟨rfl, ?_⟩))) (by first | exact Le.refl _ | assumption) ?_
  refine h_one 7 rfl (by kernel_rfl) ?_
  refine rn_ ?_; intros
  refine h_hs (allIn (by repeat (first | exact trivial | refine ⟨rfl, ?_⟩))) (by first | exact Le.refl _ | assumption) ?_
  refine h_end (by kernel_rfl) ?_
  refine rn_ ?_; intros
  refine x_retc rfl hQ hmb rfl (by rw [hty]; simp only [so, sq, zy, zz, tyE, SO', SQ', opQ, opStore, opAlloc, ev, putS, dOk, cv, SV.cs, SV.one, SV.bool?, eqB, Value.oneCell', ldOwn, binInt, binConst, binBool, binStr, isC, TK.agg, rv, rv1, ldV, resOne, resV, Nat.reduceAdd, Nat.reduceMul, Nat.reduceSub, Nat.reduceLT, Nat.reduceLeDiff, Nat.reduceEqDiff, Nat.reduceBEq, reduceIte, reduceCtorEq, eq_self]; try rfl) rfl ?_; simp only [SV.den, resV, dens]
  rw [e]
  exact ⟨_, _, _, rfl, hs1, rep_leaf _ 1 0 (by simp [isI64]) (by simp [isI64]), by simp [unitV, tsz, tszL], hc1⟩
end Go.Proofs.Ytpmmbjcgabnloaa
namespace Go.Proofs.Ytpmmbjcgabnloaa
set_option linter.unusedSimpArgs false
set_option linter.unusedVariables false
open Go.Sx
set_option maxHeartbeats 8000000
set_option maxRecDepth 20000
theorem does40_ok (th : Int) (arg res : VT) (fr to : Int) (dn : Bool) (s : MS) (sv sp sa sr : Value) (G : Hp) (hs : s.rep G sv sp) (ho : (⟨th, 0, arg, res, fr, to, dn⟩ : Op).rep G sa sr) (hl : s.vals.length ≤ 100000) (hlp : s.ps.length ≤ 100000) (hc : CapOk sv) (hr : if dn then vld res = true else zer res = true) :
    Pure Try.prog 47 [.int .i64 4, .agg #[sv, sp], .agg (opL ⟨th, 0, arg, res, fr, to, dn⟩ sa sr).toArray] G (rdRet (castP s ⟨th, 0, arg, res, fr, to, dn⟩)) := by
  have hno : ((pix res s.ps 0).isSome || !dn || res.k != 4) = true → castP s ⟨th, 0, arg, res, fr, to, dn⟩ = (s, noneV, false) := fun h => by rw [castP, if_pos rfl, if_pos h]
  have hso : ((pix res s.ps 0).isSome || !dn || res.k != 4) = false → castP s ⟨th, 0, arg, res, fr, to, dn⟩ = (⟨s.vals, s.ps ++ [⟨res, s.vals.length⟩]⟩, res, true) := fun h => by rw [castP, if_pos rfl, if_neg (by rw [h]; decide)]
  obtain ⟨ada, capa, rfl⟩ := VT.rep_slice ho.a
  obtain ⟨adr, capr, rfl⟩ := VT.rep_slice ho.r
  obtain ⟨ad1, cap1, rfl⟩ := Rp.S_slice hs.v
  obtain ⟨ad2, cap2, rfl⟩ := Rp.S_slice hs.p
  refine enterX ty tyok Try.func47 rfl Try.ntmps47 [.v (.int .i64 4), .a [.v (.slice ad1 s.vals.length cap1), .v (.slice ad2 s.ps.length cap2)], .a (opC ⟨th, 0, arg, res, fr, to, dn⟩ (.slice ada arg.l.length capa) (.slice adr res.l.length capr))] (by simp) ?_
  simp only [opC]
  intro C hP hQ hnt hty hmb hmh hro; have hQp := qp_body hQ; refine st_ ?_
  refine rn_ ?_; intros
  rename_i b0 b1 b2 b3 b4 b5
  (refine x_split rfl rfl rfl (fun hc => absurd hc (by first | decide +kernel | (simp; first | done | fail))) (fun _ => ?_); refine st_ ?_; (refine ru_ ?_; intros))
  refine rn_ ?_; intros
  (refine x_split rfl rfl rfl (fun hc => absurd hc (by first | decide +kernel | (simp; first | done | fail))) (fun _ => ?_); refine st_ ?_; (refine ru_ ?_; intros))
  refine rn_ ?_; intros
  (refine x_split rfl rfl rfl (fun hc => absurd hc (by first | decide +kernel | (simp; first | done | fail))) (fun _ => ?_); refine st_ ?_; (refine ru_ ?_; intros))
  refine rn_ ?_; intros
  (refine x_split rfl rfl rfl (fun hc => absurd hc (by first | decide +kernel | (simp; first | done | fail))) (fun _ => ?_); refine st_ ?_; (refine ru_ ?_; intros))
  refine rn_ ?_; intros
  (refine x_split rfl rfl rfl (fun hc => absurd hc (by first | decide +kernel | (simp; first | done | fail))) (fun _ => ?_); refine st_ ?_; (refine ru_ ?_; intros))
  refine rn_ ?_; intros
  (refine x_split rfl rfl rfl (fun hc => absurd hc (by first | decide +kernel | (simp; first | done | fail))) (fun _ => ?_); refine st_ ?_; (refine ru_ ?_; intros))
  refine rn_ ?_; intros
  (refine x_split rfl rfl rfl (fun hc => absurd hc (by first | decide +kernel | (simp; first | done | fail))) (fun _ => ?_); refine st_ ?_; (refine ru_ ?_; intros))
  refine rn_ ?_; intros
  (refine x_split rfl rfl rfl (fun _ => ?_) (fun hc => absurd hc (by first | decide +kernel | (simp; first | done | fail))); refine st_ ?_; (refine ru_ ?_; intros))
  refine rn_ ?_; intros
  refine go_callf (by rw [hnt]; rfl) (by rw [hP]; kernel_rfl) rfl (hP ▸ refright_ok res _ G ho.r (by have h : tsz res ≤ 1048576 := ho.ok.br; omega)) ?_; refine rn_ ?_; intros
  have hdn : dn = true ∧ vld res = true ∨ dn = false ∧ zer res = true := by
    cases dn
    · exact .inr ⟨rfl, by simpa using hr⟩
    · exact .inl ⟨rfl, by simpa using hr⟩
  have hz4 : dn = false → (res.k != 4) = true := fun h => by
    rcases hdn with ⟨h1, _⟩ | ⟨_, h2⟩
    · rw [h] at h1; cases h1
    · simp only [zer, Bool.and_eq_true, beq_iff_eq] at h2
      rw [bne_iff_ne, h2.1.1]; decide
  refine go_gsplit rfl rfl (fun hvr => ?_) (fun hvr => ?_) <;> (refine st_ ?_; (refine rn_ ?_; intros))
  · refine go_gsplit rfl rfl (fun hk4 => ?_) (fun hk4 => ?_) <;> (refine st_ ?_; (refine rn_ ?_; intros))
    · have hd : dn = true := by
        cases hd : dn
        · have := hz4 hd
          rw [bne_iff_ne] at this
          exact absurd (by simpa using hk4) this
        · rfl
      refine go_callf (by rw [hnt]; rfl) (by rw [hP]; kernel_rfl) rfl (hP ▸ rport_ok s.ps res _ _ _ rfl G hs.p ho.r ho.ok.br) ?_; refine rn_ ?_; intros
      refine x_split rfl rfl rfl (fun hport => ?_) (fun hport => ?_) <;> (refine st_ ?_; (refine ru_ ?_; intros))
      · have hns : (pix res s.ps 0).isSome = false := by
          cases hp : pix res s.ps 0 with
          | none => rfl
          | some i => rw [hp] at hport; simp at hport; omega
        have e := hso (by rw [hns, hd, show (res.k != 4) = false by rw [bne_eq_false_iff_eq]; simpa using hk4]; rfl)
        refine go_keep [4, 5, 6, 7, 8] [0, 1, 2, 3] ?_
        refine st_ ?_
        refine rn_ ?_; intros
        obtain ⟨cs, hcs, hsrc⟩ := Rp.srcS hs.p
        refine x_heldP [(0, b0, .c 44 [.v (.slice ad1 s.vals.length cap1), .v (.slice ad2 s.ps.length cap2)]), (1, b1, .c 40 [.v (.int .i64 th), .v (.int .i64 0), .v (.int .i64 arg.k), .v (.int .i64 arg.n), .v (.slice ada arg.l.length capa), .v (.int .i64 res.k), .v (.int .i64 res.n), .v (.slice adr res.l.length capr), .v (.int .i64 fr), .v (.int .i64 to), .v (.bool dn)])] 13 rfl (by rw [hP]; kernel_rfl) rfl rfl rfl ?_; refine st_ ?_
        refine hu_take 1 rfl (by kernel_rfl) (by kernel_rfl) (by kernel_rfl) (by kernel_rfl) rfl (fun c a w v => hQp c a w _ v) (by rw [hnt]; rfl) (allIn (by repeat (first | exact trivial | refine ⟨rfl, ?_⟩))) (by first | exact Le.refl _ | assumption) (quiet_op (by rw [hty]; first | rfl | (refine st_ ?_; rfl))) ?_; refine st_ ?_
        refine hu_take 2 rfl (by kernel_rfl) (by kernel_rfl) (by kernel_rfl) (by kernel_rfl) rfl (fun c a w v => hQp c a w _ v) (by rw [hnt]; rfl) (allIn (by repeat (first | exact trivial | refine ⟨rfl, ?_⟩))) (by first | exact Le.refl _ | assumption) (quiet_op (by rw [hty]; first | rfl | (refine st_ ?_; rfl))) ?_; refine st_ ?_
        refine hu_take 4 rfl (by kernel_rfl) (by kernel_rfl) (by kernel_rfl) (by kernel_rfl) rfl (fun c a w v => hQp c a w _ v) (by rw [hnt]; rfl) (allIn (by repeat (first | exact trivial | refine ⟨rfl, ?_⟩))) (by first | exact Le.refl _ | assumption) (quiet_op (by rw [hty]; first | rfl | (refine st_ ?_; rfl))) ?_; refine st_ ?_
        refine hu_take 5 rfl (by kernel_rfl) (by kernel_rfl) (by kernel_rfl) (by kernel_rfl) rfl (fun c a w v => hQp c a w _ v) (by rw [hnt]; rfl) (allIn (by repeat (first | exact trivial | refine ⟨rfl, ?_⟩))) (by first | exact Le.refl _ | assumption) (quiet_op (by rw [hty]; first | rfl | (refine st_ ?_; rfl))) ?_; refine st_ ?_
        refine hu_take 6 rfl (by kernel_rfl) (by kernel_rfl) (by kernel_rfl) (by kernel_rfl) rfl (fun c a w v => hQp c a w _ v) (by rw [hnt]; rfl) (allIn (by repeat (first | exact trivial | refine ⟨rfl, ?_⟩))) (by first | exact Le.refl _ | assumption) (quiet_op (by rw [hty]; first | rfl | (refine st_ ?_; rfl))) ?_; refine st_ ?_
        refine hu_take 7 rfl (by kernel_rfl) (by kernel_rfl) (by kernel_rfl) (by kernel_rfl) rfl (fun c a w v => hQp c a w _ v) (by rw [hnt]; rfl) (allIn (by repeat (first | exact trivial | refine ⟨rfl, ?_⟩))) (by first | exact Le.refl _ | assumption) (quiet_op (by rw [hty]; first | rfl | (refine st_ ?_; rfl))) ?_; refine st_ ?_
        refine hu_take 8 rfl (by kernel_rfl) (by kernel_rfl) (by kernel_rfl) (by kernel_rfl) rfl (fun c a w v => hQp c a w _ v) (by rw [hnt]; rfl) (allIn (by repeat (first | exact trivial | refine ⟨rfl, ?_⟩))) (by first | exact Le.refl _ | assumption) (quiet_op (by rw [hty]; first | rfl | (refine st_ ?_; rfl))) ?_; refine st_ ?_
        refine hu_take 9 rfl (by kernel_rfl) (by kernel_rfl) (by kernel_rfl) (by kernel_rfl) rfl (fun c a w v => hQp c a w _ v) (by rw [hnt]; rfl) (allIn (by repeat (first | exact trivial | refine ⟨rfl, ?_⟩))) (by first | exact Le.refl _ | assumption) (quiet_op (by rw [hty]; first | rfl | (refine st_ ?_; rfl))) ?_; refine st_ ?_
        refine hu_two 0 10 rfl rfl (by kernel_rfl) ?_ ?_
        · refine rn_ ?_; intros
          refine h_hs (allIn (by repeat (first | exact trivial | refine ⟨rfl, ?_⟩))) (by first | exact Le.refl _ | assumption) ?_
          refine hu_two 3 10 rfl rfl (by kernel_rfl) ?_ ?_
          · refine go_litrow 4 (n := 0) (size := 4) rfl (by omega) rfl (by omega) ?_
            refine st_ ?_
            refine go_append_any 4 (by rw [hnt]; rfl) (by rw [hty]; rfl) (by rw [hty]; rfl) (by decide) rfl rfl rfl (by omega) rfl (hsrc.imp id fun f => f _ _ rfl) (Rp.L_len hcs) (Rp.L_one hcs) (by omega) (by simp only []; omega) ?_
            intro v1
            refine go_rowS 4 rfl ?_
            rintro a3 c3 rfl
            refine rn_ ?_; intros
            refine h_hs (allIn (by repeat (first | exact trivial | refine ⟨rfl, ?_⟩))) (by first | exact Le.refl _ | assumption) ?_
            refine hu_one 10 rfl (by kernel_rfl) ?_
            refine rn_ ?_; intros
            refine h_hs (allIn (by repeat (first | exact trivial | refine ⟨rfl, ?_⟩))) (by first | exact Le.refl _ | assumption) ?_
            refine hu_one 11 rfl (by kernel_rfl) ?_
            refine go_append_any 4 (by rw [hnt]; rfl) (by rw [hty]; rfl) (by rw [hty]; rfl) (by decide) rfl rfl rfl (by omega) rfl (.inr (src_own 4 rfl rfl)) rfl (by simp [dens, SV.den, Value.oneCell']) (by omega) (by simp only []; omega) ?_
            intro v2
            refine go_rowS 4 rfl ?_
            rintro a4 c4 rfl
            refine rn_ ?_; intros
            refine h_hs (allIn (by repeat (first | exact trivial | refine ⟨rfl, ?_⟩))) (by first | exact Le.refl _ | assumption) ?_
            refine hu_one 12 rfl (by kernel_rfl) ?_
            refine rn_ ?_; intros
            refine h_hs (allIn (by repeat (first | exact trivial | refine ⟨rfl, ?_⟩))) (by first | exact Le.refl _ | assumption) ?_
            refine hu_last 13 [] rfl (by kernel_rfl) rfl ?_
            refine rn_ ?_; intros
            refine h_end (by kernel_rfl) ?_
            refine go_pubL rPo 4 rfl (by omega) (ts := s.ps ++ [⟨res, s.vals.length⟩]) (by simp) (by omega) (Rp.L_append (by simpa using hcs) (Rp.L_single ⟨_, rfl, ho.r, ho.ok.br, by simp only [isI64]; omega⟩)) ?_
            intro G6 ad6 cap6 (hle6 : Le G G6) he6 hS6
            rw [← he6] at hS6
            refine go_keep [4, 5, 6, 7, 8] [0, 1, 2, 3] ?_
            refine st_ ?_
            refine rn_ ?_; intros
            refine x_held [(0, b0, .c 44 [.v (.slice ad1 s.vals.length cap1), .v (.slice a4 (0 + s.ps.length + 1) c4)]), (1, b1, .c 40 [.v (.int .i64 th), .v (.int .i64 0), .v (.int .i64 arg.k), .v (.int .i64 arg.n), .v (.slice ada arg.l.length capa), .v (.int .i64 res.k), .v (.int .i64 res.n), .v (.slice adr res.l.length capr), .v (.int .i64 fr), .v (.int .i64 to), .v (.bool dn)])] rfl (by rw [hP]; kernel_rfl) rfl rfl rfl ?_; refine st_ ?_
            refine h_take 0 rfl (by kernel_rfl) (by kernel_rfl) (by kernel_rfl) hQp (by rw [hnt]; rfl) (allIn (by repeat (first | exact trivial | refine ⟨rfl, ?_⟩))) (by first | exact Le.refl _ | assumption) (quiet_op (by rw [hty]; first | rfl | (refine st_ ?_; rfl))) ?_; refine st_ ?_
            refine h_take 1 rfl (by kernel_rfl) (by kernel_rfl) (by kernel_rfl) hQp (by rw [hnt]; rfl) (allIn (by repeat (first | exact trivial | refine ⟨rfl, ?_⟩))) (by first | exact Le.refl _ | assumption) (quiet_op (by rw [hty]; first | rfl | (refine st_ ?_; rfl))) ?_; refine st_ ?_
            refine h_take 2 rfl (by kernel_rfl) (by kernel_rfl) (by kernel_rfl) hQp (by rw [hnt]; rfl) (allIn (by repeat (first | exact trivial | refine ⟨rfl, ?_⟩))) (by first | exact Le.refl _ | assumption) (quiet_op (by rw [hty]; first | rfl | (refine st_ ?_; rfl))) ?_; refine st_ ?_
            refine h_one 3 rfl (by kernel_rfl) ?_
            refine rn_ ?_; intros
            refine h_hs (allIn (by repeat (first | exact trivial | refine ⟨rfl, ?_⟩))) (by first | exact Le.refl _ | assumption) ?_
            refine h_one 4 rfl (by kernel_rfl) ?_
            refine rn_ ?_; intros
            refine h_hs (allIn (by repeat (first | exact trivial | refine ⟨rfl, ?_⟩))) (by first | exact Le.refl _ | assumption) ?_
            refine h_one 5 rfl (by kernel_rfl) ?_
            refine rn_ ?_; intros
            refine h_hs (allIn (by repeat (first | exact trivial | refine ⟨rfl, ?_⟩))) (by first | exact Le.refl _ | assumption) ?_
            refine h_end (by kernel_rfl) ?_
            refine rn_ ?_; intros
            refine x_retc rfl hQ hmb rfl (by rw [hty]; simp only [so, sq, zy, zz, tyE, SO', SQ', opQ, opStore, opAlloc, ev, putS, dOk, cv, SV.cs, SV.one, SV.bool?, eqB, Value.oneCell', ldOwn, binInt, binConst, binBool, binStr, isC, TK.agg, rv, rv1, ldV, resOne, resV, Nat.reduceAdd, Nat.reduceMul, Nat.reduceSub, Nat.reduceLT, Nat.reduceLeDiff, Nat.reduceEqDiff, Nat.reduceBEq, reduceIte, reduceCtorEq, eq_self]; try rfl) rfl ?_; simp only [SV.den, resV, dens]
            rw [e]
            exact ⟨_, _, _, rfl, ⟨Rp.S_mono hle6 hs.v, hS6⟩, VT.rep_mono hle6 ho.r, ho.ok.br, hc⟩
          · refine rn_ ?_; intros
            refine h_hs (allIn (by repeat (first | exact trivial | refine ⟨rfl, ?_⟩))) (by first | exact Le.refl _ | assumption) ?_
            refine hu_one 3 rfl (by kernel_rfl) ?_
            refine go_litrow 4 (n := 0) (size := 4) rfl (by omega) rfl (by omega) ?_
            refine st_ ?_
            refine go_append_any 4 (by rw [hnt]; rfl) (by rw [hty]; rfl) (by rw [hty]; rfl) (by decide) rfl rfl rfl (by omega) rfl (hsrc.imp id fun f => f _ _ rfl) (Rp.L_len hcs) (Rp.L_one hcs) (by omega) (by simp only []; omega) ?_
            intro v1
            refine go_rowS 4 rfl ?_
            rintro a3 c3 rfl
            refine rn_ ?_; intros
            refine h_hs (allIn (by repeat (first | exact trivial | refine ⟨rfl, ?_⟩))) (by first | exact Le.refl _ | assumption) ?_
            refine hu_one 11 rfl (by kernel_rfl) ?_
            refine go_append_any 4 (by rw [hnt]; rfl) (by rw [hty]; rfl) (by rw [hty]; rfl) (by decide) rfl rfl rfl (by omega) rfl (.inr (src_own 4 rfl rfl)) rfl (by simp [dens, SV.den, Value.oneCell']) (by omega) (by simp only []; omega) ?_
            intro v2
            refine go_rowS 4 rfl ?_
            rintro a4 c4 rfl
            refine rn_ ?_; intros
            refine h_hs (allIn (by repeat (first | exact trivial | refine ⟨rfl, ?_⟩))) (by first | exact Le.refl _ | assumption) ?_
            refine hu_one 12 rfl (by kernel_rfl) ?_
            refine rn_ ?_; intros
            refine h_hs (allIn (by repeat (first | exact trivial | refine ⟨rfl, ?_⟩))) (by first | exact Le.refl _ | assumption) ?_
            refine hu_last 13 [] rfl (by kernel_rfl) rfl ?_
            refine rn_ ?_; intros
            refine h_end (by kernel_rfl) ?_
            refine go_pubL rPo 4 rfl (by omega) (ts := s.ps ++ [⟨res, s.vals.length⟩]) (by simp) (by omega) (Rp.L_append (by simpa using hcs) (Rp.L_single ⟨_, rfl, ho.r, ho.ok.br, by simp only [isI64]; omega⟩)) ?_
            intro G6 ad6 cap6 (hle6 : Le G G6) he6 hS6
            rw [← he6] at hS6
            refine go_keep [4, 5, 6, 7, 8] [0, 1, 2, 3] ?_
            refine st_ ?_
            refine rn_ ?_; intros
            refine x_held [(0, b0, .c 44 [.v (.slice ad1 s.vals.length cap1), .v (.slice a4 (0 + s.ps.length + 1) c4)]), (1, b1, .c 40 [.v (.int .i64 th), .v (.int .i64 0), .v (.int .i64 arg.k), .v (.int .i64 arg.n), .v (.slice ada arg.l.length capa), .v (.int .i64 res.k), .v (.int .i64 res.n), .v (.slice adr res.l.length capr), .v (.int .i64 fr), .v (.int .i64 to), .v (.bool dn)])] rfl (by rw [hP]; kernel_rfl) rfl rfl rfl ?_; refine st_ ?_
            refine h_take 0 rfl (by kernel_rfl) (by kernel_rfl) (by kernel_rfl) hQp (by rw [hnt]; rfl) (allIn (by repeat (first | exact trivial | refine ⟨rfl, ?_⟩))) (by first | exact Le.refl _ | assumption) (quiet_op (by rw [hty]; first | rfl | (refine st_ ?_; rfl))) ?_; refine st_ ?_
            refine h_take 1 rfl (by kernel_rfl) (by kernel_rfl) (by kernel_rfl) hQp (by rw [hnt]; rfl) (allIn (by repeat (first | exact trivial | refine ⟨rfl, ?_⟩))) (by first | exact Le.refl _ | assumption) (quiet_op (by rw [hty]; first | rfl | (refine st_ ?_; rfl))) ?_; refine st_ ?_
            refine h_take 2 rfl (by kernel_rfl) (by kernel_rfl) (by kernel_rfl) hQp (by rw [hnt]; rfl) (allIn (by repeat (first | exact trivial | refine ⟨rfl, ?_⟩))) (by first | exact Le.refl _ | assumption) (quiet_op (by rw [hty]; first | rfl | (refine st_ ?_; rfl))) ?_; refine st_ ?_
            refine h_one 3 rfl (by kernel_rfl) ?_
            refine rn_ ?_; intros
            refine h_hs (allIn (by repeat (first | exact trivial | refine ⟨rfl, ?_⟩))) (by first | exact Le.refl _ | assumption) ?_
            refine h_one 4 rfl (by kernel_rfl) ?_
            refine rn_ ?_; intros
            refine h_hs (allIn (by repeat (first | exact trivial | refine ⟨rfl, ?_⟩))) (by first | exact Le.refl _ | assumption) ?_
            refine h_one 5 rfl (by kernel_rfl) ?_
            refine rn_ ?_; intros
            refine h_hs (allIn (by repeat (first | exact trivial | refine ⟨rfl, ?_⟩))) (by first | exact Le.refl _ | assumption) ?_
            refine h_end (by kernel_rfl) ?_
            refine rn_ ?_; intros
            refine x_retc rfl hQ hmb rfl (by rw [hty]; simp only [so, sq, zy, zz, tyE, SO', SQ', opQ, opStore, opAlloc, ev, putS, dOk, cv, SV.cs, SV.one, SV.bool?, eqB, Value.oneCell', ldOwn, binInt, binConst, binBool, binStr, isC, TK.agg, rv, rv1, ldV, resOne, resV, Nat.reduceAdd, Nat.reduceMul, Nat.reduceSub, Nat.reduceLT, Nat.reduceLeDiff, Nat.reduceEqDiff, Nat.reduceBEq, reduceIte, reduceCtorEq, eq_self]; try rfl) rfl ?_; simp only [SV.den, resV, dens]
            rw [e]
            exact ⟨_, _, _, rfl, ⟨Rp.S_mono hle6 hs.v, hS6⟩, VT.rep_mono hle6 ho.r, ho.ok.br, hc⟩
        · refine rn_ ?_; intros
          refine h_hs (allIn (by repeat (first | exact trivial | refine ⟨rfl, ?_⟩))) (by first | exact Le.refl _ | assumption) ?_
          refine hu_one 0 rfl (by kernel_rfl) ?_
          refine rn_ ?_; intros
          refine h_hs (allIn (by repeat (first | exact trivial | refine ⟨rfl, ?_⟩))) (by first | exact Le.refl _ | assumption) ?_
          refine hu_one 3 rfl (by kernel_rfl) ?_
          refine go_litrow 5 (n := 0) (size := 4) rfl (by omega) rfl (by omega) ?_
          refine st_ ?_
          refine go_append_any 5 (by rw [hnt]; rfl) (by rw [hty]; rfl) (by rw [hty]; rfl) (by decide) rfl rfl rfl (by omega) rfl (hsrc.imp id fun f => f _ _ rfl) (Rp.L_len hcs) (Rp.L_one hcs) (by omega) (by simp only []; omega) ?_
          intro v1
          refine go_rowS 5 rfl ?_
          rintro a3 c3 rfl
          refine rn_ ?_; intros
          refine h_hs (allIn (by repeat (first | exact trivial | refine ⟨rfl, ?_⟩))) (by first | exact Le.refl _ | assumption) ?_
          refine hu_one 11 rfl (by kernel_rfl) ?_
          refine go_append_any 5 (by rw [hnt]; rfl) (by rw [hty]; rfl) (by rw [hty]; rfl) (by decide) rfl rfl rfl (by omega) rfl (.inr (src_own 4 rfl rfl)) rfl (by simp [dens, SV.den, Value.oneCell']) (by omega) (by simp only []; omega) ?_
          intro v2
          refine go_rowS 5 rfl ?_
          rintro a4 c4 rfl
          refine rn_ ?_; intros
          refine h_hs (allIn (by repeat (first | exact trivial | refine ⟨rfl, ?_⟩))) (by first | exact Le.refl _ | assumption) ?_
          refine hu_one 12 rfl (by kernel_rfl) ?_
          refine rn_ ?_; intros
          refine h_hs (allIn (by repeat (first | exact trivial | refine ⟨rfl, ?_⟩))) (by first | exact Le.refl _ | assumption) ?_
          refine hu_last 13 [] rfl (by kernel_rfl) rfl ?_
          refine rn_ ?_; intros
          refine h_end (by kernel_rfl) ?_
          refine go_pubL rPo 5 rfl (by omega) (ts := s.ps ++ [⟨res, s.vals.length⟩]) (by simp) (by omega) (Rp.L_append (by simpa using hcs) (Rp.L_single ⟨_, rfl, ho.r, ho.ok.br, by simp only [isI64]; omega⟩)) ?_
          intro G6 ad6 cap6 (hle6 : Le G G6) he6 hS6
          rw [← he6] at hS6
          refine go_keep [4, 5, 6, 7, 8] [0, 1, 2, 3] ?_
          refine st_ ?_
          refine rn_ ?_; intros
          refine x_held [(0, b0, .c 44 [.v (.slice ad1 s.vals.length cap1), .v (.slice a4 (0 + s.ps.length + 1) c4)]), (1, b1, .c 40 [.v (.int .i64 th), .v (.int .i64 0), .v (.int .i64 arg.k), .v (.int .i64 arg.n), .v (.slice ada arg.l.length capa), .v (.int .i64 res.k), .v (.int .i64 res.n), .v (.slice adr res.l.length capr), .v (.int .i64 fr), .v (.int .i64 to), .v (.bool dn)])] rfl (by rw [hP]; kernel_rfl) rfl rfl rfl ?_; refine st_ ?_
          refine h_take 0 rfl (by kernel_rfl) (by kernel_rfl) (by kernel_rfl) hQp (by rw [hnt]; rfl) (allIn (by repeat (first | exact trivial | refine ⟨rfl, ?_⟩))) (by first | exact Le.refl _ | assumption) (quiet_op (by rw [hty]; first | rfl | (refine st_ ?_; rfl))) ?_; refine st_ ?_
          refine h_take 1 rfl (by kernel_rfl) (by kernel_rfl) (by kernel_rfl) hQp (by rw [hnt]; rfl) (allIn (by repeat (first | exact trivial | refine ⟨rfl, ?_⟩))) (by first | exact Le.refl _ | assumption) (quiet_op (by rw [hty]; first | rfl | (refine st_ ?_; rfl))) ?_; refine st_ ?_
          refine h_take 2 rfl (by kernel_rfl) (by kernel_rfl) (by kernel_rfl) hQp (by rw [hnt]; rfl) (allIn (by repeat (first | exact trivial | refine ⟨rfl, ?_⟩))) (by first | exact Le.refl _ | assumption) (quiet_op (by rw [hty]; first | rfl | (refine st_ ?_; rfl))) ?_; refine st_ ?_
          refine h_one 3 rfl (by kernel_rfl) ?_
          refine rn_ ?_; intros
          refine h_hs (allIn (by repeat (first | exact trivial | refine ⟨rfl, ?_⟩))) (by first | exact Le.refl _ | assumption) ?_
          refine h_one 4 rfl (by kernel_rfl) ?_
          refine rn_ ?_; intros
          refine h_hs (allIn (by repeat (first | exact trivial | refine ⟨rfl, ?_⟩))) (by first | exact Le.refl _ | assumption) ?_
          refine h_one 5 rfl (by kernel_rfl) ?_
          refine rn_ ?_; intros
          refine h_hs (allIn (by repeat (first | exact trivial | refine ⟨rfl, ?_⟩))) (by first | exact Le.refl _ | assumption) ?_
          refine h_end (by kernel_rfl) ?_
          refine rn_ ?_; intros
          refine x_retc rfl hQ hmb rfl (by rw [hty]; simp only [so, sq, zy, zz, tyE, SO', SQ', opQ, opStore, opAlloc, ev, putS, dOk, cv, SV.cs, SV.one, SV.bool?, eqB, Value.oneCell', ldOwn, binInt, binConst, binBool, binStr, isC, TK.agg, rv, rv1, ldV, resOne, resV, Nat.reduceAdd, Nat.reduceMul, Nat.reduceSub, Nat.reduceLT, Nat.reduceLeDiff, Nat.reduceEqDiff, Nat.reduceBEq, reduceIte, reduceCtorEq, eq_self]; try rfl) rfl ?_; simp only [SV.den, resV, dens]
          rw [e]
          exact ⟨_, _, _, rfl, ⟨Rp.S_mono hle6 hs.v, hS6⟩, VT.rep_mono hle6 ho.r, ho.ok.br, hc⟩
      · have e := hno (by
          cases hp : pix res s.ps 0 with
          | none => rw [hp] at hport; simp at hport
          | some i => rfl)
        refine rn_ ?_; intros
        refine x_held [(0, b0, .c 44 [.v (.slice ad1 s.vals.length cap1), .v (.slice ad2 s.ps.length cap2)]), (5, b5, .c 28 [.v (.int .i64 0), .v (.int .i64 0), .v (.slice none 0 0)])] rfl (by rw [hP]; kernel_rfl) rfl rfl rfl ?_; refine st_ ?_
        refine h_take 0 rfl (by kernel_rfl) (by kernel_rfl) (by kernel_rfl) hQp (by rw [hnt]; rfl) (allIn (by repeat (first | exact trivial | refine ⟨rfl, ?_⟩))) (by first | exact Le.refl _ | assumption) (quiet_op (by rw [hty]; first | rfl | (refine st_ ?_; rfl))) ?_; refine st_ ?_
        refine h_take 1 rfl (by kernel_rfl) (by kernel_rfl) (by kernel_rfl) hQp (by rw [hnt]; rfl) (allIn (by repeat (first | exact trivial | refine ⟨rfl, ?_⟩))) (by first | exact Le.refl _ | assumption) (quiet_op (by rw [hty]; first | rfl | (refine st_ ?_; rfl))) ?_; refine st_ ?_
        refine h_one 2 rfl (by kernel_rfl) ?_
        refine rn_ ?_; intros
        refine h_hs (allIn (by repeat (first | exact trivial | refine ⟨rfl, ?_⟩))) (by first | exact Le.refl _ | assumption) ?_
        refine h_one 3 rfl (by kernel_rfl) ?_
        refine rn_ ?_; intros
        refine h_hs (allIn (by repeat (first | exact trivial | refine ⟨rfl, ?_⟩))) (by first | exact Le.refl _ | assumption) ?_
        refine h_one 4 rfl (by kernel_rfl) ?_
        refine rn_ ?_; intros
        refine h_hs (allIn (by repeat (first | exact trivial | refine ⟨rfl, ?_⟩))) (by first | exact Le.refl _ | assumption) ?_
        refine h_end (by kernel_rfl) ?_
        refine rn_ ?_; intros
        refine x_retc rfl hQ hmb rfl (by rw [hty]; simp only [so, sq, zy, zz, tyE, SO', SQ', opQ, opStore, opAlloc, ev, putS, dOk, cv, SV.cs, SV.one, SV.bool?, eqB, Value.oneCell', ldOwn, binInt, binConst, binBool, binStr, isC, TK.agg, rv, rv1, ldV, resOne, resV, Nat.reduceAdd, Nat.reduceMul, Nat.reduceSub, Nat.reduceLT, Nat.reduceLeDiff, Nat.reduceEqDiff, Nat.reduceBEq, reduceIte, reduceCtorEq, eq_self]; try rfl) rfl ?_; simp only [SV.den, resV, dens]
        rw [e]
        exact ⟨_, _, _, rfl, hs, rep_leaf _ 0 0 (by simp [isI64]) (by simp [isI64]), by simp [noneV, tsz, tszL], hc⟩
    · have e := hno (by rw [show (res.k != 4) = true by rw [bne_iff_ne]; simpa using hk4]; simp)
      refine x_held [(0, b0, .c 44 [.v (.slice ad1 s.vals.length cap1), .v (.slice ad2 s.ps.length cap2)]), (5, b5, .c 28 [.v (.int .i64 0), .v (.int .i64 0), .v (.slice none 0 0)])] rfl (by rw [hP]; kernel_rfl) rfl rfl rfl ?_; refine st_ ?_
      refine h_take 0 rfl (by kernel_rfl) (by kernel_rfl) (by kernel_rfl) hQp (by rw [hnt]; rfl) (allIn (by repeat (first | exact trivial | refine ⟨rfl, ?_⟩))) (by first | exact Le.refl _ | assumption) (quiet_op (by rw [hty]; first | rfl | (refine st_ ?_; rfl))) ?_; refine st_ ?_
      refine h_take 1 rfl (by kernel_rfl) (by kernel_rfl) (by kernel_rfl) hQp (by rw [hnt]; rfl) (allIn (by repeat (first | exact trivial | refine ⟨rfl, ?_⟩))) (by first | exact Le.refl _ | assumption) (quiet_op (by rw [hty]; first | rfl | (refine st_ ?_; rfl))) ?_; refine st_ ?_
      refine h_one 2 rfl (by kernel_rfl) ?_
      refine rn_ ?_; intros
      refine h_hs (allIn (by repeat (first | exact trivial | refine ⟨rfl, ?_⟩))) (by first | exact Le.refl _ | assumption) ?_
      refine h_one 3 rfl (by kernel_rfl) ?_
      refine rn_ ?_; intros
      refine h_hs (allIn (by repeat (first | exact trivial | refine ⟨rfl, ?_⟩))) (by first | exact Le.refl _ | assumption) ?_
      refine h_one 4 rfl (by kernel_rfl) ?_
      refine rn_ ?_; intros
      refine h_hs (allIn (by repeat (first | exact trivial | refine ⟨rfl, ?_⟩))) (by first | exact Le.refl _ | assumption) ?_
      refine h_end (by kernel_rfl) ?_
      refine rn_ ?_; intros
      refine x_retc rfl hQ hmb rfl (by rw [hty]; simp only [so, sq, zy, zz, tyE, SO', SQ', opQ, opStore, opAlloc, ev, putS, dOk, cv, SV.cs, SV.one, SV.bool?, eqB, Value.oneCell', ldOwn, binInt, binConst, binBool, binStr, isC, TK.agg, rv, rv1, ldV, resOne, resV, Nat.reduceAdd, Nat.reduceMul, Nat.reduceSub, Nat.reduceLT, Nat.reduceLeDiff, Nat.reduceEqDiff, Nat.reduceBEq, reduceIte, reduceCtorEq, eq_self]; try rfl) rfl ?_; simp only [SV.den, resV, dens]
      rw [e]
      exact ⟨_, _, _, rfl, hs, rep_leaf _ 0 0 (by simp [isI64]) (by simp [isI64]), by simp [noneV, tsz, tszL], hc⟩
  · have hd : dn = false := by
      rcases hdn with ⟨_, h⟩ | ⟨h, _⟩
      · rw [h] at hvr; cases hvr
      · exact h
    have e := hno (by rw [hd]; simp)
    refine x_held [(0, b0, .c 44 [.v (.slice ad1 s.vals.length cap1), .v (.slice ad2 s.ps.length cap2)]), (5, b5, .c 28 [.v (.int .i64 0), .v (.int .i64 0), .v (.slice none 0 0)])] rfl (by rw [hP]; kernel_rfl) rfl rfl rfl ?_; refine st_ ?_
    refine h_take 0 rfl (by kernel_rfl) (by kernel_rfl) (by kernel_rfl) hQp (by rw [hnt]; rfl) (allIn (by repeat (first | exact trivial | refine ⟨rfl, ?_⟩))) (by first | exact Le.refl _ | assumption) (quiet_op (by rw [hty]; first | rfl | (refine st_ ?_; rfl))) ?_; refine st_ ?_
    refine h_take 1 rfl (by kernel_rfl) (by kernel_rfl) (by kernel_rfl) hQp (by rw [hnt]; rfl) (allIn (by repeat (first | exact trivial | refine ⟨rfl, ?_⟩))) (by first | exact Le.refl _ | assumption) (quiet_op (by rw [hty]; first | rfl | (refine st_ ?_; rfl))) ?_; refine st_ ?_
    refine h_one 2 rfl (by kernel_rfl) ?_
    refine rn_ ?_; intros
    refine h_hs (allIn (by repeat (first | exact trivial | refine ⟨rfl, ?_⟩))) (by first | exact Le.refl _ | assumption) ?_
    refine h_one 3 rfl (by kernel_rfl) ?_
    refine rn_ ?_; intros
    refine h_hs (allIn (by repeat (first | exact trivial | refine ⟨rfl, ?_⟩))) (by first | exact Le.refl _ | assumption) ?_
    refine h_one 4 rfl (by kernel_rfl) ?_
    refine rn_ ?_; intros
    refine h_hs (allIn (by repeat (first | exact trivial | refine ⟨rfl, ?_⟩))) (by first | exact Le.refl _ | assumption) ?_
    refine h_end (by kernel_rfl) ?_
    refine rn_ ?_; intros
    refine x_retc rfl hQ hmb rfl (by rw [hty]; simp only [so, sq, zy, zz, tyE, SO', SQ', opQ, opStore, opAlloc, ev, putS, dOk, cv, SV.cs, SV.one, SV.bool?, eqB, Value.oneCell', ldOwn, binInt, binConst, binBool, binStr, isC, TK.agg, rv, rv1, ldV, resOne, resV, Nat.reduceAdd, Nat.reduceMul, Nat.reduceSub, Nat.reduceLT, Nat.reduceLeDiff, Nat.reduceEqDiff, Nat.reduceBEq, reduceIte, reduceCtorEq, eq_self]; try rfl) rfl ?_; simp only [SV.den, resV, dens]
    rw [e]
    exact ⟨_, _, _, rfl, hs, rep_leaf _ 0 0 (by simp [isI64]) (by simp [isI64]), by simp [noneV, tsz, tszL], hc⟩
end Go.Proofs.Ytpmmbjcgabnloaa
namespace Go.Proofs.Ytpmmbjcgabnloaa
set_option linter.unusedSimpArgs false
set_option linter.unusedVariables false
open Go.Sx
set_option maxHeartbeats 8000000
set_option maxRecDepth 20000
theorem does42_ok (th : Int) (arg res : VT) (fr to : Int) (dn : Bool) (s : MS) (sv sp sa sr : Value) (G : Hp) (hs : s.rep G sv sp) (ho : (⟨th, 2, arg, res, fr, to, dn⟩ : Op).rep G sa sr) (hl : s.vals.length ≤ 100000) (hlp : s.ps.length ≤ 100000) (hc : CapOk sv) (hwf : s.wf) :
    Pure Try.prog 47 [.int .i64 4, .agg #[sv, sp], .agg (opL ⟨th, 2, arg, res, fr, to, dn⟩ sa sr).toArray] G (rdRet (castP s ⟨th, 2, arg, res, fr, to, dn⟩)) := by
  obtain ⟨ada, capa, rfl⟩ := VT.rep_slice ho.a
  obtain ⟨adr, capr, rfl⟩ := VT.rep_slice ho.r
  obtain ⟨ad1, cap1, rfl⟩ := Rp.S_slice hs.v
  obtain ⟨ad2, cap2, rfl⟩ := Rp.S_slice hs.p
  refine enterX ty tyok Try.func47 rfl Try.ntmps47 [.v (.int .i64 4), .a [.v (.slice ad1 s.vals.length cap1), .v (.slice ad2 s.ps.length cap2)], .a (opC ⟨th, 2, arg, res, fr, to, dn⟩ (.slice ada arg.l.length capa) (.slice adr res.l.length capr))] (by simp) ?_
  simp only [opC]
  intro C hP hQ hnt hty hmb hmh hro; have hQp := qp_body hQ; refine st_ ?_
  refine rn_ ?_; intros
  rename_i b0 b1 b2 b3 b4 b5
  (refine x_split rfl rfl rfl (fun hc => absurd hc (by first | decide +kernel | (simp; first | done | fail))) (fun _ => ?_); refine st_ ?_; (refine ru_ ?_; intros))
  refine rn_ ?_; intros
  (refine x_split rfl rfl rfl (fun hc => absurd hc (by first | decide +kernel | (simp; first | done | fail))) (fun _ => ?_); refine st_ ?_; (refine ru_ ?_; intros))
  refine rn_ ?_; intros
  (refine x_split rfl rfl rfl (fun hc => absurd hc (by first | decide +kernel | (simp; first | done | fail))) (fun _ => ?_); refine st_ ?_; (refine ru_ ?_; intros))
  refine rn_ ?_; intros
  (refine x_split rfl rfl rfl (fun hc => absurd hc (by first | decide +kernel | (simp; first | done | fail))) (fun _ => ?_); refine st_ ?_; (refine ru_ ?_; intros))
  refine rn_ ?_; intros
  (refine x_split rfl rfl rfl (fun hc => absurd hc (by first | decide +kernel | (simp; first | done | fail))) (fun _ => ?_); refine st_ ?_; (refine ru_ ?_; intros))
  refine rn_ ?_; intros
  (refine x_split rfl rfl rfl (fun hc => absurd hc (by first | decide +kernel | (simp; first | done | fail))) (fun _ => ?_); refine st_ ?_; (refine ru_ ?_; intros))
  refine rn_ ?_; intros
  (refine x_split rfl rfl rfl (fun hc => absurd hc (by first | decide +kernel | (simp; first | done | fail))) (fun _ => ?_); refine st_ ?_; (refine ru_ ?_; intros))
  refine rn_ ?_; intros
  (refine x_split rfl rfl rfl (fun hc => absurd hc (by first | decide +kernel | (simp; first | done | fail))) (fun _ => ?_); refine st_ ?_; (refine ru_ ?_; intros))
  refine rn_ ?_; intros
  (refine x_split rfl rfl rfl (fun _ => ?_) (fun hc => absurd hc (by first | decide +kernel | (simp; first | done | fail))); refine st_ ?_; (refine ru_ ?_; intros))
  refine rn_ ?_; intros
  refine go_keep [4, 5, 6, 7, 8, 10, 113, 115] [0, 1, 2, 3, 5] ?_
  refine st_ ?_
  refine go_callf (by rw [hnt]; rfl) (by rw [hP]; kernel_rfl) rfl (hP ▸ rport_ok s.ps arg _ _ _ rfl G hs.p ho.a ho.ok.ba) ?_; refine rn_ ?_; intros
  have hcs0 : castP s ⟨th, 2, arg, res, fr, to, dn⟩ = match pix arg s.ps 0 with
      | none => (s, noneV, false)
      | some i => if (s.vals.length : Int) ≤ (s.ps.getD i ⟨noneV, 0⟩).pt then (s, noneV, false) else (⟨s.vals, s.ps.set i ⟨(s.ps.getD i ⟨noneV, 0⟩).nm, (s.ps.getD i ⟨noneV, 0⟩).pt + 1⟩⟩, s.vals.getD (s.ps.getD i ⟨noneV, 0⟩).pt.toNat noneV, true) := rfl
  rcases hpi : pix arg s.ps 0 with _ | i
  · have e : castP s ⟨th, 2, arg, res, fr, to, dn⟩ = (s, noneV, false) := by rw [hcs0, hpi]
    refine x_draw rfl (by rw [hP]; kernel_rfl) rfl (by kernel_rfl) ?_
    refine runq 400 hty hnt ?_; refine st_ ?_
    (refine go_qsplit rfl rfl (fun hc => absurd hc (by simp)) (fun _ => ?_); refine st_ ?_; (try (refine runq 400 hty hnt ?_; refine st_ ?_)))
    repeat (refine q_gundef rfl (by rw [hnt]; rfl) rfl ?_; (refine st_ ?_; (try (refine runq 400 hty hnt ?_; refine st_ ?_))))
    refine q_end ?_; refine rn_ ?_; intros
    refine rn_ ?_; intros
    refine x_held [(0, b0, .c 44 [.v (.slice ad1 s.vals.length cap1), .v (.slice ad2 s.ps.length cap2)]), (5, b5, .c 28 [.v (.int .i64 0), .v (.int .i64 0), .v (.slice none 0 0)])] rfl (by rw [hP]; kernel_rfl) rfl rfl rfl ?_; refine st_ ?_
    refine h_take 0 rfl (by kernel_rfl) (by kernel_rfl) (by kernel_rfl) hQp (by rw [hnt]; rfl) (allIn (by repeat (first | exact trivial | refine ⟨rfl, ?_⟩))) (by first | exact Le.refl _ | assumption) (quiet_op (by rw [hty]; first | rfl | (refine st_ ?_; rfl))) ?_; refine st_ ?_
    refine h_take 1 rfl (by kernel_rfl) (by kernel_rfl) (by kernel_rfl) hQp (by rw [hnt]; rfl) (allIn (by repeat (first | exact trivial | refine ⟨rfl, ?_⟩))) (by first | exact Le.refl _ | assumption) (quiet_op (by rw [hty]; first | rfl | (refine st_ ?_; rfl))) ?_; refine st_ ?_
    refine h_one 2 rfl (by kernel_rfl) ?_
    refine rn_ ?_; intros
    refine h_hs (allIn (by repeat (first | exact trivial | refine ⟨rfl, ?_⟩))) (by first | exact Le.refl _ | assumption) ?_
    refine h_one 3 rfl (by kernel_rfl) ?_
    refine rn_ ?_; intros
    refine h_hs (allIn (by repeat (first | exact trivial | refine ⟨rfl, ?_⟩))) (by first | exact Le.refl _ | assumption) ?_
    refine h_one 4 rfl (by kernel_rfl) ?_
    refine rn_ ?_; intros
    refine h_hs (allIn (by repeat (first | exact trivial | refine ⟨rfl, ?_⟩))) (by first | exact Le.refl _ | assumption) ?_
    refine h_end (by kernel_rfl) ?_
    refine rn_ ?_; intros
    refine x_retc rfl hQ hmb rfl (by rw [hty]; simp only [so, sq, zy, zz, tyE, SO', SQ', opQ, opStore, opAlloc, ev, putS, dOk, cv, SV.cs, SV.one, SV.bool?, eqB, Value.oneCell', ldOwn, binInt, binConst, binBool, binStr, isC, TK.agg, rv, rv1, ldV, resOne, resV, Nat.reduceAdd, Nat.reduceMul, Nat.reduceSub, Nat.reduceLT, Nat.reduceLeDiff, Nat.reduceEqDiff, Nat.reduceBEq, reduceIte, reduceCtorEq, eq_self]; try rfl) rfl ?_; simp only [SV.den, resV, dens]
    rw [e]
    exact ⟨_, _, _, rfl, hs, rep_leaf _ 0 0 (by simp [isI64]) (by simp [isI64]), by simp [noneV, tsz, tszL], hc⟩
  · have hi := (pix_lt hpi).2
    rw [Nat.zero_add] at hi
    obtain ⟨c1, o1, sl1, rfl, hat, hrep, hbp, h64⟩ := rPo_at hs.p hi
    have hwfi := hwf _ (List.getElem_mem hi)
    have hgd : s.ps.getD i ⟨noneV, 0⟩ = s.ps[i] := by rw [List.getD_eq_getElem?_getD, List.getElem?_eq_getElem hi]; rfl
    rw [hpi] at hcs0
    simp only [hgd] at hcs0
    have hatp : At G c1 (o1 + i * 4 + 3) [.int .i64 s.ps[i].pt] := by simpa using hat.sub 3 1 (by simp)
    refine x_draw rfl (by rw [hP]; kernel_rfl) rfl (by kernel_rfl) ?_
    refine runq 400 hty hnt ?_; refine st_ ?_
    (refine go_qsplit rfl rfl (fun _ => ?_) (fun hc => absurd hc (by simp)); refine st_ ?_; (try (refine runq 400 hty hnt ?_; refine st_ ?_)))
    refine q_q (by rw [hnt]; rfl) (quiet_index (by rw [hty]; rfl) (by rw [hty]; rfl) rfl rfl rfl (by omega) (by omega)) ?_; refine runq 400 hty hnt ?_; refine st_ ?_
    refine q_q (v := .int .i64 s.ps[i].pt) (by rw [hnt]; rfl) ((quiet_load (vs := [.int .i64 s.ps[i].pt]) (by rw [hty]; rfl) rfl (by simp [TK.agg]) (by simpa only [Int.toNat_natCast] using hatp) rfl).cast (by rfl)) ?_
    refine runq 400 hty hnt ?_; refine st_ ?_
    refine q_end ?_; refine rn_ ?_; intros
    refine x_split rfl rfl rfl (fun hlt => ?_) (fun hlt => ?_) <;> (refine st_ ?_; (refine ru_ ?_; intros))
    · have hlt' : ¬ (s.vals.length : Int) ≤ s.ps[i].pt := by simp at hlt; omega
      rw [if_neg hlt'] at hcs0
      refine go_keep [4, 5, 6, 7, 8, 13] [0, 1, 2, 3] ?_
      refine st_ ?_
      refine rn_ ?_; intros
      obtain ⟨p, hpe⟩ : ∃ p : Nat, s.ps[i].pt = p := ⟨s.ps[i].pt.toNat, by omega⟩
      have hpl : p < s.vals.length := by omega
      rw [hpe] at hcs0 hatp
      have hgv : s.vals.getD ((p : Int)).toNat noneV = s.vals[p] := by rw [Int.toNat_natCast, List.getD_eq_getElem?_getD, List.getElem?_eq_getElem hpl]; rfl
      rw [hgv] at hcs0
      obtain ⟨c2, o2, sl2, hx2, hatv, hrv, hbv⟩ := rV_at hs.v hpl
      subst hx2
      obtain ⟨asv, csv, rfl⟩ := VT.rep_slice hrv
      obtain ⟨cs, hcs, hsrc⟩ := Rp.srcS hs.p
      refine x_held [(0, b0, .c 44 [.v (.slice (some ⟨c2, o2, none⟩) s.vals.length cap1), .v (.slice (some ⟨c1, o1, none⟩) s.ps.length cap2)])] rfl (by rw [hP]; kernel_rfl) rfl rfl rfl ?_; refine st_ ?_
      refine h_take 0 rfl (by kernel_rfl) (by kernel_rfl) (by kernel_rfl) hQp (by rw [hnt]; rfl) (allIn (by repeat (first | exact trivial | refine ⟨rfl, ?_⟩))) (by first | exact Le.refl _ | assumption) (quiet_op (by rw [hty]; first | rfl | (refine st_ ?_; rfl))) ?_; refine st_ ?_
      refine h_take 1 rfl (by kernel_rfl) (by kernel_rfl) (by kernel_rfl) hQp (by rw [hnt]; rfl) (allIn (by repeat (first | exact trivial | refine ⟨rfl, ?_⟩))) (by first | exact Le.refl _ | assumption) (quiet_op (by rw [hty]; first | rfl | (refine st_ ?_; rfl))) ?_; refine st_ ?_
      refine h_take 2 rfl (by kernel_rfl) (by kernel_rfl) (by kernel_rfl) hQp (by rw [hnt]; rfl) (allIn (by repeat (first | exact trivial | refine ⟨rfl, ?_⟩))) (by first | exact Le.refl _ | assumption) (quiet_op (by rw [hty]; first | rfl | (refine st_ ?_; rfl))) ?_; refine st_ ?_
      refine h_take 3 rfl (by kernel_rfl) (by kernel_rfl) (by kernel_rfl) hQp (by rw [hnt]; rfl) (allIn (by repeat (first | exact trivial | refine ⟨rfl, ?_⟩))) (by first | exact Le.refl _ | assumption) (quiet_op (by rw [hty]; first | rfl | (refine st_ ?_; rfl))) ?_; refine st_ ?_
      refine h_take 4 rfl (by kernel_rfl) (by kernel_rfl) (by kernel_rfl) hQp (by rw [hnt]; rfl) (allIn (by repeat (first | exact trivial | refine ⟨rfl, ?_⟩))) (by first | exact Le.refl _ | assumption) (quiet_op (by rw [hty]; first | rfl | (refine st_ ?_; rfl))) ?_; refine st_ ?_
      refine h_take 5 rfl (by kernel_rfl) (by kernel_rfl) (by kernel_rfl) hQp (by rw [hnt]; rfl) (allIn (by repeat (first | exact trivial | refine ⟨rfl, ?_⟩))) (by first | exact Le.refl _ | assumption) (x := .v (.pointer (some ⟨c1, o1 + i * 4, none⟩))) ((quiet_index (by rw [hty]; rfl) (by rw [hty]; rfl) rfl rfl rfl (by omega) (by omega)).cast (by simp [SV.den])) ?_
      refine st_ ?_
      refine h_take 6 rfl (by kernel_rfl) (by kernel_rfl) (by kernel_rfl) hQp (by rw [hnt]; rfl) (allIn (by repeat (first | exact trivial | refine ⟨rfl, ?_⟩))) (by first | exact Le.refl _ | assumption) (quiet_op (by rw [hty]; first | rfl | (refine st_ ?_; rfl))) ?_; refine st_ ?_
      refine h_take 7 rfl (by kernel_rfl) (by kernel_rfl) (by kernel_rfl) hQp (by rw [hnt]; rfl) (allIn (by repeat (first | exact trivial | refine ⟨rfl, ?_⟩))) (by first | exact Le.refl _ | assumption) (x := .v (.int .i64 (p : Int))) ((quiet_load (vs := [.int .i64 (p : Int)]) (by rw [hty]; rfl) rfl (by simp [TK.agg]) hatp rfl).cast (by rfl)) ?_
      refine st_ ?_
      refine h_take 8 rfl (by kernel_rfl) (by kernel_rfl) (by kernel_rfl) hQp (by rw [hnt]; rfl) (allIn (by repeat (first | exact trivial | refine ⟨rfl, ?_⟩))) (by first | exact Le.refl _ | assumption) (x := .v (.pointer (some ⟨c2, o2 + p * 3, none⟩))) ((quiet_index (by rw [hty]; rfl) (by rw [hty]; rfl) rfl rfl rfl (by omega) (by omega)).cast (by simp [SV.den])) ?_
      refine st_ ?_
      refine h_take 9 rfl (by kernel_rfl) (by kernel_rfl) (by kernel_rfl) hQp (by rw [hnt]; rfl) (allIn (by repeat (first | exact trivial | refine ⟨rfl, ?_⟩))) (by first | exact Le.refl _ | assumption) (x := .a [.v (.int .i64 s.vals[p].k), .v (.int .i64 s.vals[p].n), .v (.slice asv s.vals[p].l.length csv)]) ((quiet_load (by rw [hty]; rfl) rfl (fun q => by cases q) hatv rfl).cast (by simp only [ldV, SV.den, dens]; rfl)) ?_
      refine st_ ?_
      refine h_one 10 rfl (by kernel_rfl) ?_
      refine rn_ ?_; intros
      refine h_hs (allIn (by repeat (first | exact trivial | refine ⟨rfl, ?_⟩))) (by first | exact Le.refl _ | assumption) ?_
      refine h_one 11 rfl (by kernel_rfl) ?_
      refine rn_ ?_; intros
      refine h_hs (allIn (by repeat (first | exact trivial | refine ⟨rfl, ?_⟩))) (by first | exact Le.refl _ | assumption) ?_
      refine h_end (by kernel_rfl) ?_
      rename_i b6
      refine go_keep [4, 5, 6, 7, 8, 13, 14] [0, 1, 2, 3, 4] ?_
      refine st_ ?_
      refine rn_ ?_; intros
      rename_i b7
      refine go_litrow 5 (n := 0) (size := 4) rfl (by omega) rfl (by omega) ?_
      refine st_ ?_
      refine go_append_any 5 (by rw [hnt]; rfl) (by rw [hty]; rfl) (by rw [hty]; rfl) (by decide) rfl rfl rfl (by omega) rfl (hsrc.imp id fun f => f _ _ rfl) (Rp.L_len hcs) (Rp.L_one hcs) (by omega) (by simp only []; omega) ?_
      intro v1
      refine go_rowE2 5 rfl ?_
      simp only [Nat.zero_add, List.nil_append, dens]
      rintro adp capp rfl hcp hposp
      have hcl := Rp.L_len hcs
      have hr4 : rPo.size = 4 := rfl
      rw [hr4] at hcl
      obtain ⟨g, rfl⟩ : ∃ g, adp = some ⟨g, 0, none⟩ := by
        rcases hposp with ⟨h0, _⟩ | h0
        · rw [h0] at hcl; simp at hcl; omega
        · exact h0
      obtain ⟨cc, hc1, slq, rfl, hrp, hbp2, h642⟩ := Rp.L_get hcs hi
      rw [hr4] at hc1
      obtain ⟨hd1, htk, hm4⟩ := cut4 hc1
      refine rn_ ?_; intros
      refine go_q (by rw [hnt]; rfl) (quiet_index (by rw [hty]; rfl) (by rw [hty]; rfl) rfl rfl rfl (by omega) (by omega)) ?_
      refine rn_ ?_; intros
      refine go_q (v := .int .i64 (p : Int)) (by rw [hnt]; rfl) ((quiet_loadR (k := 5) (by rw [hty]; rfl) rfl (by simp [TK.agg]) rfl (by simp; omega)).cast (by simp only [ldV, Nat.zero_add, Int.toNat_natCast]; rw [hd1, hpe]; rfl)) ?_
      refine rn_ ?_; intros
      rw [wr (n := (p : Int) + 1) (by omega) (by omega)]
      refine go_q (by rw [hnt]; rfl) (quiet_index (by rw [hty]; rfl) (by rw [hty]; rfl) rfl rfl rfl (by omega) (by omega)) ?_
      refine rn_ ?_; intros
      have hlay : lay cs (i * 4 + 3) (dens [.v (.int .i64 ((p : Int) + 1))]) = some (cs.take (i * 4) ++ [.int .i64 s.ps[i].nm.k, .int .i64 s.ps[i].nm.n, slq, .int .i64 ((p : Int) + 1)] ++ cs.drop (i * 4 + 4)) := by
        simp only [dens, SV.den]
        rw [lay_put (by simp; omega), htk]
        simp
      refine go_storeR 5 (by rw [hnt]; rfl) (by rw [hty]; rfl) rfl rfl rfl rfl rfl rfl hlay ?_
      refine rn_ ?_; intros
      have hMs : rPo.L G (s.ps.set i ⟨s.ps[i].nm, (p : Int) + 1⟩) (cs.take (i * 4) ++ [.int .i64 s.ps[i].nm.k, .int .i64 s.ps[i].nm.n, slq, .int .i64 ((p : Int) + 1)] ++ cs.drop (i * 4 + 4)) :=
        Rp.L_set (r := rPo) hcs ⟨slq, rfl, hrp, hbp2, by simp only [isI64]; omega⟩ hi
      generalize cs.take (i * 4) ++ [.int .i64 s.ps[i].nm.k, .int .i64 s.ps[i].nm.n, slq, .int .i64 ((p : Int) + 1)] ++ cs.drop (i * 4 + 4) = zs at *
      refine go_pubL rPo 5 rfl (by omega) (ts := s.ps.set i ⟨s.ps[i].nm, (p : Int) + 1⟩) (by simp) (by omega) hMs ?_
      intro G6 ad6 cap6 (hle6 : Le G G6) he6 hS6
      have e3 : (s.ps.set i ⟨s.ps[i].nm, (p : Int) + 1⟩).length = s.ps.length := List.length_set
      rw [e3] at he6 hS6
      rw [← he6] at hS6
      refine go_keep [4, 6, 7, 8, 14] [0, 2, 3, 4] ?_
      refine st_ ?_
      refine x_held [(0, b0, .c 44 [.v (.slice (some ⟨c2, o2, none⟩) s.vals.length cap1), .v (.slice (some ⟨g, 0, none⟩) s.ps.length capp)]), (4, b6, .c 28 [.v (.int .i64 s.vals[p].k), .v (.int .i64 s.vals[p].n), .v (.slice asv s.vals[p].l.length csv)])] rfl (by rw [hP]; kernel_rfl) rfl rfl rfl ?_; refine st_ ?_
      refine h_take 0 rfl (by kernel_rfl) (by kernel_rfl) (by kernel_rfl) hQp (by rw [hnt]; rfl) (allIn (by repeat (first | exact trivial | refine ⟨rfl, ?_⟩))) (by first | exact Le.refl _ | assumption) (quiet_op (by rw [hty]; first | rfl | (refine st_ ?_; rfl))) ?_; refine st_ ?_
      refine h_take 1 rfl (by kernel_rfl) (by kernel_rfl) (by kernel_rfl) hQp (by rw [hnt]; rfl) (allIn (by repeat (first | exact trivial | refine ⟨rfl, ?_⟩))) (by first | exact Le.refl _ | assumption) (quiet_op (by rw [hty]; first | rfl | (refine st_ ?_; rfl))) ?_; refine st_ ?_
      refine h_one 2 rfl (by kernel_rfl) ?_
      refine rn_ ?_; intros
      refine h_hs (allIn (by repeat (first | exact trivial | refine ⟨rfl, ?_⟩))) (by first | exact Le.refl _ | assumption) ?_
      refine h_one 3 rfl (by kernel_rfl) ?_
      refine rn_ ?_; intros
      refine h_hs (allIn (by repeat (first | exact trivial | refine ⟨rfl, ?_⟩))) (by first | exact Le.refl _ | assumption) ?_
      refine h_one 4 rfl (by kernel_rfl) ?_
      refine rn_ ?_; intros
      refine h_hs (allIn (by repeat (first | exact trivial | refine ⟨rfl, ?_⟩))) (by first | exact Le.refl _ | assumption) ?_
      refine h_end (by kernel_rfl) ?_
      refine rn_ ?_; intros
      refine x_retc rfl hQ hmb rfl (by rw [hty]; simp only [so, sq, zy, zz, tyE, SO', SQ', opQ, opStore, opAlloc, ev, putS, dOk, cv, SV.cs, SV.one, SV.bool?, eqB, Value.oneCell', ldOwn, binInt, binConst, binBool, binStr, isC, TK.agg, rv, rv1, ldV, resOne, resV, Nat.reduceAdd, Nat.reduceMul, Nat.reduceSub, Nat.reduceLT, Nat.reduceLeDiff, Nat.reduceEqDiff, Nat.reduceBEq, reduceIte, reduceCtorEq, eq_self]; try rfl) rfl ?_; simp only [SV.den, resV, dens]
      rw [hcs0]
      exact ⟨_, _, _, rfl, ⟨Rp.S_mono hle6 hs.v, hS6⟩, VT.rep_mono hle6 hrv, hbv, hc⟩
    · have e : castP s ⟨th, 2, arg, res, fr, to, dn⟩ = (s, noneV, false) := by rw [hcs0, if_pos (by simp at hlt; omega)]
      refine rn_ ?_; intros
      refine x_held [(0, b0, .c 44 [.v (.slice ad1 s.vals.length cap1), .v (.slice (some ⟨c1, o1, none⟩) s.ps.length cap2)]), (5, b5, .c 28 [.v (.int .i64 0), .v (.int .i64 0), .v (.slice none 0 0)])] rfl (by rw [hP]; kernel_rfl) rfl rfl rfl ?_; refine st_ ?_
      refine h_take 0 rfl (by kernel_rfl) (by kernel_rfl) (by kernel_rfl) hQp (by rw [hnt]; rfl) (allIn (by repeat (first | exact trivial | refine ⟨rfl, ?_⟩))) (by first | exact Le.refl _ | assumption) (quiet_op (by rw [hty]; first | rfl | (refine st_ ?_; rfl))) ?_; refine st_ ?_
      refine h_take 1 rfl (by kernel_rfl) (by kernel_rfl) (by kernel_rfl) hQp (by rw [hnt]; rfl) (allIn (by repeat (first | exact trivial | refine ⟨rfl, ?_⟩))) (by first | exact Le.refl _ | assumption) (quiet_op (by rw [hty]; first | rfl | (refine st_ ?_; rfl))) ?_; refine st_ ?_
      refine h_one 2 rfl (by kernel_rfl) ?_
      refine rn_ ?_; intros
      refine h_hs (allIn (by repeat (first | exact trivial | refine ⟨rfl, ?_⟩))) (by first | exact Le.refl _ | assumption) ?_
      refine h_one 3 rfl (by kernel_rfl) ?_
      refine rn_ ?_; intros
      refine h_hs (allIn (by repeat (first | exact trivial | refine ⟨rfl, ?_⟩))) (by first | exact Le.refl _ | assumption) ?_
      refine h_one 4 rfl (by kernel_rfl) ?_
      refine rn_ ?_; intros
      refine h_hs (allIn (by repeat (first | exact trivial | refine ⟨rfl, ?_⟩))) (by first | exact Le.refl _ | assumption) ?_
      refine h_end (by kernel_rfl) ?_
      refine rn_ ?_; intros
      refine x_retc rfl hQ hmb rfl (by rw [hty]; simp only [so, sq, zy, zz, tyE, SO', SQ', opQ, opStore, opAlloc, ev, putS, dOk, cv, SV.cs, SV.one, SV.bool?, eqB, Value.oneCell', ldOwn, binInt, binConst, binBool, binStr, isC, TK.agg, rv, rv1, ldV, resOne, resV, Nat.reduceAdd, Nat.reduceMul, Nat.reduceSub, Nat.reduceLT, Nat.reduceLeDiff, Nat.reduceEqDiff, Nat.reduceBEq, reduceIte, reduceCtorEq, eq_self]; try rfl) rfl ?_; simp only [SV.den, resV, dens]
      rw [e]
      exact ⟨_, _, _, rfl, hs, rep_leaf _ 0 0 (by simp [isI64]) (by simp [isI64]), by simp [noneV, tsz, tszL], hc⟩
end Go.Proofs.Ytpmmbjcgabnloaa
namespace Go.Proofs.Ytpmmbjcgabnloaa
set_option linter.unusedSimpArgs false
set_option linter.unusedVariables false
open Go.Sx
set_option maxHeartbeats 8000000
set_option maxRecDepth 20000
theorem rgt_cases {m : Int} {o : Op} (h : rgtO (kns m) o = true) : (m = 1 ∧ (o.kd = 0 ∨ o.kd = 1)) ∨ (m = 2 ∧ (o.kd = 0 ∨ o.kd = 1)) ∨ (m = 3 ∧ (o.kd = 0 ∨ o.kd = 1)) ∨ (m = 4 ∧ (o.kd = 0 ∨ o.kd = 1 ∨ o.kd = 2)) := by
  simp only [rgtO, Bool.and_eq_true, decide_eq_true_eq] at h
  obtain ⟨⟨⟨⟨⟨_, h1⟩, h2⟩, _⟩, _⟩, _⟩ := h
  rw [kns] at h2
  by_cases h3 : m = 1 ∨ m = 2 ∨ m = 3
  · rw [if_pos h3] at h2
    omega
  · rw [if_neg h3] at h2
    by_cases h4 : m = 4
    · rw [if_pos h4] at h2; omega
    · rw [if_neg h4] at h2; omega
theorem rgt_res {K : Int} {o : Op} (h : rgtO K o = true) : if o.dn then vld o.res = true else zer o.res = true := by
  simp only [rgtO, Bool.and_eq_true] at h
  have := h.2
  split at this
  · rename_i hd; rw [if_pos hd]; simp only [Bool.and_eq_true] at this; exact this.1
  · rename_i hd; rw [if_neg hd]; simp only [Bool.and_eq_true] at this; exact this.1
theorem rdoes_ok (m : Int) (s : MS) (o : Op) (sv sp sa sr : Value) (G : Hp) (hs : s.rep G sv sp) (ho : o.rep G sa sr) (hl : s.vals.length ≤ 100000) (hlp : s.ps.length ≤ 100000) (hc : CapOk sv) (hwf : s.wf) (hr : rgtO (kns m) o = true) :
    Pure Try.prog 47 [.int .i64 m, .agg #[sv, sp], .agg (opL o sa sr).toArray] G (rdRet (doP m s o)) := by
  have hc1 := rgt_cases hr
  have hc2 := rgt_res hr
  obtain ⟨th, kd, arg, res, fr, to, dn⟩ := o
  simp only at hc1 hc2
  rcases hc1 with ⟨rfl, rfl | rfl⟩ | ⟨rfl, rfl | rfl⟩ | ⟨rfl, rfl | rfl⟩ | ⟨rfl, rfl | rfl | rfl⟩
  · exact does10_ok th arg res fr to dn s sv sp sa sr G hs ho hl hc
  · exact does11_ok th arg res fr to dn s sv sp sa sr G hs ho hl hc
  · exact does20_ok th arg res fr to dn s sv sp sa sr G hs ho hl hc
  · exact does21_ok th arg res fr to dn s sv sp sa sr G hs ho hl hc
  · exact does30_ok th arg res fr to dn s sv sp sa sr G hs ho hl hc
  · exact does31_ok th arg res fr to dn s sv sp sa sr G hs ho hl hc
  · exact does40_ok th arg res fr to dn s sv sp sa sr G hs ho hl hlp hc hc2
  · exact does41_ok th arg res fr to dn s sv sp sa sr G hs ho hl hc
  · exact does42_ok th arg res fr to dn s sv sp sa sr G hs ho hl hlp hc hwf
end Go.Proofs.Ytpmmbjcgabnloaa
namespace Go.Proofs.Ytpmmbjcgabnloaa
set_option linter.unusedSimpArgs false
set_option linter.unusedVariables false
open Go.Sx
set_option maxHeartbeats 8000000
set_option maxRecDepth 20000
structure Mk where
  st : Int
  th : Int
  v : VT
def rMk : Rp Mk where
  size := 5
  e G x cs := ∃ sl, cs = [.int .i64 x.st, .int .i64 x.th, .int .i64 x.v.k, .int .i64 x.v.n, sl] ∧ x.v.rep G sl ∧ tsz x.v ≤ 1048576 ∧ isI64 x.st ∧ isI64 x.th
  mono hl h := by obtain ⟨sl, h1, h2, h3⟩ := h; exact ⟨sl, h1, VT.rep_mono hl h2, h3⟩
  len h := by obtain ⟨sl, rfl, _⟩ := h; rfl
  one h u hu := by
    obtain ⟨sl, rfl, h2, _⟩ := h
    obtain ⟨_, _, rfl⟩ := VT.rep_slice h2
    simp at hu
    rcases hu with rfl | rfl | rfl | rfl | rfl <;> rfl
theorem rMk_at {G : Hp} {l : List Mk} {ad : Option Addr} {n cap : Nat} (h : rMk.S G l (.slice ad n cap)) {i : Nat} (hi : i < l.length) : ∃ b off sl, ad = some ⟨b, off, none⟩ ∧ At G b (off + i * 5) [.int .i64 l[i].st, .int .i64 l[i].th, .int .i64 l[i].v.k, .int .i64 l[i].v.n, sl] ∧ l[i].v.rep G sl ∧ tsz l[i].v ≤ 1048576 ∧ isI64 l[i].st ∧ isI64 l[i].th := by
  obtain ⟨b, off, cap', c, hv, hat, sl, rfl, h1, h2⟩ := Rp.S_get h hi
  cases hv
  exact ⟨b, off, sl, rfl, by simpa [rMk] using hat, h1, h2⟩
theorem kEq (k n : Int) (l : List VT) : (VT.mk k n l).k = k := rfl
theorem nEq (k n : Int) (l : List VT) : (VT.mk k n l).n = n := rfl
theorem lEq (k n : Int) (l : List VT) : (VT.mk k n l).l = l := rfl
def sdP (v : VT) : Option (Int × VT) := match v.l with
  | [a, b] => if v.k = 3 ∧ vld v = true ∧ a.k = 2 ∧ 0 ≤ a.n then some (a.n, b) else none
  | _ => none
theorem sd_no {v : VT} (h : v.k = 3 → vld v = true → False) : sdP v = none := by
  rw [sdP]
  split
  · rw [if_neg]; rintro ⟨h1, h2, _⟩; exact h h1 h2
  · rfl
theorem sd_pair {v : VT} (hk : v.k = 3) (hv : vld v = true) : ∃ a b, v.l = [a, b] ∧ sdP v = if a.k = 2 ∧ 0 ≤ a.n then some (a.n, b) else none := by
  have h2 := vld_pair hv (by rw [hk]; rfl)
  obtain ⟨a, b, hl⟩ : ∃ a b, v.l = [a, b] := by
    rcases hl : v.l with _ | ⟨a, _ | ⟨b, _ | _⟩⟩ <;> rw [hl] at h2 <;> simp at h2
    exact ⟨a, b, rfl⟩
  refine ⟨a, b, hl, ?_⟩
  rw [sdP, hl]
  simp only
  by_cases h : a.k = 2 ∧ 0 ≤ a.n
  · rw [if_pos h, if_pos ⟨hk, hv, h⟩]
  · rw [if_neg h, if_neg]; rintro ⟨_, _, h'⟩; exact h h'
def dntOp (x : Mk) (n : Int) (y : VT) : Op := if n % 2 = 1 then ⟨x.th, n / 2, noneV, y, 0, x.st, true⟩ else ⟨x.th, n / 2, y, noneV, x.st, 0, false⟩
def dnRet (x : Mk) (v : Value) (G : Hp) : Prop := match sdP x.v with
  | none => v = .tuple #[.agg #[.int .i64 0, .int .i64 0, .int .i64 0, .int .i64 0, .slice none 0 0, .int .i64 0, .int .i64 0, .slice none 0 0, .int .i64 0, .int .i64 0, .bool false, .bool false], .bool false]
  | some (n, y) => ∃ sa sr, v = .tuple #[.agg (opL (dntOp x n y) sa sr ++ [Value.bool (n % 2 == 1)]).toArray, .bool true] ∧ (dntOp x n y).rep G sa sr
theorem tmod_nn {n : Int} (h : 0 ≤ n) : n.tmod 2 = n % 2 := by rw [Int.tmod_eq_emod_of_nonneg h]
theorem tdiv_nn {n : Int} (h : 0 ≤ n) : n.tdiv 2 = n / 2 := by rw [Int.tdiv_eq_ediv_of_nonneg h]
theorem quo2 {n : Int} (h : 0 ≤ n) (h2 : n ≤ 9223372036854775807) : binConst .quo .i64 .i64 n 2 = some (.int .i64 (n / 2)) := by
  simp only [binConst]
  rw [if_pos trivial, if_neg (by decide), tdiv_nn h, wr (by omega) (by omega)]
theorem denoted_ok (x : Mk) (sl : Value) (G : Hp) (hx : x.v.rep G sl) (hb : tsz x.v ≤ 1048576) (hst : isI64 x.st) (hth : isI64 x.th) :
    Pure Try.prog 37 [.agg #[.int .i64 x.st, .int .i64 x.th, .int .i64 x.v.k, .int .i64 x.v.n, sl]] G (dnRet x) := by
  obtain ⟨st, th, v⟩ := x
  simp only at hx hb hst hth
  obtain ⟨ad, cap, rfl⟩ := VT.rep_slice hx
  refine enterX ty tyok Try.func37 rfl Try.ntmps37 [.a [.v (.int .i64 st), .v (.int .i64 th), .v (.int .i64 v.k), .v (.int .i64 v.n), .v (.slice ad v.l.length cap)]] (by simp) ?_
  intro C hP hQ hnt hty hmb hmh hro; have hQp := qp_body hQ; refine st_ ?_
  refine rn_ ?_; intros
  rename_i b0 b1
  have hnone : sdP v = none → dnRet ⟨st, th, v⟩ (.tuple #[.agg #[.int .i64 0, .int .i64 0, .int .i64 0, .int .i64 0, .slice none 0 0, .int .i64 0, .int .i64 0, .slice none 0 0, .int .i64 0, .int .i64 0, .bool false, .bool false], .bool false]) G := fun h => by
    rw [dnRet]
    simp only [h]
  by_cases hk : v.k = 3
  rotate_left
  · have h1 : (v.k != 3) = true := by rw [bne_iff_ne]; exact hk
    simp only [h1]
    repeat (first | (refine go_gsplit rfl rfl (fun hc => absurd hc (by first | decide +kernel | (simp; first | done | fail))) (fun _ => ?_); refine st_ ?_; (refine rn_ ?_; intros)) | (refine go_gsplit rfl rfl (fun _ => ?_) (fun hc => absurd hc (by first | decide +kernel | (simp; first | done | fail))); refine st_ ?_; (refine rn_ ?_; intros)) | (refine x_split rfl rfl rfl (fun hc => absurd hc (by first | decide +kernel | (simp; first | done | fail))) (fun _ => ?_); refine st_ ?_; (refine ru_ ?_; intros)) | (refine x_split rfl rfl rfl (fun _ => ?_) (fun hc => absurd hc (by first | decide +kernel | (simp; first | done | fail))); refine st_ ?_; (refine ru_ ?_; intros)))
    repeat (refine go_gundef rfl (by rw [hnt]; rfl) rfl ?_; (refine st_ ?_; (refine rn_ ?_; intros)))
    refine rn_ ?_; intros
    refine x_retc rfl hQ hmb rfl (by rw [hty]; simp only [so, sq, zy, zz, tyE, SO', SQ', opQ, opStore, opAlloc, ev, putS, dOk, cv, SV.cs, SV.one, SV.bool?, eqB, Value.oneCell', ldOwn, binInt, binConst, binBool, binStr, isC, TK.agg, rv, rv1, ldV, resOne, resV, Nat.reduceAdd, Nat.reduceMul, Nat.reduceSub, Nat.reduceLT, Nat.reduceLeDiff, Nat.reduceEqDiff, Nat.reduceBEq, reduceIte, reduceCtorEq, eq_self]; try rfl) rfl ?_; simp only [SV.den, resV, dens]
    exact hnone (sd_no fun h _ => hk h)
  have h1 : (v.k != 3) = false := by rw [bne_eq_false_iff_eq]; exact hk
  simp only [h1]
  repeat (first | (refine go_gsplit rfl rfl (fun hc => absurd hc (by first | decide +kernel | (simp; first | done | fail))) (fun _ => ?_); refine st_ ?_; (refine rn_ ?_; intros)) | (refine go_gsplit rfl rfl (fun _ => ?_) (fun hc => absurd hc (by first | decide +kernel | (simp; first | done | fail))); refine st_ ?_; (refine rn_ ?_; intros)) | (refine x_split rfl rfl rfl (fun hc => absurd hc (by first | decide +kernel | (simp; first | done | fail))) (fun _ => ?_); refine st_ ?_; (refine ru_ ?_; intros)) | (refine x_split rfl rfl rfl (fun _ => ?_) (fun hc => absurd hc (by first | decide +kernel | (simp; first | done | fail))); refine st_ ?_; (refine ru_ ?_; intros)))
  refine go_callf (by rw [hnt]; rfl) (by rw [hP]; kernel_rfl) rfl (hP ▸ check_ok v _ G hx) ?_; refine rn_ ?_; intros
  rw [chk_ne0]
  cases hv : vld v
  · (refine x_split rfl rfl rfl (fun _ => ?_) (fun hc => absurd hc (by first | decide +kernel | (simp; first | done | fail))); refine st_ ?_; (refine ru_ ?_; intros))
    refine rn_ ?_; intros
    refine x_retc rfl hQ hmb rfl (by rw [hty]; simp only [so, sq, zy, zz, tyE, SO', SQ', opQ, opStore, opAlloc, ev, putS, dOk, cv, SV.cs, SV.one, SV.bool?, eqB, Value.oneCell', ldOwn, binInt, binConst, binBool, binStr, isC, TK.agg, rv, rv1, ldV, resOne, resV, Nat.reduceAdd, Nat.reduceMul, Nat.reduceSub, Nat.reduceLT, Nat.reduceLeDiff, Nat.reduceEqDiff, Nat.reduceBEq, reduceIte, reduceCtorEq, eq_self]; try rfl) rfl ?_; simp only [SV.den, resV, dens]
    exact hnone (sd_no fun _ h => by rw [hv] at h; cases h)
  (refine x_split rfl rfl rfl (fun hc => absurd hc (by first | decide +kernel | (simp; first | done | fail))) (fun _ => ?_); refine st_ ?_; (refine ru_ ?_; intros))
  refine rn_ ?_; intros
  obtain ⟨a, y, hl, hsd⟩ := sd_pair hk hv
  obtain ⟨k, n, l⟩ := v
  simp only [kEq, nEq, lEq] at *
  subst hl
  have hxr := hx
  rw [rep_iff] at hx
  obtain ⟨_, _, _, ad', cap', hc, hr⟩ := hx
  cases hc
  rcases hr with hr | ⟨b, off, cs, rfl, hat, hrV⟩
  · cases hr
  obtain ⟨ada, capa, hata, hra⟩ := At_get hat hrV (i := 0) (by simp)
  obtain ⟨ady, capy, haty, hry⟩ := At_get hat hrV (i := 1) (by simp)
  simp only [List.getElem_cons_zero, List.getElem_cons_succ, Nat.zero_mul, Nat.one_mul, Nat.add_zero] at hata hra haty hry
  have hby : tsz y ≤ 1048576 := by simp only [tsz, tszL] at hb; omega
  simp only [List.length_cons, List.length_nil, Nat.zero_add, Nat.reduceAdd]
  refine go_q (by rw [hnt]; rfl) (quiet_index (by rw [hty]; rfl) (by rw [hty]; rfl) rfl rfl rfl (by omega) (by omega)) ?_
  refine rn_ ?_; intros
  refine go_q (v := .agg #[.int .i64 a.k, .int .i64 a.n, .slice ada a.l.length capa]) (by rw [hnt]; rfl) ((quiet_load (by rw [hty]; rfl) rfl (fun q => by cases q) (by simpa using hata) rfl).cast (by simp only [ldV]; rfl)) ?_
  refine rn_ ?_; intros
  rename_i b2
  by_cases hak : a.k = 2
  rotate_left
  · have h1 : (a.k != 2) = true := by rw [bne_iff_ne]; exact hak
    simp only [h1]
    repeat (first | (refine go_gsplit rfl rfl (fun hc => absurd hc (by first | decide +kernel | (simp; first | done | fail))) (fun _ => ?_); refine st_ ?_; (refine rn_ ?_; intros)) | (refine go_gsplit rfl rfl (fun _ => ?_) (fun hc => absurd hc (by first | decide +kernel | (simp; first | done | fail))); refine st_ ?_; (refine rn_ ?_; intros)) | (refine x_split rfl rfl rfl (fun hc => absurd hc (by first | decide +kernel | (simp; first | done | fail))) (fun _ => ?_); refine st_ ?_; (refine ru_ ?_; intros)) | (refine x_split rfl rfl rfl (fun _ => ?_) (fun hc => absurd hc (by first | decide +kernel | (simp; first | done | fail))); refine st_ ?_; (refine ru_ ?_; intros)))
    repeat (refine go_gundef rfl (by rw [hnt]; rfl) rfl ?_; (refine st_ ?_; (refine rn_ ?_; intros)))
    refine rn_ ?_; intros
    refine x_retc rfl hQ hmb rfl (by rw [hty]; simp only [so, sq, zy, zz, tyE, SO', SQ', opQ, opStore, opAlloc, ev, putS, dOk, cv, SV.cs, SV.one, SV.bool?, eqB, Value.oneCell', ldOwn, binInt, binConst, binBool, binStr, isC, TK.agg, rv, rv1, ldV, resOne, resV, Nat.reduceAdd, Nat.reduceMul, Nat.reduceSub, Nat.reduceLT, Nat.reduceLeDiff, Nat.reduceEqDiff, Nat.reduceBEq, reduceIte, reduceCtorEq, eq_self]; try rfl) rfl ?_; simp only [SV.den, resV, dens]
    exact hnone (by rw [hsd, if_neg (fun h => hak h.1)])
  have h1 : (a.k != 2) = false := by rw [bne_eq_false_iff_eq]; exact hak
  simp only [h1]
  repeat (first | (refine go_gsplit rfl rfl (fun hc => absurd hc (by first | decide +kernel | (simp; first | done | fail))) (fun _ => ?_); refine st_ ?_; (refine rn_ ?_; intros)) | (refine go_gsplit rfl rfl (fun _ => ?_) (fun hc => absurd hc (by first | decide +kernel | (simp; first | done | fail))); refine st_ ?_; (refine rn_ ?_; intros)) | (refine x_split rfl rfl rfl (fun hc => absurd hc (by first | decide +kernel | (simp; first | done | fail))) (fun _ => ?_); refine st_ ?_; (refine ru_ ?_; intros)) | (refine x_split rfl rfl rfl (fun _ => ?_) (fun hc => absurd hc (by first | decide +kernel | (simp; first | done | fail))); refine st_ ?_; (refine ru_ ?_; intros)))
  by_cases han : 0 ≤ a.n
  rotate_left
  · (refine x_split rfl rfl rfl (fun _ => ?_) (fun hc => absurd hc (by simp; omega)); refine st_ ?_; (refine ru_ ?_; intros))
    refine rn_ ?_; intros
    refine x_retc rfl hQ hmb rfl (by rw [hty]; simp only [so, sq, zy, zz, tyE, SO', SQ', opQ, opStore, opAlloc, ev, putS, dOk, cv, SV.cs, SV.one, SV.bool?, eqB, Value.oneCell', ldOwn, binInt, binConst, binBool, binStr, isC, TK.agg, rv, rv1, ldV, resOne, resV, Nat.reduceAdd, Nat.reduceMul, Nat.reduceSub, Nat.reduceLT, Nat.reduceLeDiff, Nat.reduceEqDiff, Nat.reduceBEq, reduceIte, reduceCtorEq, eq_self]; try rfl) rfl ?_; simp only [SV.den, resV, dens]
    exact hnone (by rw [hsd, if_neg (fun h => han h.2)])
  (refine x_split rfl rfl rfl (fun hc => absurd hc (by simpa using han)) (fun _ => ?_); simp only [so, sq, zy, zz, tyE, SO', SQ', opQ, opStore, opAlloc, ev, putS, dOk, cv, SV.cs, SV.one, SV.bool?, eqB, Value.oneCell', ldOwn, binInt, binConst, binBool, binStr, isC, TK.agg, rv, rv1, ldV, resOne, resV, Nat.reduceAdd, Nat.reduceMul, Nat.reduceSub, Nat.reduceLT, Nat.reduceLeDiff, Nat.reduceEqDiff, Nat.reduceBEq, Int.reduceEq, reduceIte, reduceCtorEq, eq_self]; (repeat (first | refine x_seq rfl ?_ | refine go_ops ?_ | refine go_blk ?_ | refine x_skip rfl ?_ | refine x_blk rfl rfl ?_ | refine x_exit rfl rfl rfl ?_ | refine x_ift rfl rfl rfl ?_ | refine x_iff rfl rfl rfl ?_ | refine x_label rfl ?_ | ((first | refine x_reg rfl rfl ?_ | (refine go_newx hty hnt hmh rfl rfl ?_; intro _)); refine runo0 400 hty hnt hmh ?_; simp only [so, sq, zy, zz, tyE, SO', SQ', opQ, opStore, opAlloc, ev, putS, dOk, cv, SV.cs, SV.one, SV.bool?, eqB, Value.oneCell', ldOwn, binInt, binConst, binBool, binStr, isC, TK.agg, rv, rv1, ldV, resOne, resV, Nat.reduceAdd, Nat.reduceMul, Nat.reduceSub, Nat.reduceLT, Nat.reduceLeDiff, Nat.reduceEqDiff, Nat.reduceBEq, Int.reduceEq, reduceIte, reduceCtorEq, eq_self]))))
  rename_i b3
  rw [if_pos ⟨hak, han⟩] at hsd
  have hQ2 : dnRet ⟨st, th, .mk k n [a, y]⟩ = fun v G => ∃ sa sr, v = .tuple #[.agg (opL (dntOp ⟨st, th, .mk k n [a, y]⟩ a.n y) sa sr ++ [Value.bool (a.n % 2 == 1)]).toArray, .bool true] ∧ (dntOp ⟨st, th, .mk k n [a, y]⟩ a.n y).rep G sa sr := by
    funext v G
    rw [dnRet]
    simp only [hsd]
  rw [hQ2] at hQ
  clear hQ2 hnone
  have h64 : isI64 a.n := (VT.rep_k hra).2
  simp only [isI64] at h64 hst hth
  simp only [tmod_nn han]
  refine go_keep [1, 2, 4, 5] [0, 1, 2, 3] ?_
  refine st_ ?_
  refine rn_ ?_; intros
  refine x_held [(0, b0, .c 30 [.v (.int .i64 st), .v (.int .i64 th), .v (.int .i64 k), .v (.int .i64 n), .v (.slice (some ⟨b, off, none⟩) 2 cap)]), (2, b2, .c 28 [.v (.int .i64 a.k), .v (.int .i64 a.n), .v (.slice ada a.l.length capa)])] rfl (by rw [hP]; kernel_rfl) rfl rfl rfl ?_; refine st_ ?_
  refine h_take 0 rfl (by kernel_rfl) (by kernel_rfl) (by kernel_rfl) hQp (by rw [hnt]; rfl) (allIn (by repeat (first | exact trivial | refine ⟨rfl, ?_⟩))) (by first | exact Le.refl _ | assumption) (quiet_op (by rw [hty]; first | rfl | (refine st_ ?_; rfl))) ?_; refine st_ ?_
  refine h_take 1 rfl (by kernel_rfl) (by kernel_rfl) (by kernel_rfl) hQp (by rw [hnt]; rfl) (allIn (by repeat (first | exact trivial | refine ⟨rfl, ?_⟩))) (by first | exact Le.refl _ | assumption) (quiet_op (by rw [hty]; first | rfl | (refine st_ ?_; rfl))) ?_; refine st_ ?_
  refine h_take 2 rfl (by kernel_rfl) (by kernel_rfl) (by kernel_rfl) hQp (by rw [hnt]; rfl) (allIn (by repeat (first | exact trivial | refine ⟨rfl, ?_⟩))) (by first | exact Le.refl _ | assumption) (quiet_op (by rw [hty]; first | rfl | (refine st_ ?_; rfl))) ?_; refine st_ ?_
  refine h_take 3 rfl (by kernel_rfl) (by kernel_rfl) (by kernel_rfl) hQp (by rw [hnt]; rfl) (allIn (by repeat (first | exact trivial | refine ⟨rfl, ?_⟩))) (by first | exact Le.refl _ | assumption) (quiet_op (by rw [hty]; first | rfl | (refine st_ ?_; rfl))) ?_; refine st_ ?_
  refine h_take 4 rfl (by kernel_rfl) (by kernel_rfl) (by kernel_rfl) hQp (by rw [hnt]; rfl) (allIn (by repeat (first | exact trivial | refine ⟨rfl, ?_⟩))) (by first | exact Le.refl _ | assumption) (x := .v (.int .i64 (a.n / 2))) ((quiet_bin rfl rfl rfl rfl (quo2 han (by omega))).cast rfl) ?_
  refine st_ ?_
  refine h_take 5 rfl (by kernel_rfl) (by kernel_rfl) (by kernel_rfl) hQp (by rw [hnt]; rfl) (allIn (by repeat (first | exact trivial | refine ⟨rfl, ?_⟩))) (by first | exact Le.refl _ | assumption) (quiet_op (by rw [hty]; first | rfl | (refine st_ ?_; rfl))) ?_; refine st_ ?_
  refine h_take 6 rfl (by kernel_rfl) (by kernel_rfl) (by kernel_rfl) hQp (by rw [hnt]; rfl) (allIn (by repeat (first | exact trivial | refine ⟨rfl, ?_⟩))) (by first | exact Le.refl _ | assumption) (quiet_op (by rw [hty]; first | rfl | (refine st_ ?_; rfl))) ?_; refine st_ ?_
  refine h_one 7 rfl (by kernel_rfl) ?_
  refine rn_ ?_; intros
  refine h_hs (allIn (by repeat (first | exact trivial | refine ⟨rfl, ?_⟩))) (by first | exact Le.refl _ | assumption) ?_
  refine h_take 8 rfl (by kernel_rfl) (by kernel_rfl) (by kernel_rfl) hQp (by rw [hnt]; rfl) (allIn (by repeat (first | exact trivial | refine ⟨rfl, ?_⟩))) (by first | exact Le.refl _ | assumption) (quiet_op (by rw [hty]; first | rfl | (refine st_ ?_; rfl))) ?_; refine st_ ?_
  refine h_take 9 rfl (by kernel_rfl) (by kernel_rfl) (by kernel_rfl) hQp (by rw [hnt]; rfl) (allIn (by repeat (first | exact trivial | refine ⟨rfl, ?_⟩))) (by first | exact Le.refl _ | assumption) (quiet_op (by rw [hty]; first | rfl | (refine st_ ?_; rfl))) ?_; refine st_ ?_
  refine h_one 10 rfl (by kernel_rfl) ?_
  refine rn_ ?_; intros
  refine h_hs (allIn (by repeat (first | exact trivial | refine ⟨rfl, ?_⟩))) (by first | exact Le.refl _ | assumption) ?_
  refine h_end (by kernel_rfl) ?_
  refine rn_ ?_; intros
  have hsy : sml y = true := by
    have h2 := vld_sml hv
    simp only [sml, decide_eq_true_eq] at h2 ⊢
    rw [cnt_eq _ 0 (by omega)] at h2 ⊢
    simp only [tsz, tszL] at h2
    omega
  cases hodd : a.n % 2 == 1
  · have ho : ¬ a.n % 2 = 1 := by simpa using hodd
    rw [hodd] at hQ
    (refine x_split rfl rfl rfl (fun hc => absurd hc (by first | decide +kernel | (simp; first | done | fail))) (fun _ => ?_); refine st_ ?_; (refine ru_ ?_; intros))
    refine rn_ ?_; intros
    refine x_held [(0, b0, .c 30 [.v (.int .i64 st), .v (.int .i64 th), .v (.int .i64 k), .v (.int .i64 n), .v (.slice (some ⟨b, off, none⟩) 2 cap)])] rfl (by rw [hP]; kernel_rfl) rfl rfl rfl ?_; refine st_ ?_
    refine h_take 0 rfl (by kernel_rfl) (by kernel_rfl) (by kernel_rfl) hQp (by rw [hnt]; rfl) (allIn (by repeat (first | exact trivial | refine ⟨rfl, ?_⟩))) (by first | exact Le.refl _ | assumption) (quiet_op (by rw [hty]; first | rfl | (refine st_ ?_; rfl))) ?_; refine st_ ?_
    refine h_take 1 rfl (by kernel_rfl) (by kernel_rfl) (by kernel_rfl) hQp (by rw [hnt]; rfl) (allIn (by repeat (first | exact trivial | refine ⟨rfl, ?_⟩))) (by first | exact Le.refl _ | assumption) (quiet_op (by rw [hty]; first | rfl | (refine st_ ?_; rfl))) ?_; refine st_ ?_
    refine h_take 2 rfl (by kernel_rfl) (by kernel_rfl) (by kernel_rfl) hQp (by rw [hnt]; rfl) (allIn (by repeat (first | exact trivial | refine ⟨rfl, ?_⟩))) (by first | exact Le.refl _ | assumption) (quiet_op (by rw [hty]; first | rfl | (refine st_ ?_; rfl))) ?_; refine st_ ?_
    refine h_take 3 rfl (by kernel_rfl) (by kernel_rfl) (by kernel_rfl) hQp (by rw [hnt]; rfl) (allIn (by repeat (first | exact trivial | refine ⟨rfl, ?_⟩))) (by first | exact Le.refl _ | assumption) (x := .v (.pointer (some ⟨b, off + 3, none⟩))) ((quiet_index (k := .i64) (n := 1) (by rw [hty]; rfl) (by rw [hty]; rfl) rfl rfl rfl (by omega) (by omega)).cast (by simp [SV.den])) ?_
    refine st_ ?_
    refine h_take 4 rfl (by kernel_rfl) (by kernel_rfl) (by kernel_rfl) hQp (by rw [hnt]; rfl) (allIn (by repeat (first | exact trivial | refine ⟨rfl, ?_⟩))) (by first | exact Le.refl _ | assumption) (x := .a [.v (.int .i64 y.k), .v (.int .i64 y.n), .v (.slice ady y.l.length capy)]) ((quiet_load (by rw [hty]; rfl) rfl (fun q => by cases q) haty rfl).cast (by simp only [ldV, SV.den, dens]; rfl)) ?_
    refine st_ ?_
    refine h_take 6 rfl (by kernel_rfl) (by kernel_rfl) (by kernel_rfl) hQp (by rw [hnt]; rfl) (allIn (by repeat (first | exact trivial | refine ⟨rfl, ?_⟩))) (by first | exact Le.refl _ | assumption) (quiet_op (by rw [hty]; first | rfl | (refine st_ ?_; rfl))) ?_; refine st_ ?_
    refine h_take 7 rfl (by kernel_rfl) (by kernel_rfl) (by kernel_rfl) hQp (by rw [hnt]; rfl) (allIn (by repeat (first | exact trivial | refine ⟨rfl, ?_⟩))) (by first | exact Le.refl _ | assumption) (quiet_op (by rw [hty]; first | rfl | (refine st_ ?_; rfl))) ?_; refine st_ ?_
    refine h_one 5 rfl (by kernel_rfl) ?_
    refine go_call (by rw [hnt]; rfl) (by rw [hP]; kernel_rfl) rfl (hP ▸ copy_ok y _ _ hry (by omega)) ?_
    rintro v G2 (hle2 : Le G G2) hv0
    obtain ⟨_, hv0⟩ | ⟨hsm, _⟩ := hv0
    rotate_left
    · rw [hsy] at hsm; cases hsm
    obtain ⟨sl2, rfl, hr2⟩ := copied_cells hv0
    clear hv0
    obtain ⟨asl2, csl2, rfl⟩ := VT.rep_slice hr2
    refine rn_ ?_; intros
    refine h_hs (allIn (by repeat (first | exact trivial | refine ⟨rfl, ?_⟩))) (by first | exact Le.refl _ | assumption) ?_
    refine h_take 8 rfl (by kernel_rfl) (by kernel_rfl) (by kernel_rfl) hQp (by rw [hnt]; rfl) (allIn (by repeat (first | exact trivial | refine ⟨rfl, ?_⟩))) (by first | exact Le.refl _ | assumption) (quiet_op (by rw [hty]; first | rfl | (refine st_ ?_; rfl))) ?_; refine st_ ?_
    refine h_take 9 rfl (by kernel_rfl) (by kernel_rfl) (by kernel_rfl) hQp (by rw [hnt]; rfl) (allIn (by repeat (first | exact trivial | refine ⟨rfl, ?_⟩))) (by first | exact Le.refl _ | assumption) (quiet_op (by rw [hty]; first | rfl | (refine st_ ?_; rfl))) ?_; refine st_ ?_
    refine h_one 10 rfl (by kernel_rfl) ?_
    refine rn_ ?_; intros
    refine h_hs (allIn (by repeat (first | exact trivial | refine ⟨rfl, ?_⟩))) (by first | exact Le.refl _ | assumption) ?_
    refine h_take 11 rfl (by kernel_rfl) (by kernel_rfl) (by kernel_rfl) hQp (by rw [hnt]; rfl) (allIn (by repeat (first | exact trivial | refine ⟨rfl, ?_⟩))) (by first | exact Le.refl _ | assumption) (quiet_op (by rw [hty]; first | rfl | (refine st_ ?_; rfl))) ?_; refine st_ ?_
    refine h_take 12 rfl (by kernel_rfl) (by kernel_rfl) (by kernel_rfl) hQp (by rw [hnt]; rfl) (allIn (by repeat (first | exact trivial | refine ⟨rfl, ?_⟩))) (by first | exact Le.refl _ | assumption) (quiet_op (by rw [hty]; first | rfl | (refine st_ ?_; rfl))) ?_; refine st_ ?_
    refine h_one 13 rfl (by kernel_rfl) ?_
    refine rn_ ?_; intros
    refine h_hs (allIn (by repeat (first | exact trivial | refine ⟨rfl, ?_⟩))) (by first | exact Le.refl _ | assumption) ?_
    refine h_end (by kernel_rfl) ?_
    refine rn_ ?_; intros
    refine x_retc rfl hQ hmb rfl (by rw [hty]; simp only [so, sq, zy, zz, tyE, SO', SQ', opQ, opStore, opAlloc, ev, putS, dOk, cv, SV.cs, SV.one, SV.bool?, eqB, Value.oneCell', ldOwn, binInt, binConst, binBool, binStr, isC, TK.agg, rv, rv1, ldV, resOne, resV, Nat.reduceAdd, Nat.reduceMul, Nat.reduceSub, Nat.reduceLT, Nat.reduceLeDiff, Nat.reduceEqDiff, Nat.reduceBEq, reduceIte, reduceCtorEq, eq_self]; try rfl) rfl ?_; simp only [SV.den, resV, dens]
    rw [dntOp, if_neg ho]
    exact ⟨_, .slice none 0 0, rfl, ⟨by simp only [isI64]; omega, by simp only [isI64]; omega, by simp only [isI64]; omega, by simp only [isI64]; omega, hby, by simp [noneV, tsz, tszL]⟩, hr2, rep_leaf _ 0 0 (by simp [isI64]) (by simp [isI64])⟩
  · have ho : a.n % 2 = 1 := by simpa using hodd
    rw [hodd] at hQ
    (refine x_split rfl rfl rfl (fun _ => ?_) (fun hc => absurd hc (by first | decide +kernel | (simp; first | done | fail))); refine st_ ?_; (refine ru_ ?_; intros))
    refine rn_ ?_; intros
    refine x_held [(0, b0, .c 30 [.v (.int .i64 st), .v (.int .i64 th), .v (.int .i64 k), .v (.int .i64 n), .v (.slice (some ⟨b, off, none⟩) 2 cap)])] rfl (by rw [hP]; kernel_rfl) rfl rfl rfl ?_; refine st_ ?_
    refine h_take 0 rfl (by kernel_rfl) (by kernel_rfl) (by kernel_rfl) hQp (by rw [hnt]; rfl) (allIn (by repeat (first | exact trivial | refine ⟨rfl, ?_⟩))) (by first | exact Le.refl _ | assumption) (quiet_op (by rw [hty]; first | rfl | (refine st_ ?_; rfl))) ?_; refine st_ ?_
    refine h_take 1 rfl (by kernel_rfl) (by kernel_rfl) (by kernel_rfl) hQp (by rw [hnt]; rfl) (allIn (by repeat (first | exact trivial | refine ⟨rfl, ?_⟩))) (by first | exact Le.refl _ | assumption) (quiet_op (by rw [hty]; first | rfl | (refine st_ ?_; rfl))) ?_; refine st_ ?_
    refine h_take 2 rfl (by kernel_rfl) (by kernel_rfl) (by kernel_rfl) hQp (by rw [hnt]; rfl) (allIn (by repeat (first | exact trivial | refine ⟨rfl, ?_⟩))) (by first | exact Le.refl _ | assumption) (quiet_op (by rw [hty]; first | rfl | (refine st_ ?_; rfl))) ?_; refine st_ ?_
    refine h_take 3 rfl (by kernel_rfl) (by kernel_rfl) (by kernel_rfl) hQp (by rw [hnt]; rfl) (allIn (by repeat (first | exact trivial | refine ⟨rfl, ?_⟩))) (by first | exact Le.refl _ | assumption) (x := .v (.pointer (some ⟨b, off + 3, none⟩))) ((quiet_index (k := .i64) (n := 1) (by rw [hty]; rfl) (by rw [hty]; rfl) rfl rfl rfl (by omega) (by omega)).cast (by simp [SV.den])) ?_
    refine st_ ?_
    refine h_take 4 rfl (by kernel_rfl) (by kernel_rfl) (by kernel_rfl) hQp (by rw [hnt]; rfl) (allIn (by repeat (first | exact trivial | refine ⟨rfl, ?_⟩))) (by first | exact Le.refl _ | assumption) (x := .a [.v (.int .i64 y.k), .v (.int .i64 y.n), .v (.slice ady y.l.length capy)]) ((quiet_load (by rw [hty]; rfl) rfl (fun q => by cases q) haty rfl).cast (by simp only [ldV, SV.den, dens]; rfl)) ?_
    refine st_ ?_
    refine h_take 6 rfl (by kernel_rfl) (by kernel_rfl) (by kernel_rfl) hQp (by rw [hnt]; rfl) (allIn (by repeat (first | exact trivial | refine ⟨rfl, ?_⟩))) (by first | exact Le.refl _ | assumption) (quiet_op (by rw [hty]; first | rfl | (refine st_ ?_; rfl))) ?_; refine st_ ?_
    refine h_take 7 rfl (by kernel_rfl) (by kernel_rfl) (by kernel_rfl) hQp (by rw [hnt]; rfl) (allIn (by repeat (first | exact trivial | refine ⟨rfl, ?_⟩))) (by first | exact Le.refl _ | assumption) (quiet_op (by rw [hty]; first | rfl | (refine st_ ?_; rfl))) ?_; refine st_ ?_
    refine h_one 5 rfl (by kernel_rfl) ?_
    refine go_call (by rw [hnt]; rfl) (by rw [hP]; kernel_rfl) rfl (hP ▸ copy_ok y _ _ hry (by omega)) ?_
    rintro v G2 (hle2 : Le G G2) hv0
    obtain ⟨_, hv0⟩ | ⟨hsm, _⟩ := hv0
    rotate_left
    · rw [hsy] at hsm; cases hsm
    obtain ⟨sl2, rfl, hr2⟩ := copied_cells hv0
    clear hv0
    obtain ⟨asl2, csl2, rfl⟩ := VT.rep_slice hr2
    refine rn_ ?_; intros
    refine h_hs (allIn (by repeat (first | exact trivial | refine ⟨rfl, ?_⟩))) (by first | exact Le.refl _ | assumption) ?_
    refine h_take 8 rfl (by kernel_rfl) (by kernel_rfl) (by kernel_rfl) hQp (by rw [hnt]; rfl) (allIn (by repeat (first | exact trivial | refine ⟨rfl, ?_⟩))) (by first | exact Le.refl _ | assumption) (quiet_op (by rw [hty]; first | rfl | (refine st_ ?_; rfl))) ?_; refine st_ ?_
    refine h_take 9 rfl (by kernel_rfl) (by kernel_rfl) (by kernel_rfl) hQp (by rw [hnt]; rfl) (allIn (by repeat (first | exact trivial | refine ⟨rfl, ?_⟩))) (by first | exact Le.refl _ | assumption) (quiet_op (by rw [hty]; first | rfl | (refine st_ ?_; rfl))) ?_; refine st_ ?_
    refine h_one 10 rfl (by kernel_rfl) ?_
    refine rn_ ?_; intros
    refine h_hs (allIn (by repeat (first | exact trivial | refine ⟨rfl, ?_⟩))) (by first | exact Le.refl _ | assumption) ?_
    refine h_take 11 rfl (by kernel_rfl) (by kernel_rfl) (by kernel_rfl) hQp (by rw [hnt]; rfl) (allIn (by repeat (first | exact trivial | refine ⟨rfl, ?_⟩))) (by first | exact Le.refl _ | assumption) (quiet_op (by rw [hty]; first | rfl | (refine st_ ?_; rfl))) ?_; refine st_ ?_
    refine h_take 12 rfl (by kernel_rfl) (by kernel_rfl) (by kernel_rfl) hQp (by rw [hnt]; rfl) (allIn (by repeat (first | exact trivial | refine ⟨rfl, ?_⟩))) (by first | exact Le.refl _ | assumption) (quiet_op (by rw [hty]; first | rfl | (refine st_ ?_; rfl))) ?_; refine st_ ?_
    refine h_one 13 rfl (by kernel_rfl) ?_
    refine rn_ ?_; intros
    refine h_hs (allIn (by repeat (first | exact trivial | refine ⟨rfl, ?_⟩))) (by first | exact Le.refl _ | assumption) ?_
    refine h_take 14 rfl (by kernel_rfl) (by kernel_rfl) (by kernel_rfl) hQp (by rw [hnt]; rfl) (allIn (by repeat (first | exact trivial | refine ⟨rfl, ?_⟩))) (by first | exact Le.refl _ | assumption) (quiet_op (by rw [hty]; first | rfl | (refine st_ ?_; rfl))) ?_; refine st_ ?_
    refine h_take 15 rfl (by kernel_rfl) (by kernel_rfl) (by kernel_rfl) hQp (by rw [hnt]; rfl) (allIn (by repeat (first | exact trivial | refine ⟨rfl, ?_⟩))) (by first | exact Le.refl _ | assumption) (quiet_op (by rw [hty]; first | rfl | (refine st_ ?_; rfl))) ?_; refine st_ ?_
    refine h_one 16 rfl (by kernel_rfl) ?_
    refine rn_ ?_; intros
    refine h_hs (allIn (by repeat (first | exact trivial | refine ⟨rfl, ?_⟩))) (by first | exact Le.refl _ | assumption) ?_
    refine h_end (by kernel_rfl) ?_
    refine rn_ ?_; intros
    refine x_retc rfl hQ hmb rfl (by rw [hty]; simp only [so, sq, zy, zz, tyE, SO', SQ', opQ, opStore, opAlloc, ev, putS, dOk, cv, SV.cs, SV.one, SV.bool?, eqB, Value.oneCell', ldOwn, binInt, binConst, binBool, binStr, isC, TK.agg, rv, rv1, ldV, resOne, resV, Nat.reduceAdd, Nat.reduceMul, Nat.reduceSub, Nat.reduceLT, Nat.reduceLeDiff, Nat.reduceEqDiff, Nat.reduceBEq, reduceIte, reduceCtorEq, eq_self]; try rfl) rfl ?_; simp only [SV.den, resV, dens]
    rw [dntOp, if_pos ho]
    exact ⟨.slice none 0 0, _, rfl, ⟨by simp only [isI64]; omega, by simp only [isI64]; omega, by simp only [isI64]; omega, by simp only [isI64]; omega, by simp [noneV, tsz, tszL], hby⟩, rep_leaf _ 0 0 (by simp [isI64]) (by simp [isI64]), hr2⟩
end Go.Proofs.Ytpmmbjcgabnloaa
namespace Go.Proofs.Ytpmmbjcgabnloaa
set_option linter.unusedSimpArgs false
set_option linter.unusedVariables false
open Go.Sx
set_option maxHeartbeats 8000000
set_option maxRecDepth 20000
end Go.Proofs.Ytpmmbjcgabnloaa
