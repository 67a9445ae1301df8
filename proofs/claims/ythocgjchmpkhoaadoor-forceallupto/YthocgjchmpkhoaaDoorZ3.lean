/-
  A symbolic walk over the model's code: deferred closures that recover; interfaces held against nil; strings' bytes. Names no program.
-/
import Derived.Test.YthocgjchmpkhoaaDoorZ2
import Derived.WideLaws
import Derived.Scope
set_option linter.unusedSimpArgs false
set_option linter.unusedVariables false
namespace Go.Sx
set_option linter.unusedSimpArgs false
set_option linter.unusedVariables false
open Go.RowKit
section
variable {C : Ctx} {sl : List (Nat × SV)} {own : Owns} {G : Hp}
theorem iface_meths {P : Program} {T : TypeId} {fl : List (Nat × Nat × Bool)} (h : TK.fits P T fl .iface) : P.underlying T = some (.interface (P.methodsAt T)) := by
  obtain ⟨m, hm⟩ := h
  rw [hm]; simp [Program.methodsAt, hm]
theorem quiet_ineq_nil {T T' : TypeId} {x : Operand} {y : SV} {sz by' : Nat} {ze : List Value} {fl : List (Nat × Nat × Bool)} (hT : C.ty T = some ⟨.iface, sz, by', ze, fl⟩) (hx : ev sl x = some y) (hy : y.den = .nilIface) :
    Quiet C sl own G (.binOp .neq T x (.const .nilIface) T') (.bool false) := by
  intro a w dd t pos aft g hsl hh
  have hxv := ev_ok hsl hx
  rw [hy] at hxv
  have hu := iface_meths (C.tyok _ _ hT).k
  have hc : a.eval (.const .nilIface) = .nilIface := rfl
  simp only [execOp, hxv, hc]
  have h1 : (eqGuard .neq T x (.const .nilIface) .nilIface .nilIface).run C.P w = .ok () w := by simp [eqGuard]
  rw [Sem.run_bind]
  simp [h1, run_neq_nil_nil w T hu, Sem.run_bind]
theorem quiet_ineq_held {T T' u : TypeId} {v : Value} {x : Operand} {y : SV} {sz by' : Nat} {ze : List Value} {fl : List (Nat × Nat × Bool)} (hT : C.ty T = some ⟨.iface, sz, by', ze, fl⟩) (hx : ev sl x = some y) (hy : y.den = .iface u v) :
    Quiet C sl own G (.binOp .neq T x (.const .nilIface) T') (.bool true) := by
  intro a w dd t pos aft g hsl hh
  have hxv := ev_ok hsl hx
  rw [hy] at hxv
  have hu := iface_meths (C.tyok _ _ hT).k
  have hc : a.eval (.const .nilIface) = .nilIface := rfl
  simp only [execOp, hxv, hc]
  have h1 : (eqGuard .neq T x (.const .nilIface) (.iface u v) .nilIface).run C.P w = .ok () w := by simp [eqGuard]
  rw [Sem.run_bind]
  simp [h1, run_neq_held_nil w T u v hu, Sem.run_bind]
theorem quiet_is {T S : TypeId} {v : Value} {x : Operand} {y : SV} {sz by' : Nat} {ze : List Value} {fl : List (Nat × Nat × Bool)} (hS : C.ty S = some ⟨.strct, sz, by', ze, fl⟩) (hx : ev sl x = some y) (hy : y.den = .iface S v) :
    Quiet C sl own G (.typeAssert x T S true) (.tuple #[v, .bool true]) := by
  intro a w dd t pos aft g hsl hh
  have hxv := ev_ok hsl hx
  rw [hy] at hxv
  obtain ⟨fs, hu, _⟩ := (C.tyok _ _ hS).k
  simp only [execOp, hxv]
  rw [Sem.run_bind]
  simp [Instr.typeAssert, run_underlying hu, Sem.run_bind]
def recOf (u : FrameMode) (v : Value) (u' : FrameMode) : Prop := (u = .returning ∧ v = .nilIface ∧ u' = .returning) ∨ (u = .panicking [pE v] ∧ u' = .panicking [{ v := v, recovered := true }])
theorem ops_val {P : Program} {ops : Array Oper} {Q : Exit → Act → List Frame → World → Prop} {i : Nat} {o : Oper} {rest : List Nat} {a : Act} {cs : List Frame} {w : World} {v : Value} (ho : ops[i]? = some o) (hg : o.guard = none) (hr : (execOp a.eval o).run P w = .ok (.value v) w)
    (h : wpOpsSIn Fence.wide 0 P ops Q rest (a.put o.dst v) cs w) : wpOpsSIn Fence.wide 0 P ops Q (i :: rest) a cs w := by
  simp only [wpOpsSIn, ho]
  refine ⟨fun _ _ => trivial, ?_⟩
  rw [if_pos (by simp [Region.wanted, hg]), hr]
  exact h
theorem ops_rec {P : Program} {ops : Array Oper} {Q : Exit → Act → List Frame → World → Prop} {i : Nat} {o : Oper} {rest : List Nat} {a : Act} {cs cs' : List Frame} {w : World} {v : Value} (ho : ops[i]? = some o) (hg : o.guard = none) (hr : (execOp a.eval o).run P w = .ok .recover w)
    (hc : (match recoverD cs with | some (v, cs') => (v, cs') | none => (.nilIface, cs)) = (v, cs')) (h : wpOpsSIn Fence.wide 0 P ops Q rest (a.put o.dst v) cs' w) : wpOpsSIn Fence.wide 0 P ops Q (i :: rest) a cs w := by
  simp only [wpOpsSIn, ho]
  refine ⟨fun _ _ => trivial, ?_⟩
  rw [if_pos (by simp [Region.wanted, hg]), hr]
  simp only
  rcases hr : recoverD cs with _ | ⟨v1, cs1⟩
  · rw [hr] at hc
    simp only [Prod.mk.injEq] at hc
    rw [hc.1, hc.2]
    exact h
  · rw [hr] at hc
    simp only [Prod.mk.injEq] at hc
    rw [hc.1, hc.2]
    exact h
theorem enterClo {P : Program} {f : FuncId} {fn : Func} {u u' : FrameMode} {v : Value} {φ : FrameMode → Hp → Lds → Prop} {ow : Lds} (ty : TypeId → Option TI) (tyok : ∀ T i, ty T = some i → i.ok P T) {nt id d1 d2 : Nat} {t1 t2 : TypeId} {p1 p2 : String} {a1 a2 : Array Edge} {rest : Code}
    (hf : P.funcs[f]? = some fn) (hb : fn.body = some (.seq (.region id #[⟨some d1, .call ⟨.builtin .recover, #[], #[]⟩, t1, p1, a1, none⟩, ⟨some d2, .assign (.tmp d1), t2, p2, a2, none⟩] false) rest)) (hn : fn.ntmps = nt) (hd1 : d1 < nt) (hd2 : d2 < nt) (svs : List SV) (hargs : svs.length ≤ nt) {mh : Nat} (hmh : ow.length = mh)
    (hu : recOf u v u')
    (h : ∀ C : Ctx, C.P = P → C.Q = bodyPost C.P fn (RetW C.w0 G ow fun _ G' ow' => φ u' G' ow') → C.nt = nt → C.ty = ty → (∀ g, g ∈ C.mb → mutOf ow g) → C.mh = mh → C.ro = none → C.G0 = G → (∀ g, mutOf ow g → blkOf ow g) → SGo C [.code rest] ⟨putS (some d2) (.v v) (putS (some d1) (.v v) (enumS 0 svs)), enumO 0 ow, G, []⟩) : CloD P f (dens svs) G ow u φ := by
  intro w hw hL
  classical
  have hlt : ∀ g, blkOf ow g → g < w.heap.size := fun g ⟨i, b, o, e, hg⟩ => OO.holds_lt (hL.own i b o e).1 hg
  have hml : ∀ g, mutOf ow g → g < w.heap.size := fun g ⟨i, b, o, e, hg⟩ => hlt g ⟨i, b, o, e, OO.mut_blks (hL.own i b o e).1 hg⟩
  have hmem : ∀ g, g ∈ (List.range w.heap.size).filter (fun g => decide (mutOf ow g)) ↔ mutOf ow g := fun g => by
    simp only [List.mem_filter, List.mem_range, decide_eq_true_eq]
    exact ⟨fun q => q.2, fun q => ⟨hml g q, q⟩⟩
  have hlk : ∀ k b o, lk k (enumO 0 ow) = some (b, o) → ow[k]? = some (b, o) := fun k b o e => by
    rw [lk_enumO] at e; simpa using e
  have key := h ⟨P, bodyPost P fn (RetW w G ow fun _ G' ow' => φ u' G' ow'), nt, ty, tyok, w, G, (List.range w.heap.size).filter (fun g => decide (mutOf ow g)), mh, none⟩ rfl rfl rfl rfl (fun g hg => (hmem g).1 hg) rfl rfl rfl (fun g ⟨i, b, o, e, hg⟩ => ⟨i, b, o, e, OO.mut_blks (hL.own i b o e).1 hg⟩)
  have hS0 : Sat ⟨P, bodyPost P fn (RetW w G ow fun _ G' ow' => φ u' G' ow'), nt, ty, tyok, w, G, (List.range w.heap.size).filter (fun g => decide (mutOf ow g)), mh, none⟩ ⟨enumS 0 svs, enumO 0 ow, G, []⟩ { tmps := (dens svs).toArray ++ Array.replicate (fn.ntmps - (dens svs).toArray.size) undef, defers := [] } w := by
    refine ⟨slots_args _ _ _ (fun i x e => by have := (lk_enumS svs 0 i x e).2; simpa using this), by simp [hn, dens_eq]; omega, rfl, ⟨fun k b o e => ?_, fun k k' b b' o o' g e e' f f' => ?_, Grow.refl hw⟩⟩
    · have e' := hlk _ _ _ e
      obtain ⟨h1, h2⟩ := hL.own _ _ _ e'
      refine ⟨h1, fun g hg => ⟨h2 g hg, fun q => ?_, fun _ => .inl ((hmem g).2 ⟨_, _, _, e', hg⟩)⟩⟩
      have hk : k < ow.length := by
        rcases Nat.lt_or_ge k ow.length with q | q
        · exact q
        · rw [List.getElem?_eq_none q] at e'; cases e'
      have q : mh ≤ k := q
      omega
    · exact hL.inj _ _ _ _ _ _ g (hlk _ _ _ e) (hlk _ _ _ e') f f'
  have hS1 := hS0.put (d := some d1) (by simp [dOk]; exact hd1) (.v v) hS0.mem
  have hS2 := hS1.put (d := some d2) (by simp [dOk]; exact hd2) (.v v) hS1.mem
  have hev := ev_ok (y := .v v) hS1.sl (x := .tmp d1) (by simp [ev, putS, lk_stk])
  simp only [SV.den] at hev hS2
  have go := key _ w hS2
  simp only [wpK] at go
  refine callsDIn_of_wpSIn hf hb trivial fun c₀ cs hu0 => ?_
  have hfin : ∀ (e : Exit) (a' : Act) (w' : World), bodyPost P fn (RetW w G ow fun _ G' ow' => φ u' G' ow') e a' w' → bodyPostS P fn c₀ cs (fun e u' w' => RetW w G ow (fun _ G' ow' => φ u' G' ow') e w') e a' ({ c₀ with mode := u' } :: cs) w' := by
    intro e a' w' hq
    cases e with
    | normal => obtain ⟨q1, q2⟩ := hq; exact ⟨q1, u', rfl, q2⟩
    | ret => obtain ⟨q1, q2⟩ := hq; exact ⟨q1, u', rfl, q2⟩
    | panic ch => obtain ⟨q1, q2⟩ := hq; exact ⟨q1, u', rfl, q2⟩
    | exit id => exact hq.elim
    | goto l => exact hq.elim
    | outgrown => exact ⟨u', hq⟩
  have hrest : rest.wpSIn Fence.wide 0 P (bodyPostS P fn c₀ cs fun e u' w' => RetW w G ow (fun _ G' ow' => φ u' G' ow') e w') (({ tmps := (dens svs).toArray ++ Array.replicate (fn.ntmps - (dens svs).toArray.size) undef, defers := [] } : Act).put (some d1) v |>.put (some d2) v) ({ c₀ with mode := u' } :: cs) w := by
    intro b k hb' hr' hF' hroom
    obtain ⟨e, a', w', q, r⟩ := go b k ({ c₀ with mode := u' } :: cs) hr' hF' hroom
    exact ⟨e, a', _, w', rfl, hfin e a' w' q, r⟩
  have hrec : (match recoverD (c₀ :: cs) with | some (v, cs') => (v, cs') | none => (.nilIface, c₀ :: cs)) = (v, { c₀ with mode := u' } :: cs) := by
    rcases hu with ⟨rfl, rfl, rfl⟩ | ⟨rfl, rfl⟩
    · have : ({ c₀ with mode := .returning } : Frame) = c₀ := by cases c₀; simp_all
      rw [this]
      simp [recoverD, hu0]
    · simp [recoverD, hu0, pE]
  refine wpSIn_seq (wpSIn_region ?_)
  show wpOpsSIn Fence.wide 0 P _ _ [0, 1] _ _ _
  refine ops_rec rfl rfl rfl hrec ?_
  have hval : ∀ a : Act, a.eval (.tmp d1) = v → (execOp a.eval ⟨some d2, .assign (.tmp d1), t2, p2, a2, none⟩).run P w = .ok (.value v) w := fun a h => by simp [execOp, h]
  exact ops_val rfl rfl (hval _ hev) hrest
theorem x_endW {s : St} {fn : Func} {ow : Lds} {φ : Value → Hp → Lds → Prop} (hQ : C.Q = bodyPost C.P fn (RetW C.w0 G ow φ)) (hmb : ∀ g, g ∈ C.mb → mutOf ow g) {mh : Nat} (hmh : C.mh = mh) (hG : C.G0 = G) (hmub : ∀ g, mutOf ow g → blkOf ow g) (hml : ow.length = mh)
    (hrs : fn.results.toList = []) (hdf : s.df = []) {ow' : Lds} (hp : pickO s.own 0 mh = some ow')
    (hpl : Plain (enumO 0 ow')) (h : ∀ v, φ v s.G ow') : SGo C [] s := by
  intro a w hS
  show C.Q .normal a w
  rw [hQ]
  have hg := hS.mem.grow
  obtain ⟨p1, p2⟩ := pickO_get hp
  have p3 : ∀ {i b o}, ow'[i]? = some (b, o) → lk i s.own = some (b, o) := fun {i b o} e => by simpa using p2 i _ e
  have p4 : ∀ {i b o}, ow'[i]? = some (b, o) → i < mh := fun {i b o} e => by
    rcases Nat.lt_or_ge i ow'.length with q | q
    · omega
    · rw [List.getElem?_eq_none q] at e; cases e
  have p5 : ∀ g, blkOf ow' g → mutOf ow' g := fun g ⟨i, b, o, e, hb⟩ => ⟨i, b, o, e, hpl i b o (by rw [lk_enumO]; simpa using e) g hb⟩
  have p6 : ∀ g, mutOf ow' g → mutOf ow g ∨ C.w0.heap.size ≤ g := fun g ⟨i, b, o, e, hb⟩ => by
    obtain ⟨_, q⟩ := hS.mem.own _ _ _ (p3 e)
    rcases (q g hb).2.2 (by rw [hmh]; exact p4 e) with q | q
    · exact .inl (hmb g q)
    · exact .inr q
  have hres : (results fn a.tmps).run C.P w = .ok (.tuple #[]) w := by
    have : fn.results = #[] := by simpa using hrs
    simp [results, this]
  refine ⟨by rw [hS.df, hdf], _, hres, _, _, ow', rfl, hg.fr, fun g hg1 hg2 => ?_, hg.has, fun b hb => by rw [hg.old b hb, hG], ⟨fun i b o e => ?_, fun i j b b' o o' g e e' f f' => ?_⟩, by omega, fun g q => ?_, p6, h _⟩
  · exact hg.blk g hg1 fun q => hg2 (hmb g q)
  · obtain ⟨q1, q2⟩ := hS.mem.own _ _ _ (p3 e)
    exact ⟨q1, fun g q => (q2 g q).1⟩
  · exact hS.mem.inj _ _ _ _ _ _ g (p3 e) (p3 e') f f'
  · exact (p6 g (p5 g q)).imp (hmub g) id
theorem quiet_slice3 {T e : TypeId} {x hi mx : Operand} {te : TI} {sz by' : Nat} {ze : List Value} {fl : List (Nat × Nat × Bool)} {ad : Option Addr} {len cap : Nat} {k k' : IntKind} {m : Int} {y : SV}
    (hT : C.ty T = some ⟨.slice e, sz, by', ze, fl⟩) (he : C.ty e = some te) (hx : ev sl x = some y) (hy : y.den = .slice ad len cap) (hi1 : ev sl hi = some (.v (.int k m))) (hi2 : ev sl mx = some (.v (.int k' m))) (h0 : 0 ≤ m) (h2 : m ≤ (cap : Int)) :
    Quiet C sl own G (.slice T x none (some hi) (some mx)) (sliced ad m.toNat 0 m.toNat te.size) := by
  intro a w d t pos aft g hs hh
  have hxv := ev_ok hs hx
  have hiv1 := ev_ok hs hi1
  have hiv2 := ev_ok hs hi2
  rw [hy] at hxv
  simp only [SV.den] at hiv1 hiv2
  have g1 := (C.tyok _ _ hT).k
  simp only [TK.fits] at g1
  simp only [execOp, hxv, hiv1, hiv2, Option.map_some, Option.map_none, Instr.sliceAt, Instr.slice, Instr.sliceBounds, Sem.run_bind, run_und w g1, Result.andThen_ok, Sem.run_pure, sliceBound_ok (y := cap) h0 h2, sliceBound_ok (y := m.toNat) h0 (show m ≤ (m.toNat : Int) by omega), run_size w (C.tyok _ _ he), sliced]
def QPd (C : Ctx) (d : Option Tmp) : Prop := ∀ c (a : Act) w v, C.Q (.panic c) (a.put d v) w → C.Q (.panic c) a w
end
end Go.Sx
namespace Go.Sx
set_option linter.unusedSimpArgs false
set_option linter.unusedVariables false
open Go.RowKit
section
variable {P : Program} {ro : Option Nat} {ops : Array Oper} {md : Region.Mode}
theorem wpAnyHU_first {S : World → Prop} {Q : Exit → Act → World → Prop} {i p : Nat} {oi op : Oper} {v : Value} (hi : ops[i]? = some oi) (hsel : ∀ (j : Nat) (o : Oper) cs b, ops[j]? = some o → o.op ≠ .select cs b)
    (hQ : ∀ c a w, Q (.panic c) (a.put oi.dst v) w → Q (.panic c) a w) (hop : ops[p]? = some op) (hpi : p ≠ i) (hpe : ∃ e ∈ op.after, Region.binds md e = true ∧ e.on = i) :
    ∀ (fuel : Nat) (listed : Array Bool) (a : Act) (w : World),
      (∀ j oj, ops[j]? = some oj → j ≠ i → listed.getD j true = false → (∀ e ∈ oj.after, Region.binds md e = true → e.on ≠ i) → oi.apart ops oj = true) →
      i ∈ Region.ready md ops listed → YieldsIf P ops S oi v a → S w → listed.getD p true = false →
      wpAnyHU P ro md ops Q S p fuel (listed.setIfInBounds i true) (a.put oi.dst v) w → wpAnyHU P ro md ops Q S p (fuel + 1) listed a w := by
  intro fuel
  induction fuel with
  | zero =>
    intro listed a w _ hr hy hS hpl H
    refine ⟨fun h => (by rw [h] at hr; cases hr), fun j hj => ?_⟩
    by_cases hji : j = i
    · subst hji; exact yieldsIf_wpOpIn hi hy hS ⟨fun _ => hS, H⟩
    · have := ready_mono hj hji
      rw [H.1] at this
      cases this
  | succ fuel ih =>
    intro listed a w hfree hr hy hS hpl H
    refine ⟨fun h => (by rw [h] at hr; cases hr), fun j hj => ?_⟩
    by_cases hji : j = i
    · subst hji; exact yieldsIf_wpOpIn hi hy hS ⟨fun _ => hS, H⟩
    · have h1 := H.2 j (ready_mono hj hji)
      obtain ⟨hjun, oj, hoj, hall⟩ := mem_ready.1 hj
      have hnot : ∀ e ∈ oj.after, Region.binds md e = true → e.on ≠ i := fun e he hb heq => by
        have h1 := hall e he hb
        have h0 := (mem_ready.1 hr).1
        rw [heq] at h1
        rcases Nat.lt_or_ge i listed.size with h' | h'
        · simp [h'] at h0 h1; rw [h0] at h1; cases h1
        · simp [Array.getElem?_eq_none h'] at h1
      have hjp : j ≠ p := fun q => by
        subst q
        rw [hop] at hoj
        cases hoj
        obtain ⟨e, he, hb, heq⟩ := hpe
        exact hnot e he hb heq
      have hg1 : ((listed.setIfInBounds i true).setIfInBounds j true).getD p true = false := by
        rw [getD_set_ne true hjp, getD_set_ne true (Ne.symm hpi)]; exact hpl
      have hg2 : (listed.setIfInBounds j true).getD p true = false := by
        rw [getD_set_ne true hjp]; exact hpl
      have h2 := wpOpIn_putIf hoj (hfree j oj hoj hji hjun hnot) (fun cs b => hsel i oi cs b hi) (fun cs b => hsel j oj cs b hoj) hQ hy h1
      have hfree' : ∀ k ok, ops[k]? = some ok → k ≠ i → (listed.setIfInBounds j true).getD k true = false →
          (∀ e ∈ ok.after, Region.binds md e = true → e.on ≠ i) → oi.apart ops ok = true := fun k ok hk hki hun hno => by
        refine hfree k ok hk hki ?_ hno
        by_cases hjk : j = k
        · subst hjk; exact hjun
        · rw [getD_set_ne true hjk] at hun; exact hun
      refine wpOpIn_mono (fun a' w' h3 => ⟨fun _ => h3.2.1 hg1, ih (listed.setIfInBounds j true) a' w' hfree' (ready_mono hr (Ne.symm hji)) h3.1 (h3.2.1 hg1) hg2 ?_⟩) h2
      rw [Array.setIfInBounds_comm _ _ hji]
      exact h3.2.2
def behind (ops : Array Oper) (p i : Nat) : Bool := match ops[p]? with
  | some o => p != i && o.after.any fun e => Region.binds .any e && e.on == i
  | none => false
theorem behind_ok {p i : Nat} (h : behind ops p i = true) : ∃ op, ops[p]? = some op ∧ p ≠ i ∧ ∃ e ∈ op.after, Region.binds .any e = true ∧ e.on = i := by
  rw [behind] at h
  split at h
  · rename_i o ho
    simp only [Bool.and_eq_true, bne_iff_ne, ne_eq, Array.any_eq_true'] at h
    obtain ⟨h1, e, h2, h3⟩ := h
    exact ⟨o, ho, h1, e, h2, by simpa using h3⟩
  · cases h
theorem wpAnyIn_of_hu {S : World → Prop} {Q : Exit → Act → World → Prop} {p : Nat} : ∀ (fuel : Nat) (listed : Array Bool) (a : Act) (w : World), wpAnyHU P ro md ops Q S p fuel listed a w → wpAnyIn (FR ro) 0 P md ops Q fuel listed a w
  | 0, _, _, _, h => h
  | fuel + 1, _, _, _, h => ⟨h.1, fun i hi => wpOpIn_mono (fun a' w' h' => wpAnyIn_of_hu fuel _ a' w' h'.2) (h.2 i hi)⟩
theorem wpIn_region_hu {S : World → Prop} {Q : Exit → Act → World → Prop} {p id : Nat} {a : Act} {w : World} (hm : P.follows .mixedOrders = true)
    (h : wpAnyHU P ro .any ops Q S p ops.size (Array.replicate ops.size false) a { w with drawn := w.drawn + 1 }) : (Code.region id ops true).wpIn (FR ro) 0 P Q a w :=
  wpIn_region_any hm (wpAnyIn_of_hu _ _ _ _ h)
theorem hu_of_hi {S S' : World → Prop} {Q : Exit → Act → World → Prop} {p : Nat} : ∀ (fuel : Nat) (listed : Array Bool) (a : Act) (w : World), listed.getD p true = true → wpAnyHI P ro md ops Q S' fuel listed a w → wpAnyHU P ro md ops Q S p fuel listed a w
  | 0, _, _, _, _, h => h
  | fuel + 1, listed, _, _, hl, h => ⟨h.1, fun i hi => wpOpIn_mono (fun a' w' h' => by
      have hg : (listed.setIfInBounds i true).getD p true = true := by
        by_cases hip : i = p
        · subst hip
          rcases Nat.lt_or_ge i listed.size with q | q
          · simp [q]
          · simp [Array.getD_eq_getD_getElem?, Array.getElem?_setIfInBounds]; rw [if_neg (by omega)]; rfl
        · rw [getD_set_ne true hip]; exact hl
      exact ⟨fun q => (by rw [hg] at q; cases q), hu_of_hi fuel _ a' w' hg h'.2⟩) (h.2 i hi)⟩
end
section
variable {C : Ctx} {K : List KI} {s : St} {R : Array Oper} {l : List Oper} {d : Option Tmp} {t : TypeId} {pos : String} {aft : Array Edge}
theorem x_heldP (own0 : List (Nat × Nat × OO)) (p : Nat) {k : Code} (ht : tag k = 9) (hm : C.P.follows .mixedOrders = true) {o : Oper} (hR : cops k = (o :: l).toArray) {n : Nat} (hn : (o :: l).length = n) {ls : List Bool} (hls : List.replicate n false = ls) (h : SGo C (.hu (Hold C own0 s.G) p (o :: l).toArray n ls.toArray :: K) s) : SGo C (.code k :: K) s := by
  subst hls hn
  cases k <;> simp [tag] at ht
  rename_i a b c
  cases c <;> simp at ht
  simp only [cops] at hR
  subst hR
  intro a w hS
  have := h a _ (⟨hS.sl, hS.nt, hS.df, hS.mem.drew⟩ : Sat C s a w.drew)
  simp only [wpK] at this ⊢
  exact wpIn_region_hu (S := Hold C own0 s.G) hm (by simpa using this)
theorem hu_take (i : Nat) {own0 : List (Nat × Nat × OO)} {G0 : Hp} {n p : Nat} {listed : Array Bool} {op : Op} {x : SV} (hi : R[i]? = some ⟨d, op, t, pos, aft, none⟩) (hs : Region.noSelect R = true) (hf : Region.free .any R listed i = true)
    (hr : (Region.ready .any R listed).contains i = true) (hp : behind R p i = true) (hpl : listed.getD p true = false) (hQ : QPd C d) (hd : dOk C.nt d = true) (ho : ∀ j y, lk j own0 = some y → lk j s.own = some y) (hG : Le G0 s.G)
    (hq : Quiet C s.sl own0 G0 op x.den) (h : SGo C (.hu (Hold C own0 G0) p R n (listed.setIfInBounds i true) :: K) ⟨putS d x s.sl, s.own, s.G, s.df⟩) :
    SGo C (.hu (Hold C own0 G0) p R (n + 1) listed :: K) s := by
  intro a w hS
  have hhold : Hold C own0 G0 w := ⟨fun k b o e => (hS.mem.own k b o (ho _ _ e)).1, fun b o e => hS.mem.has b o (hG b o e)⟩
  have := h _ _ (hS.put hd x hS.mem)
  simp only [wpK] at this ⊢
  obtain ⟨op', h1, h2, h3⟩ := behind_ok hp
  refine wpAnyHU_first (i := i) (v := x.den) hi (Region.noSelect_spec hs) ?_ h1 h2 h3 n listed a w (Region.free_spec hi hf) (by simpa using hr) (.inl ⟨by simp [Region.wanted], fun w' hw' => hq a w' d t pos aft none hS.sl hw'⟩) hhold hpl this
  intro c a' w' hp
  exact wpK_panic c d x.den (fun a w => hQ c a w x.den) K a' w' hp
theorem hu_step {own0 : List (Nat × Nat × OO)} {G0 : Hp} {n p : Nat} {listed : Array Bool} {i : Nat} {o : Oper} {a : Act} {w : World} (hi : R[i]? = some o) {Ks : List KI}
    (hks : Ks = .hs (Hold C own0 G0) :: .hu (Hold C own0 G0) p R n (listed.setIfInBounds i true) :: K ∨ ∃ own1, (Ks = .h (Hold C own1 G0) R n (listed.setIfInBounds i true) :: K ∧ (listed.setIfInBounds i true).getD p true = true))
    (this : wpK C.P C.ro C.Q (.ops R [o] :: Ks) .normal a w) :
    wpOpIn (FR C.ro) 0 C.P R (wpK C.P C.ro C.Q K) i (fun a' w' => ((listed.setIfInBounds i true).getD p true = false → Hold C own0 G0 w') ∧ wpAnyHU C.P C.ro .any R (wpK C.P C.ro C.Q K) (Hold C own0 G0) p n (listed.setIfInBounds i true) a' w') a w := by
  have hK : ∀ a' w', wpK C.P C.ro C.Q Ks .normal a' w' → ((listed.setIfInBounds i true).getD p true = false → Hold C own0 G0 w') ∧ wpAnyHU C.P C.ro .any R (wpK C.P C.ro C.Q K) (Hold C own0 G0) p n (listed.setIfInBounds i true) a' w' := by
    intro a' w' q
    rcases hks with rfl | ⟨own1, rfl, hl⟩
    · simp only [wpK] at q; exact ⟨fun _ => q.1, q.2⟩
    · simp only [wpK] at q; exact ⟨fun z => (by rw [hl] at z; cases z), hu_of_hi _ _ _ _ hl q⟩
  have hE : ∀ e a' w', (∀ (q : e = Exit.normal), False) → wpK C.P C.ro C.Q Ks e a' w' → wpK C.P C.ro C.Q K e a' w' := by
    intro e a' w' hn q
    cases e with
    | normal => exact (hn rfl).elim
    | _ => rcases hks with rfl | ⟨own1, rfl, hl⟩ <;> simpa only [wpK] using q
  simp only [wpK] at this
  unfold wpOpIn
  simp only [hi]
  simp only [wpListIn] at this
  split
  · rename_i hw
    rw [if_pos hw] at this
    refine ⟨this.1, ?_⟩
    have q := this.2
    generalize (o.semAt (FR C.ro).round a.eval).run C.P w = r at q ⊢
    cases r with
    | ok nx w' =>
      cases nx <;> simp only [Oper.uponIn] at q ⊢
      case value u => exact hK _ _ q
      case skip => exact hK _ _ q
      case defer u => exact hK _ _ q
      case enter f args =>
        refine ⟨q.1, q.2.mono fun e w'' he => ?_⟩
        cases e with
        | returned u => exact hK _ _ he
        | panicked c => exact hE _ _ _ (fun q => by cases q) he
        | outgrown => rcases hks with rfl | ⟨own1, rfl, hl⟩ <;> simpa only [LetsOut, wpK] using he
      case row row args => exact ⟨q.1, q.2.mono fun u w'' he => hK _ _ he⟩
      case round l f tmps assign body =>
        refine ⟨q.1, q.2.mono fun e w'' he => ?_⟩
        cases e with
        | returned u => exact hK _ _ he
        | panicked c => exact hE _ _ _ (fun q => by cases q) he
        | outgrown => rcases hks with rfl | ⟨own1, rfl, hl⟩ <;> simpa only [LetsOut, wpK] using he
    | halt x w' =>
      cases x <;> simp only [Oper.uponIn] at q ⊢
      case panic u => exact hE _ _ _ (fun q => by cases q) q
  · rename_i hw
    rw [if_neg hw] at this
    exact ⟨this.1, hK _ _ this.2⟩
theorem hu_one (i : Nat) {own0 : List (Nat × Nat × OO)} {G0 : Hp} {n p : Nat} {listed : Array Bool} {op : Op} {g : Option (Nat × Bool)} (hi : R[i]? = some ⟨d, op, t, pos, aft, g⟩) (hr : Region.ready .any R listed = [i])
    (h : SGo C (.ops R [⟨d, op, t, pos, aft, g⟩] :: .hs (Hold C own0 G0) :: .hu (Hold C own0 G0) p R n (listed.setIfInBounds i true) :: K) s) : SGo C (.hu (Hold C own0 G0) p R (n + 1) listed :: K) s := by
  intro a w hS
  have := h a w hS
  show wpAnyHU _ _ _ _ _ _ _ _ _ _ _
  refine ⟨fun q => (by rw [hr] at q; cases q), fun j hj => ?_⟩
  rw [hr] at hj
  simp only [List.mem_singleton] at hj
  subst hj
  exact hu_step hi (.inl rfl) this
theorem hu_last (i : Nat) (own1 : List (Nat × Nat × OO)) {own0 : List (Nat × Nat × OO)} {G0 : Hp} {n p : Nat} {listed : Array Bool} {op : Op} {g : Option (Nat × Bool)} (hi : R[i]? = some ⟨d, op, t, pos, aft, g⟩) (hr : Region.ready .any R listed = [i]) (hl : (listed.setIfInBounds i true).getD p true = true)
    (h : SGo C (.ops R [⟨d, op, t, pos, aft, g⟩] :: .h (Hold C own1 G0) R n (listed.setIfInBounds i true) :: K) s) : SGo C (.hu (Hold C own0 G0) p R (n + 1) listed :: K) s := by
  intro a w hS
  have := h a w hS
  show wpAnyHU _ _ _ _ _ _ _ _ _ _ _
  refine ⟨fun q => (by rw [hr] at q; cases q), fun j hj => ?_⟩
  rw [hr] at hj
  simp only [List.mem_singleton] at hj
  subst hj
  exact hu_step hi (.inr ⟨own1, rfl, hl⟩) this
end
end Go.Sx
namespace Go.Sx
set_option linter.unusedSimpArgs false
set_option linter.unusedVariables false
open Go.RowKit
section
variable {C : Ctx} {R : Array Oper} {d : Option Tmp} {t : TypeId} {pos : String} {aft : Array Edge} {K : List KI} {s : St}
end
end Go.Sx
namespace Go.Proofs.YthocgjchmpkhoaaDoor
set_option linter.unusedSimpArgs false
set_option linter.unusedVariables false
open Go.Sx
set_option maxHeartbeats 8000000
set_option maxRecDepth 20000
def fcL (f : Fc) (sl sb sc sa : Value) : List Value := [.int .i64 f.st, sl, sb, sc, .int .i64 f.cl.f, sa]
abbrev fcC (f : Fc) (sl sb sc sa : Value) : List SV := [.v (.int .i64 f.st), .v sl, .v sb, .v sc, .v (.int .i64 f.cl.f), .v sa]
def fcRet (f : Fc) (v : Value) (G : Hp) : Prop := ∃ sl sb sc sa, v = .agg (fcL f sl sb sc sa).toArray ∧ f.rep G sl sb sc sa
theorem capNil : CapOk (.slice none 0 0) := fun ad n c h => by cases h; omega
theorem wrF_rep (G : Hp) : wrF.rep G (.slice none 0 0) (.slice none 0 0) (.slice none 0 0) (.slice none 0 0) := ⟨capNil, Rp.S_nil _ _, Rp.S_nil _ _, Rp.S_nil _ _, Rp.S_nil _ _⟩
theorem rwrong_ok (G : Hp) : Pure Tryd.prog 52 [] G (fun v _ => v = .agg #[.int .i64 5, .slice none 0 0, .slice none 0 0, .slice none 0 0, .int .i64 0, .slice none 0 0]) := by
  refine enterX ty tyok Tryd.func52 rfl Tryd.ntmps52 [] (by simp) ?_
  intro C hP hQ hnt hty hmb hmh hro; have hQp := qp_body hQ; refine st_ ?_
  refine rn_ ?_; intros
  refine x_retc rfl hQ hmb rfl (by rw [hty]; simp only [so, sq, zy, zz, tyE, SO', SQ', opQ, opStore, opAlloc, ev, putS, dOk, cv, SV.cs, SV.one, SV.bool?, eqB, Value.oneCell', ldOwn, binInt, binConst, binBool, binStr, isC, TK.agg, rv, rv1, ldV, resOne, resV, Nat.reduceAdd, Nat.reduceMul, Nat.reduceSub, Nat.reduceLT, Nat.reduceLeDiff, Nat.reduceEqDiff, Nat.reduceBEq, reduceIte, reduceCtorEq, eq_self]; try rfl) rfl ?_; simp only [SV.den, resV, dens]
theorem zV_rep (G : Hp) : zV.repC G (.slice none 0 0) := by
  rw [zV, repC_iff]
  exact ⟨by simp [isI64], by simp [isI64], by simp, none, 0, rfl, by simp, .inl rfl⟩
theorem repC_el {x : VT} {sl : Value} {G : Hp} (h : x.repC G sl) {i : Nat} (hi : i < x.l.length) : ∃ b off cap ad c, sl = .slice (some ⟨b, off, none⟩) x.l.length cap ∧ At G b (off + i * 3) [.int .i64 x.l[i].k, .int .i64 x.l[i].n, .slice ad x.l[i].l.length c] ∧ x.l[i].repC G (.slice ad x.l[i].l.length c) := by
  obtain ⟨k, n, l⟩ := x
  rw [repC_iff] at h
  obtain ⟨_, _, _, ad, cap, rfl, _, hr⟩ := h
  rcases hr with rfl | ⟨b, off, cs, rfl, hat, hrV⟩
  · exact absurd hi (Nat.not_lt_zero _)
  obtain ⟨ad', cap', h1, h2⟩ := At_getC hat hrV hi
  exact ⟨b, off, cap, ad', cap', rfl, h1, h2⟩
end Go.Proofs.YthocgjchmpkhoaaDoor
namespace Go.Proofs.YthocgjchmpkhoaaDoor
set_option linter.unusedSimpArgs false
set_option linter.unusedVariables false
open Go.Sx
set_option maxHeartbeats 8000000
set_option maxRecDepth 20000
theorem rbase_ok (x : It) (sv sw sc : Value) (G : Hp) (hx : x.rep G sv sw sc) (h5 : x.v.k = 5 → 2 ≤ x.v.l.length) (h6 : x.v.k = 6 ∨ x.v.k = 7 → 1 ≤ x.v.l.length) :
    Pure Tryd.prog 50 [.agg (itL x sv sw sc).toArray] G (fun v _ => ∃ s1, v = .agg (bsL (baseF x) s1 sw sc).toArray ∧ (baseF x).rep G s1 sw sc) := by
  obtain ⟨av, cv', rfl⟩ := VT.repC_slice hx.v
  obtain ⟨aw, cw, rfl⟩ := Rp.S_slice hx.w
  obtain ⟨ac, cc, rfl⟩ := Rp.S_slice hx.c
  obtain ⟨hkk, hkn⟩ := VT.rep_k (VT.repC_rep hx.v)
  have hb := hx.b
  have h0 : isI64 0 := by simp [isI64]
  have hzt : tsz zV ≤ 1048576 := by simp [zV, tsz, tszL]
  refine enterX ty tyok Tryd.func50 rfl Tryd.ntmps50 [.a (itC x (.slice av x.v.l.length cv') (.slice aw x.w.length cw) (.slice ac x.c.length cc))] (by simp) ?_
  simp only [itC]
  intro C hP hQ hnt hty hmb hmh hro; have hQp := qp_body hQ; refine st_ ?_
  refine rn_ ?_; intros
  rename_i b0 b1 b2
  by_cases k5 : x.v.k = 5
  · have hl := h5 k5
    obtain ⟨c0, o0, p0, a0, q0, e0, hat0, hr0⟩ := repC_el hx.v (i := 0) (by omega)
    cases e0
    obtain ⟨c1, o1, p1, a1, q1, e1, hat1, hr1⟩ := repC_el hx.v (i := 1) (by omega)
    cases e1
    have hn0 := (VT.rep_k (VT.repC_rep hr0)).2
    have ht1 := tszL_mem (List.getElem_mem (by omega : 1 < x.v.l.length))
    have htx : tsz x.v = 1 + tszL x.v.l := by obtain ⟨⟨k, n, l⟩, w, c⟩ := x; simp only [tsz, VT.l]
    (refine x_split rfl rfl rfl (fun _ => ?_) (fun hc => absurd hc (by simpa using k5)); refine st_ ?_; (refine ru_ ?_; intros))
    have g0 : x.v.l.getD 0 zV = x.v.l[0] := by rw [List.getD_eq_getElem?_getD, List.getElem?_eq_getElem (by omega)]; rfl
    have g1 : x.v.l.getD 1 zV = x.v.l[1] := by rw [List.getD_eq_getElem?_getD, List.getElem?_eq_getElem (by omega)]; rfl
    have eb : baseF x = ⟨x.v.k, x.v.l[0].n, x.v.l[1], x.w, x.c⟩ := by rw [baseF, if_pos k5, g0, g1]
    rw [eb] at hQ
    generalize x.v.l[0] = y0 at *
    generalize x.v.l[1] = y1 at *
    refine x_held [(0, b0, .c 81 [.v (.int .i64 x.v.k), .v (.int .i64 x.v.n), .v (.slice (some ⟨c0, o0, none⟩) x.v.l.length cv'), .v (.slice aw x.w.length cw), .v (.slice ac x.c.length cc)])] rfl (by rw [hP]; kernel_rfl) rfl rfl rfl ?_; refine st_ ?_
    refine h_take 0 rfl (by kernel_rfl) (by kernel_rfl) (by kernel_rfl) hQp (by rw [hnt]; rfl) (allIn (by repeat (first | exact trivial | refine ⟨rfl, ?_⟩))) (by first | exact Le.refl _ | assumption) (quiet_op (by rw [hty]; first | rfl | (refine st_ ?_; rfl))) ?_; refine st_ ?_
    refine h_take 1 rfl (by kernel_rfl) (by kernel_rfl) (by kernel_rfl) hQp (by rw [hnt]; rfl) (allIn (by repeat (first | exact trivial | refine ⟨rfl, ?_⟩))) (by first | exact Le.refl _ | assumption) (quiet_op (by rw [hty]; first | rfl | (refine st_ ?_; rfl))) ?_; refine st_ ?_
    refine h_take 2 rfl (by kernel_rfl) (by kernel_rfl) (by kernel_rfl) hQp (by rw [hnt]; rfl) (allIn (by repeat (first | exact trivial | refine ⟨rfl, ?_⟩))) (by first | exact Le.refl _ | assumption) (quiet_op (by rw [hty]; first | rfl | (refine st_ ?_; rfl))) ?_; refine st_ ?_
    refine h_take 3 rfl (by kernel_rfl) (by kernel_rfl) (by kernel_rfl) hQp (by rw [hnt]; rfl) (allIn (by repeat (first | exact trivial | refine ⟨rfl, ?_⟩))) (by first | exact Le.refl _ | assumption) (x := .v (.pointer (some ⟨c0, o0, none⟩))) ((quiet_index (by rw [hty]; rfl) (by rw [hty]; rfl) rfl rfl rfl (by omega) (by omega)).cast (by simp [SV.den])) ?_
    refine st_ ?_
    refine h_take 4 rfl (by kernel_rfl) (by kernel_rfl) (by kernel_rfl) hQp (by rw [hnt]; rfl) (allIn (by repeat (first | exact trivial | refine ⟨rfl, ?_⟩))) (by first | exact Le.refl _ | assumption) (quiet_op (by rw [hty]; first | rfl | (refine st_ ?_; rfl))) ?_; refine st_ ?_
    refine h_take 5 rfl (by kernel_rfl) (by kernel_rfl) (by kernel_rfl) hQp (by rw [hnt]; rfl) (allIn (by repeat (first | exact trivial | refine ⟨rfl, ?_⟩))) (by first | exact Le.refl _ | assumption) (x := .v (.int .i64 y0.n)) ((quiet_load (vs := [.int .i64 y0.n]) (by rw [hty]; rfl) rfl (by simp [TK.agg]) (by simpa using hat0.sub 1 1 (by simp)) rfl).cast (by rfl)) ?_
    refine st_ ?_
    refine h_take 6 rfl (by kernel_rfl) (by kernel_rfl) (by kernel_rfl) hQp (by rw [hnt]; rfl) (allIn (by repeat (first | exact trivial | refine ⟨rfl, ?_⟩))) (by first | exact Le.refl _ | assumption) (quiet_op (by rw [hty]; first | rfl | (refine st_ ?_; rfl))) ?_; refine st_ ?_
    refine h_take 7 rfl (by kernel_rfl) (by kernel_rfl) (by kernel_rfl) hQp (by rw [hnt]; rfl) (allIn (by repeat (first | exact trivial | refine ⟨rfl, ?_⟩))) (by first | exact Le.refl _ | assumption) (quiet_op (by rw [hty]; first | rfl | (refine st_ ?_; rfl))) ?_; refine st_ ?_
    refine h_take 8 rfl (by kernel_rfl) (by kernel_rfl) (by kernel_rfl) hQp (by rw [hnt]; rfl) (allIn (by repeat (first | exact trivial | refine ⟨rfl, ?_⟩))) (by first | exact Le.refl _ | assumption) (quiet_op (by rw [hty]; first | rfl | (refine st_ ?_; rfl))) ?_; refine st_ ?_
    refine h_take 9 rfl (by kernel_rfl) (by kernel_rfl) (by kernel_rfl) hQp (by rw [hnt]; rfl) (allIn (by repeat (first | exact trivial | refine ⟨rfl, ?_⟩))) (by first | exact Le.refl _ | assumption) (x := .v (.pointer (some ⟨c0, o0 + 3, none⟩))) ((quiet_index (by rw [hty]; rfl) (by rw [hty]; rfl) rfl rfl rfl (by omega) (by omega)).cast (by simp [SV.den])) ?_
    refine st_ ?_
    refine h_take 10 rfl (by kernel_rfl) (by kernel_rfl) (by kernel_rfl) hQp (by rw [hnt]; rfl) (allIn (by repeat (first | exact trivial | refine ⟨rfl, ?_⟩))) (by first | exact Le.refl _ | assumption) (x := .a [.v (.int .i64 y1.k), .v (.int .i64 y1.n), .v (.slice a1 y1.l.length q1)]) ((quiet_load (by rw [hty]; rfl) rfl (fun q => by cases q) (by simpa using hat1) rfl).cast (by simp only [ldV, SV.den, dens]; rfl)) ?_
    refine st_ ?_
    refine h_take 11 rfl (by kernel_rfl) (by kernel_rfl) (by kernel_rfl) hQp (by rw [hnt]; rfl) (allIn (by repeat (first | exact trivial | refine ⟨rfl, ?_⟩))) (by first | exact Le.refl _ | assumption) (quiet_op (by rw [hty]; first | rfl | (refine st_ ?_; rfl))) ?_; refine st_ ?_
    refine h_one 12 rfl (by kernel_rfl) ?_
    refine rn_ ?_; intros
    refine h_hs (allIn (by repeat (first | exact trivial | refine ⟨rfl, ?_⟩))) (by first | exact Le.refl _ | assumption) ?_
    refine h_take 13 rfl (by kernel_rfl) (by kernel_rfl) (by kernel_rfl) hQp (by rw [hnt]; rfl) (allIn (by repeat (first | exact trivial | refine ⟨rfl, ?_⟩))) (by first | exact Le.refl _ | assumption) (quiet_op (by rw [hty]; first | rfl | (refine st_ ?_; rfl))) ?_; refine st_ ?_
    refine h_one 14 rfl (by kernel_rfl) ?_
    refine rn_ ?_; intros
    refine h_hs (allIn (by repeat (first | exact trivial | refine ⟨rfl, ?_⟩))) (by first | exact Le.refl _ | assumption) ?_
    refine h_end (by kernel_rfl) ?_
    refine rn_ ?_; intros
    refine x_retc rfl hQ hmb rfl (by rw [hty]; simp only [so, sq, zy, zz, tyE, SO', SQ', opQ, opStore, opAlloc, ev, putS, dOk, cv, SV.cs, SV.one, SV.bool?, eqB, Value.oneCell', ldOwn, binInt, binConst, binBool, binStr, isC, TK.agg, rv, rv1, ldV, resOne, resV, Nat.reduceAdd, Nat.reduceMul, Nat.reduceSub, Nat.reduceLT, Nat.reduceLeDiff, Nat.reduceEqDiff, Nat.reduceBEq, reduceIte, reduceCtorEq, eq_self]; try rfl) rfl ?_; simp only [SV.den, resV, dens]
    exact ⟨_, rfl, ⟨hkk, hn0, hr1, by show tsz y1 ≤ _; omega, hx.w, hx.c⟩⟩
  have hk5 : ¬ (x.v.k == 5) = true := by simpa using k5
  (refine x_split rfl rfl rfl (fun hc => absurd hc (by simpa using k5)) (fun _ => ?_); refine st_ ?_; (refine ru_ ?_; intros))
  by_cases k6 : x.v.k = 6
  · have hl := h6 (.inl k6)
    obtain ⟨c0, o0, p0, a0, q0, e0, hat0, hr0⟩ := repC_el hx.v (i := 0) (by omega)
    cases e0
    have hn0 := (VT.rep_k (VT.repC_rep hr0)).2
    have g0 : x.v.l.getD 0 zV = x.v.l[0] := by rw [List.getD_eq_getElem?_getD, List.getElem?_eq_getElem (by omega)]; rfl
    have eb : baseF x = ⟨x.v.k, x.v.l[0].n, zV, x.w, x.c⟩ := by rw [baseF, if_neg k5, if_pos k6, g0]
    rw [eb] at hQ
    generalize x.v.l[0] = y0 at *
    (refine x_split rfl rfl rfl (fun _ => ?_) (fun hc => absurd hc (by simpa using k6)); refine st_ ?_; (refine ru_ ?_; intros))
    refine go_q (v := .pointer (some ⟨c0, o0, none⟩)) (by rw [hnt]; rfl) ((quiet_index (by rw [hty]; rfl) (by rw [hty]; rfl) rfl rfl rfl (by omega) (by omega)).cast (by simp [SV.den])) ?_
    refine rn_ ?_; intros
    refine go_q (v := .int .i64 y0.n) (by rw [hnt]; rfl) ((quiet_load (vs := [.int .i64 y0.n]) (by rw [hty]; rfl) rfl (by simp [TK.agg]) (by simpa using hat0.sub 1 1 (by simp)) rfl).cast (by rfl)) ?_
    refine rn_ ?_; intros
    refine x_retc rfl hQ hmb rfl (by rw [hty]; simp only [so, sq, zy, zz, tyE, SO', SQ', opQ, opStore, opAlloc, ev, putS, dOk, cv, SV.cs, SV.one, SV.bool?, eqB, Value.oneCell', ldOwn, binInt, binConst, binBool, binStr, isC, TK.agg, rv, rv1, ldV, resOne, resV, Nat.reduceAdd, Nat.reduceMul, Nat.reduceSub, Nat.reduceLT, Nat.reduceLeDiff, Nat.reduceEqDiff, Nat.reduceBEq, reduceIte, reduceCtorEq, eq_self]; try rfl) rfl ?_; simp only [SV.den, resV, dens]
    exact ⟨_, rfl, ⟨hkk, hn0, zV_rep _, hzt, hx.w, hx.c⟩⟩
  (refine x_split rfl rfl rfl (fun hc => absurd hc (by simpa using k6)) (fun _ => ?_); refine st_ ?_; (refine ru_ ?_; intros))
  by_cases k7 : x.v.k = 7
  · have hl := h6 (.inr k7)
    obtain ⟨c0, o0, p0, a0, q0, e0, hat0, hr0⟩ := repC_el hx.v (i := 0) (by omega)
    cases e0
    have ht0 := tszL_mem (List.getElem_mem (by omega : 0 < x.v.l.length))
    have htx : tsz x.v = 1 + tszL x.v.l := by obtain ⟨⟨k, n, l⟩, w, c⟩ := x; simp only [tsz, VT.l]
    have g0 : x.v.l.getD 0 zV = x.v.l[0] := by rw [List.getD_eq_getElem?_getD, List.getElem?_eq_getElem (by omega)]; rfl
    have eb : baseF x = ⟨x.v.k, 0, x.v.l[0], x.w, x.c⟩ := by rw [baseF, if_neg k5, if_neg k6, if_pos k7, g0]
    rw [eb] at hQ
    generalize x.v.l[0] = y0 at *
    (refine x_split rfl rfl rfl (fun _ => ?_) (fun hc => absurd hc (by simpa using k7)); refine st_ ?_; (refine ru_ ?_; intros))
    refine go_q (v := .pointer (some ⟨c0, o0, none⟩)) (by rw [hnt]; rfl) ((quiet_index (by rw [hty]; rfl) (by rw [hty]; rfl) rfl rfl rfl (by omega) (by omega)).cast (by simp [SV.den])) ?_
    refine rn_ ?_; intros
    refine go_q (v := .agg #[.int .i64 y0.k, .int .i64 y0.n, .slice a0 y0.l.length q0]) (by rw [hnt]; rfl) ((quiet_load (by rw [hty]; rfl) rfl (fun q => by cases q) (by simpa using hat0) rfl).cast (by simp only [ldV]; rfl)) ?_
    refine rn_ ?_; intros
    refine x_retc rfl hQ hmb rfl (by rw [hty]; simp only [so, sq, zy, zz, tyE, SO', SQ', opQ, opStore, opAlloc, ev, putS, dOk, cv, SV.cs, SV.one, SV.bool?, eqB, Value.oneCell', ldOwn, binInt, binConst, binBool, binStr, isC, TK.agg, rv, rv1, ldV, resOne, resV, Nat.reduceAdd, Nat.reduceMul, Nat.reduceSub, Nat.reduceLT, Nat.reduceLeDiff, Nat.reduceEqDiff, Nat.reduceBEq, reduceIte, reduceCtorEq, eq_self]; try rfl) rfl ?_; simp only [SV.den, resV, dens]
    exact ⟨_, rfl, ⟨hkk, h0, hr0, by show tsz y0 ≤ _; omega, hx.w, hx.c⟩⟩
  (refine x_split rfl rfl rfl (fun hc => absurd hc (by simpa using k7)) (fun _ => ?_); refine st_ ?_; (refine ru_ ?_; intros))
  by_cases k13 : x.v.k = 13
  · have eb : baseF x = ⟨x.v.k, x.v.n, zV, x.w, x.c⟩ := by rw [baseF, if_neg k5, if_neg k6, if_neg k7, if_pos k13]
    rw [eb] at hQ
    (refine x_split rfl rfl rfl (fun _ => ?_) (fun hc => absurd hc (by simpa using k13)); refine st_ ?_; (refine ru_ ?_; intros))
    refine rn_ ?_; intros
    refine x_retc rfl hQ hmb rfl (by rw [hty]; simp only [so, sq, zy, zz, tyE, SO', SQ', opQ, opStore, opAlloc, ev, putS, dOk, cv, SV.cs, SV.one, SV.bool?, eqB, Value.oneCell', ldOwn, binInt, binConst, binBool, binStr, isC, TK.agg, rv, rv1, ldV, resOne, resV, Nat.reduceAdd, Nat.reduceMul, Nat.reduceSub, Nat.reduceLT, Nat.reduceLeDiff, Nat.reduceEqDiff, Nat.reduceBEq, reduceIte, reduceCtorEq, eq_self]; try rfl) rfl ?_; simp only [SV.den, resV, dens]
    exact ⟨_, rfl, ⟨hkk, hkn, zV_rep _, hzt, hx.w, hx.c⟩⟩
  have eb : baseF x = ⟨x.v.k, 0, zV, x.w, x.c⟩ := by rw [baseF, if_neg k5, if_neg k6, if_neg k7, if_neg k13]
  rw [eb] at hQ
  (refine x_split rfl rfl rfl (fun hc => absurd hc (by simpa using k13)) (fun _ => ?_); refine st_ ?_; (refine ru_ ?_; intros))
  refine rn_ ?_; intros
  refine x_retc rfl hQ hmb rfl (by rw [hty]; simp only [so, sq, zy, zz, tyE, SO', SQ', opQ, opStore, opAlloc, ev, putS, dOk, cv, SV.cs, SV.one, SV.bool?, eqB, Value.oneCell', ldOwn, binInt, binConst, binBool, binStr, isC, TK.agg, rv, rv1, ldV, resOne, resV, Nat.reduceAdd, Nat.reduceMul, Nat.reduceSub, Nat.reduceLT, Nat.reduceLeDiff, Nat.reduceEqDiff, Nat.reduceBEq, reduceIte, reduceCtorEq, eq_self]; try rfl) rfl ?_; simp only [SV.den, resV, dens]
  exact ⟨_, rfl, ⟨hkk, h0, zV_rep _, hzt, hx.w, hx.c⟩⟩
end Go.Proofs.YthocgjchmpkhoaaDoor
namespace Go.Proofs.YthocgjchmpkhoaaDoor
set_option linter.unusedSimpArgs false
set_option linter.unusedVariables false
open Go.Sx
set_option maxHeartbeats 8000000
set_option maxRecDepth 20000
def lngI (x : It) : Bool := decide (32 < x.w.length ∨ 32 < x.c.length)
theorem putsF_wr {f : Fc} {l : List It} (h : 32 < (l ++ f.l.drop 1).length + f.b.length ∨ ((l ++ f.l.drop 1).any lngI) = true) : putsF f l = wrF := by
  simp only [putsF]; exact if_pos h
theorem putsF_ok {f : Fc} {l : List It} (h1 : ¬ 32 < (l ++ f.l.drop 1).length + f.b.length) (h2 : ((l ++ f.l.drop 1).any lngI) = false) : putsF f l = ⟨if (l ++ f.l.drop 1).length = 0 then 4 else 1, l ++ f.l.drop 1, f.b, f.c, ⟨0, []⟩⟩ := by
  have h2' : ¬ ((l ++ f.l.drop 1).any lngI) = true := by rw [h2]; decide
  simp only [putsF]; exact if_neg (fun h => h.elim h1 h2')
theorem rputs_ok (f : Fc) (sl sb sc sa : Value) (l : List It) (sp : Value) (G : Hp) (hf : f.rep G sl sb sc sa) (hl : rT.S G l sp) (h1 : 1 ≤ f.l.length) (hb1 : f.l.length ≤ 1000) (hb2 : f.b.length ≤ 1000) (hb3 : l.length ≤ 1000) :
    Pure Tryd.prog 51 [.agg (fcL f sl sb sc sa).toArray, sp] G (fcRet (putsF f l)) := by
  have hcp := hf.cp
  obtain ⟨al, cl, rfl⟩ := Rp.S_slice hf.l
  obtain ⟨ab, cb, rfl⟩ := Rp.S_slice hf.b
  obtain ⟨ac, cc, rfl⟩ := Rp.S_slice hf.c
  obtain ⟨aa, ca, rfl⟩ := Rp.S_slice hf.a
  obtain ⟨ap, cp, rfl⟩ := Rp.S_slice hl
  have hcap := hcp _ _ _ rfl
  obtain ⟨cs, hcs, hsrc⟩ := Rp.srcS hl
  have hlo := Rp.S_lo hf.l (a := 1) (by omega) hcap
  obtain ⟨cs2, hcs2, hsrc2⟩ := Rp.srcS hlo
  refine enterX ty tyok Tryd.func51 rfl Tryd.ntmps51 [.a (fcC f (.slice al f.l.length cl) (.slice ab f.b.length cb) (.slice ac f.c.length cc) (.slice aa f.cl.a.length ca)), .v (.slice ap l.length cp)] (by simp) ?_
  simp only [fcC]
  intro C hP hQ hnt hty hmb hmh hro; have hQp := qp_body hQ; refine st_ ?_
  refine rn_ ?_; intros
  rename_i b0 b1
  refine x_heldP [(0, b0, .c 45 [.v (.int .i64 f.st), .v (.slice al f.l.length cl), .v (.slice ab f.b.length cb), .v (.slice ac f.c.length cc), .v (.int .i64 f.cl.f), .v (.slice aa f.cl.a.length ca)])] 8 rfl (by rw [hP]; kernel_rfl) rfl rfl rfl ?_; refine st_ ?_
  refine hu_take 1 rfl (by kernel_rfl) (by kernel_rfl) (by kernel_rfl) (by kernel_rfl) rfl (fun c a w v => hQp c a w _ v) (by rw [hnt]; rfl) (allIn (by repeat (first | exact trivial | refine ⟨rfl, ?_⟩))) (by first | exact Le.refl _ | assumption) (quiet_op (by rw [hty]; first | rfl | (refine st_ ?_; rfl))) ?_; refine st_ ?_
  refine hu_take 3 rfl (by kernel_rfl) (by kernel_rfl) (by kernel_rfl) (by kernel_rfl) rfl (fun c a w v => hQp c a w _ v) (by rw [hnt]; rfl) (allIn (by repeat (first | exact trivial | refine ⟨rfl, ?_⟩))) (by first | exact Le.refl _ | assumption) (quiet_op (by rw [hty]; first | rfl | (refine st_ ?_; rfl))) ?_; refine st_ ?_
  refine hu_take 4 rfl (by kernel_rfl) (by kernel_rfl) (by kernel_rfl) (by kernel_rfl) rfl (fun c a w v => hQp c a w _ v) (by rw [hnt]; rfl) (allIn (by repeat (first | exact trivial | refine ⟨rfl, ?_⟩))) (by first | exact Le.refl _ | assumption) (quiet_op (by rw [hty]; first | rfl | (refine st_ ?_; rfl))) ?_; refine st_ ?_
  refine hu_take 5 rfl (by kernel_rfl) (by kernel_rfl) (by kernel_rfl) (by kernel_rfl) rfl (fun c a w v => hQp c a w _ v) (by rw [hnt]; rfl) (allIn (by repeat (first | exact trivial | refine ⟨rfl, ?_⟩))) (by first | exact Le.refl _ | assumption) (x := .v (Sx.sliced al cl 1 f.l.length 5)) ((quiet_sliceLo (k := .i64) (n := 1) (by rw [hty]; rfl) (by rw [hty]; rfl) rfl rfl rfl (by omega) (by omega)).cast rfl) ?_
  refine st_ ?_
  refine hu_one 0 rfl (by kernel_rfl) ?_
  refine rn_ ?_; intros
  refine h_hs (allIn (by repeat (first | exact trivial | refine ⟨rfl, ?_⟩))) (by first | exact Le.refl _ | assumption) ?_
  refine hu_one 2 rfl (by kernel_rfl) ?_
  refine go_litrow 2 (n := 0) (size := 5) rfl (by omega) rfl (by omega) ?_
  refine st_ ?_
  refine go_append_any 2 (by rw [hnt]; rfl) (by rw [hty]; rfl) (by rw [hty]; rfl) (by decide) rfl rfl rfl (by omega) rfl (hsrc.imp id fun f => f _ _ rfl) (Rp.L_len hcs) (Rp.L_one hcs) (by omega) (by simp only []; omega) ?_
  intro v1
  refine go_rowS 2 rfl ?_
  rintro a3 c3 rfl
  refine rn_ ?_; intros
  refine h_hs (allIn (by repeat (first | exact trivial | refine ⟨rfl, ?_⟩))) (by first | exact Le.refl _ | assumption) ?_
  refine hu_one 6 rfl (by kernel_rfl) ?_
  have hdl : (f.l.drop 1).length ≤ 1000 := by rw [List.length_drop]; omega
  refine go_append_any 2 (by rw [hnt]; rfl) (by rw [hty]; rfl) (by rw [hty]; rfl) (by decide) rfl rfl rfl (by omega) rfl (hsrc2.imp id fun f => f _ _ rfl) (Rp.L_len hcs2) (Rp.L_one hcs2) (by omega) (by simp only []; omega) ?_
  intro v2
  refine go_rowC 2 rfl ?_
  rintro a4 c4 rfl hc4
  refine rn_ ?_; intros
  refine h_hs (allIn (by repeat (first | exact trivial | refine ⟨rfl, ?_⟩))) (by first | exact Le.refl _ | assumption) ?_
  refine hu_one 7 rfl (by kernel_rfl) ?_
  refine rn_ ?_; intros
  refine h_hs (allIn (by repeat (first | exact trivial | refine ⟨rfl, ?_⟩))) (by first | exact Le.refl _ | assumption) ?_
  refine hu_last 8 [] rfl (by kernel_rfl) rfl ?_
  refine rn_ ?_; intros
  refine h_end (by kernel_rfl) ?_
  have hLL : rT.L G (l ++ f.l.drop 1) (cs ++ cs2) := Rp.L_append hcs hcs2
  have hln : (l ++ f.l.drop 1).length = l.length + (f.l.drop 1).length := List.length_append
  obtain ⟨L, hL⟩ : ∃ L, L = l ++ f.l.drop 1 := ⟨_, rfl⟩
  have hwr := fun h => putsF_wr (f := f) (l := l) h
  have hok := fun h1 h2 => putsF_ok (f := f) (l := l) h1 h2
  rw [← hL] at hLL hln hwr hok
  rw [← hln] at ⊢ hc4
  have hLn : L.length ≤ 2000 := by omega
  refine go_keep [2, 4] [0, 1, 2] ?_
  refine st_ ?_
  refine go_pubL rT 2 rfl (by omega) (ts := L) rfl (by omega) hLL ?_
  intro G1 ad1 cap1 (hle1 : Le G G1) he1 hS1
  rw [← he1] at hS1
  refine st_ ?_
  refine rn_ ?_; intros
  by_cases hz : L.length = 0
  · have hst : (if L.length = 0 then (4 : Int) else 1) = 4 := if_pos hz
    (refine x_split rfl rfl rfl (fun _ => ?_) (fun hc => absurd hc (by simpa using hz)); refine st_ ?_; (refine ru_ ?_; intros))
    refine rn_ ?_; intros
    rw [wr (n := (L.length : Int) + f.b.length) (by omega) (by omega)]
    by_cases hbig : 32 < L.length + f.b.length
    · (refine x_split rfl rfl rfl (fun _ => ?_) (fun hc => absurd hc (by simp; omega)); refine st_ ?_; (refine ru_ ?_; intros))
      refine rn_ ?_; intros
      refine go_callf (by rw [hnt]; rfl) (by rw [hP]; kernel_rfl) rfl (hP ▸ rwrong_ok G1) ?_; refine rn_ ?_; intros
      refine x_retc rfl hQ hmb rfl (by rw [hty]; simp only [so, sq, zy, zz, tyE, SO', SQ', opQ, opStore, opAlloc, ev, putS, dOk, cv, SV.cs, SV.one, SV.bool?, eqB, Value.oneCell', ldOwn, binInt, binConst, binBool, binStr, isC, TK.agg, rv, rv1, ldV, resOne, resV, Nat.reduceAdd, Nat.reduceMul, Nat.reduceSub, Nat.reduceLT, Nat.reduceLeDiff, Nat.reduceEqDiff, Nat.reduceBEq, reduceIte, reduceCtorEq, eq_self]; try rfl) rfl ?_; simp only [SV.den, resV, dens]
      rw [hwr (.inl hbig)]
      exact ⟨_, _, _, _, rfl, wrF_rep _⟩
    (refine x_split rfl rfl rfl (fun hc => absurd hc (by simp; omega)) (fun _ => ?_); refine st_ ?_; (refine ru_ ?_; intros))
    refine rn_ ?_; intros
    refine go_keep [2, 4, 5] [0, 1] ?_
    refine st_ ?_
    refine x_loop rfl (fun q st => ∃ (k : Nat), k ≤ L.length ∧ q = L.length - k ∧ (L.take k).any lngI = false ∧
      st = ⟨[(2, .p 0 b0 0), (4, .p 1 b1 0), (5, .v (.int .i64 k))],
        [(0, b0, .c 45 [.v (.int .i64 4), .v (.slice a4 L.length c4), .v (.slice ab f.b.length cb), .v (.slice ac f.c.length cc), .v (.int .i64 0), .v (.slice none 0 0)]),
         (1, b1, .c 45 [.v (.int .i64 0), .v (.slice none 0 0), .v (.slice none 0 0), .v (.slice none 0 0), .v (.int .i64 0), .v (.slice none 0 0)])], G1, []⟩) ⟨0, by omega, rfl, rfl, rfl⟩ ?_
    rintro q st ⟨k, hk, hq, hany, rfl⟩ ih
    refine rn_ ?_; intros
    refine x_if rfl rfl rfl rfl (fun hkl => ?_) (fun hkl => ?_)
    · have hlt : k < L.length := by simp at hkl; omega
      obtain ⟨c1, o1, s1, s2, s3, rfl, hat, hrx⟩ := rT_at hS1 hlt
      have lw := Rp.S_len hrx.w
      have lc := Rp.S_len hrx.c
      obtain ⟨x2, p2, rfl⟩ := Rp.S_slice hrx.w
      obtain ⟨x3, p3, rfl⟩ := Rp.S_slice hrx.c
      refine rn_ ?_; intros
      refine go_q (by rw [hnt]; rfl) (quiet_index (by rw [hty]; rfl) (by rw [hty]; rfl) rfl rfl rfl (by omega) (by omega)) ?_
      refine rn_ ?_; intros
      refine go_q (v := .slice x2 L[k].w.length p2) (by rw [hnt]; rfl) ((quiet_load (vs := [.slice x2 L[k].w.length p2]) (by rw [hty]; rfl) rfl (by simp [TK.agg]) (by simpa [itL] using hat.sub 3 1 (by simp [itL])) rfl).cast (by rfl)) ?_
      refine rn_ ?_; intros
      by_cases hw : 32 < L[k].w.length
      · (refine go_gsplit rfl rfl (fun _ => ?_) (fun hc => absurd hc (by simp; omega)); refine st_ ?_; (refine rn_ ?_; intros))
        repeat (refine go_gundef rfl (by rw [hnt]; rfl) rfl ?_; (refine st_ ?_; (refine rn_ ?_; intros)))
        (try ((refine x_split rfl rfl rfl (fun _ => ?_) (fun hc => absurd hc (by first | decide +kernel | (simp; first | done | fail))); refine st_ ?_; (refine ru_ ?_; intros))))
        refine rn_ ?_; intros
        refine go_callf (by rw [hnt]; rfl) (by rw [hP]; kernel_rfl) rfl (hP ▸ rwrong_ok G1) ?_; refine rn_ ?_; intros
        refine x_retc rfl hQ hmb rfl (by rw [hty]; simp only [so, sq, zy, zz, tyE, SO', SQ', opQ, opStore, opAlloc, ev, putS, dOk, cv, SV.cs, SV.one, SV.bool?, eqB, Value.oneCell', ldOwn, binInt, binConst, binBool, binStr, isC, TK.agg, rv, rv1, ldV, resOne, resV, Nat.reduceAdd, Nat.reduceMul, Nat.reduceSub, Nat.reduceLT, Nat.reduceLeDiff, Nat.reduceEqDiff, Nat.reduceBEq, reduceIte, reduceCtorEq, eq_self]; try rfl) rfl ?_; simp only [SV.den, resV, dens]
        rw [hwr (.inr (List.any_eq_true.2 ⟨L[k], List.getElem_mem _, by simp [lngI, hw]⟩))]
        exact ⟨_, _, _, _, rfl, wrF_rep _⟩
      (refine go_gsplit rfl rfl (fun hc => absurd hc (by simp; omega)) (fun _ => ?_); refine st_ ?_; (refine rn_ ?_; intros))
      refine go_q (by rw [hnt]; rfl) (quiet_index (by rw [hty]; rfl) (by rw [hty]; rfl) rfl rfl rfl (by omega) (by omega)) ?_
      refine rn_ ?_; intros
      refine go_q (v := .slice x3 L[k].c.length p3) (by rw [hnt]; rfl) ((quiet_load (vs := [.slice x3 L[k].c.length p3]) (by rw [hty]; rfl) rfl (by simp [TK.agg]) (by simpa [itL] using hat.sub 4 1 (by simp [itL])) rfl).cast (by rfl)) ?_
      refine rn_ ?_; intros
      by_cases hc : 32 < L[k].c.length
      · (refine x_split rfl rfl rfl (fun _ => ?_) (fun hc => absurd hc (by simp; omega)); refine st_ ?_; (refine ru_ ?_; intros))
        refine rn_ ?_; intros
        refine go_callf (by rw [hnt]; rfl) (by rw [hP]; kernel_rfl) rfl (hP ▸ rwrong_ok G1) ?_; refine rn_ ?_; intros
        refine x_retc rfl hQ hmb rfl (by rw [hty]; simp only [so, sq, zy, zz, tyE, SO', SQ', opQ, opStore, opAlloc, ev, putS, dOk, cv, SV.cs, SV.one, SV.bool?, eqB, Value.oneCell', ldOwn, binInt, binConst, binBool, binStr, isC, TK.agg, rv, rv1, ldV, resOne, resV, Nat.reduceAdd, Nat.reduceMul, Nat.reduceSub, Nat.reduceLT, Nat.reduceLeDiff, Nat.reduceEqDiff, Nat.reduceBEq, reduceIte, reduceCtorEq, eq_self]; try rfl) rfl ?_; simp only [SV.den, resV, dens]
        rw [hwr (.inr (List.any_eq_true.2 ⟨L[k], List.getElem_mem _, by simp [lngI, hc]⟩))]
        exact ⟨_, _, _, _, rfl, wrF_rep _⟩
      (refine x_split rfl rfl rfl (fun hc => absurd hc (by simp; omega)) (fun _ => ?_); refine st_ ?_; (refine ru_ ?_; intros))
      refine rn_ ?_; intros
      rw [wr (n := (k : Int) + 1) (by omega) (by omega)]
      refine go_keep [2, 4, 5] [0, 1] ?_
      refine st_ ?_
      exact ih (L.length - (k + 1)) _ (by omega) ⟨k + 1, by omega, rfl, by rw [← List.take_append_getElem hlt, List.any_append, hany]; simp [lngI]; omega, rfl⟩
    have hge : k = L.length := by simp at hkl; omega
    rw [hge, List.take_length] at hany
    refine rn_ ?_; intros
    refine x_retc rfl hQ hmb rfl (by rw [hty]; simp only [so, sq, zy, zz, tyE, SO', SQ', opQ, opStore, opAlloc, ev, putS, dOk, cv, SV.cs, SV.one, SV.bool?, eqB, Value.oneCell', ldOwn, binInt, binConst, binBool, binStr, isC, TK.agg, rv, rv1, ldV, resOne, resV, Nat.reduceAdd, Nat.reduceMul, Nat.reduceSub, Nat.reduceLT, Nat.reduceLeDiff, Nat.reduceEqDiff, Nat.reduceBEq, reduceIte, reduceCtorEq, eq_self]; try rfl) rfl ?_; simp only [SV.den, resV, dens]
    rw [hok hbig hany, hst]
    exact ⟨_, _, _, _, rfl, ⟨fun ad n c h => by cases h; exact hc4, hS1, Rp.S_mono hle1 hf.b, Rp.S_mono hle1 hf.c, Rp.S_nil _ _⟩⟩
  · have hst : (if L.length = 0 then (4 : Int) else 1) = 1 := if_neg hz
    (refine x_split rfl rfl rfl (fun hc => absurd hc (by simpa using hz)) (fun _ => ?_); refine st_ ?_; (refine ru_ ?_; intros))
    refine rn_ ?_; intros
    rw [wr (n := (L.length : Int) + f.b.length) (by omega) (by omega)]
    by_cases hbig : 32 < L.length + f.b.length
    · (refine x_split rfl rfl rfl (fun _ => ?_) (fun hc => absurd hc (by simp; omega)); refine st_ ?_; (refine ru_ ?_; intros))
      refine rn_ ?_; intros
      refine go_callf (by rw [hnt]; rfl) (by rw [hP]; kernel_rfl) rfl (hP ▸ rwrong_ok G1) ?_; refine rn_ ?_; intros
      refine x_retc rfl hQ hmb rfl (by rw [hty]; simp only [so, sq, zy, zz, tyE, SO', SQ', opQ, opStore, opAlloc, ev, putS, dOk, cv, SV.cs, SV.one, SV.bool?, eqB, Value.oneCell', ldOwn, binInt, binConst, binBool, binStr, isC, TK.agg, rv, rv1, ldV, resOne, resV, Nat.reduceAdd, Nat.reduceMul, Nat.reduceSub, Nat.reduceLT, Nat.reduceLeDiff, Nat.reduceEqDiff, Nat.reduceBEq, reduceIte, reduceCtorEq, eq_self]; try rfl) rfl ?_; simp only [SV.den, resV, dens]
      rw [hwr (.inl hbig)]
      exact ⟨_, _, _, _, rfl, wrF_rep _⟩
    (refine x_split rfl rfl rfl (fun hc => absurd hc (by simp; omega)) (fun _ => ?_); refine st_ ?_; (refine ru_ ?_; intros))
    refine rn_ ?_; intros
    refine go_keep [2, 4, 5] [0, 1] ?_
    refine st_ ?_
    refine x_loop rfl (fun q st => ∃ (k : Nat), k ≤ L.length ∧ q = L.length - k ∧ (L.take k).any lngI = false ∧
      st = ⟨[(2, .p 0 b0 0), (4, .p 1 b1 0), (5, .v (.int .i64 k))],
        [(0, b0, .c 45 [.v (.int .i64 1), .v (.slice a4 L.length c4), .v (.slice ab f.b.length cb), .v (.slice ac f.c.length cc), .v (.int .i64 0), .v (.slice none 0 0)]),
         (1, b1, .c 45 [.v (.int .i64 0), .v (.slice none 0 0), .v (.slice none 0 0), .v (.slice none 0 0), .v (.int .i64 0), .v (.slice none 0 0)])], G1, []⟩) ⟨0, by omega, rfl, rfl, rfl⟩ ?_
    rintro q st ⟨k, hk, hq, hany, rfl⟩ ih
    refine rn_ ?_; intros
    refine x_if rfl rfl rfl rfl (fun hkl => ?_) (fun hkl => ?_)
    · have hlt : k < L.length := by simp at hkl; omega
      obtain ⟨c1, o1, s1, s2, s3, rfl, hat, hrx⟩ := rT_at hS1 hlt
      have lw := Rp.S_len hrx.w
      have lc := Rp.S_len hrx.c
      obtain ⟨x2, p2, rfl⟩ := Rp.S_slice hrx.w
      obtain ⟨x3, p3, rfl⟩ := Rp.S_slice hrx.c
      refine rn_ ?_; intros
      refine go_q (by rw [hnt]; rfl) (quiet_index (by rw [hty]; rfl) (by rw [hty]; rfl) rfl rfl rfl (by omega) (by omega)) ?_
      refine rn_ ?_; intros
      refine go_q (v := .slice x2 L[k].w.length p2) (by rw [hnt]; rfl) ((quiet_load (vs := [.slice x2 L[k].w.length p2]) (by rw [hty]; rfl) rfl (by simp [TK.agg]) (by simpa [itL] using hat.sub 3 1 (by simp [itL])) rfl).cast (by rfl)) ?_
      refine rn_ ?_; intros
      by_cases hw : 32 < L[k].w.length
      · (refine go_gsplit rfl rfl (fun _ => ?_) (fun hc => absurd hc (by simp; omega)); refine st_ ?_; (refine rn_ ?_; intros))
        repeat (refine go_gundef rfl (by rw [hnt]; rfl) rfl ?_; (refine st_ ?_; (refine rn_ ?_; intros)))
        (try ((refine x_split rfl rfl rfl (fun _ => ?_) (fun hc => absurd hc (by first | decide +kernel | (simp; first | done | fail))); refine st_ ?_; (refine ru_ ?_; intros))))
        refine rn_ ?_; intros
        refine go_callf (by rw [hnt]; rfl) (by rw [hP]; kernel_rfl) rfl (hP ▸ rwrong_ok G1) ?_; refine rn_ ?_; intros
        refine x_retc rfl hQ hmb rfl (by rw [hty]; simp only [so, sq, zy, zz, tyE, SO', SQ', opQ, opStore, opAlloc, ev, putS, dOk, cv, SV.cs, SV.one, SV.bool?, eqB, Value.oneCell', ldOwn, binInt, binConst, binBool, binStr, isC, TK.agg, rv, rv1, ldV, resOne, resV, Nat.reduceAdd, Nat.reduceMul, Nat.reduceSub, Nat.reduceLT, Nat.reduceLeDiff, Nat.reduceEqDiff, Nat.reduceBEq, reduceIte, reduceCtorEq, eq_self]; try rfl) rfl ?_; simp only [SV.den, resV, dens]
        rw [hwr (.inr (List.any_eq_true.2 ⟨L[k], List.getElem_mem _, by simp [lngI, hw]⟩))]
        exact ⟨_, _, _, _, rfl, wrF_rep _⟩
      (refine go_gsplit rfl rfl (fun hc => absurd hc (by simp; omega)) (fun _ => ?_); refine st_ ?_; (refine rn_ ?_; intros))
      refine go_q (by rw [hnt]; rfl) (quiet_index (by rw [hty]; rfl) (by rw [hty]; rfl) rfl rfl rfl (by omega) (by omega)) ?_
      refine rn_ ?_; intros
      refine go_q (v := .slice x3 L[k].c.length p3) (by rw [hnt]; rfl) ((quiet_load (vs := [.slice x3 L[k].c.length p3]) (by rw [hty]; rfl) rfl (by simp [TK.agg]) (by simpa [itL] using hat.sub 4 1 (by simp [itL])) rfl).cast (by rfl)) ?_
      refine rn_ ?_; intros
      by_cases hc : 32 < L[k].c.length
      · (refine x_split rfl rfl rfl (fun _ => ?_) (fun hc => absurd hc (by simp; omega)); refine st_ ?_; (refine ru_ ?_; intros))
        refine rn_ ?_; intros
        refine go_callf (by rw [hnt]; rfl) (by rw [hP]; kernel_rfl) rfl (hP ▸ rwrong_ok G1) ?_; refine rn_ ?_; intros
        refine x_retc rfl hQ hmb rfl (by rw [hty]; simp only [so, sq, zy, zz, tyE, SO', SQ', opQ, opStore, opAlloc, ev, putS, dOk, cv, SV.cs, SV.one, SV.bool?, eqB, Value.oneCell', ldOwn, binInt, binConst, binBool, binStr, isC, TK.agg, rv, rv1, ldV, resOne, resV, Nat.reduceAdd, Nat.reduceMul, Nat.reduceSub, Nat.reduceLT, Nat.reduceLeDiff, Nat.reduceEqDiff, Nat.reduceBEq, reduceIte, reduceCtorEq, eq_self]; try rfl) rfl ?_; simp only [SV.den, resV, dens]
        rw [hwr (.inr (List.any_eq_true.2 ⟨L[k], List.getElem_mem _, by simp [lngI, hc]⟩))]
        exact ⟨_, _, _, _, rfl, wrF_rep _⟩
      (refine x_split rfl rfl rfl (fun hc => absurd hc (by simp; omega)) (fun _ => ?_); refine st_ ?_; (refine ru_ ?_; intros))
      refine rn_ ?_; intros
      rw [wr (n := (k : Int) + 1) (by omega) (by omega)]
      refine go_keep [2, 4, 5] [0, 1] ?_
      refine st_ ?_
      exact ih (L.length - (k + 1)) _ (by omega) ⟨k + 1, by omega, rfl, by rw [← List.take_append_getElem hlt, List.any_append, hany]; simp [lngI]; omega, rfl⟩
    have hge : k = L.length := by simp at hkl; omega
    rw [hge, List.take_length] at hany
    refine rn_ ?_; intros
    refine x_retc rfl hQ hmb rfl (by rw [hty]; simp only [so, sq, zy, zz, tyE, SO', SQ', opQ, opStore, opAlloc, ev, putS, dOk, cv, SV.cs, SV.one, SV.bool?, eqB, Value.oneCell', ldOwn, binInt, binConst, binBool, binStr, isC, TK.agg, rv, rv1, ldV, resOne, resV, Nat.reduceAdd, Nat.reduceMul, Nat.reduceSub, Nat.reduceLT, Nat.reduceLeDiff, Nat.reduceEqDiff, Nat.reduceBEq, reduceIte, reduceCtorEq, eq_self]; try rfl) rfl ?_; simp only [SV.den, resV, dens]
    rw [hok hbig hany, hst]
    exact ⟨_, _, _, _, rfl, ⟨fun ad n c h => by cases h; exact hc4, hS1, Rp.S_mono hle1 hf.b, Rp.S_mono hle1 hf.c, Rp.S_nil _ _⟩⟩
end Go.Proofs.YthocgjchmpkhoaaDoor
namespace Go.Sx
set_option linter.unusedSimpArgs false
set_option linter.unusedVariables false
open Go.RowKit
section
variable {F : Fence} {n : Nat} {P : Program} {Q : Exit → Act → World → Prop} {a : Act} {w : World} {b : Frame} {k : List Item} {cs : List Frame}
end
section
variable {C : Ctx} {K : List KI} {s : St} {k : Code}
theorem cut_tailK (n : Nat) (P : St → Prop) (key : ∀ s', P s' → SGo C (K.drop n) s') (h : ∀ Kr, (∀ s', P s' → SGo C Kr s') → SGo C (K.take n ++ Kr) s) : SGo C K s := by
  have := h _ key
  rwa [List.take_append_drop] at this
end
end Go.Sx
namespace Go.Proofs.YthocgjchmpkhoaaDoor
set_option linter.unusedSimpArgs false
set_option linter.unusedVariables false
open Go.Sx
set_option maxHeartbeats 16000000
set_option maxRecDepth 20000
def fsRet (r : Fc × Int) (v : Value) (G : Hp) : Prop := ∃ sl sb sc sa, v = .tuple #[.agg (fcL r.1 sl sb sc sa).toArray, .int .i64 r.2] ∧ r.1.rep G sl sb sc sa
theorem vld_shp {x : VT} (h : vld x = true) : shp x = true := by
  simp only [vld, Bool.and_eq_true] at h
  have h2 := h.2
  obtain ⟨k, n, l⟩ := x
  simp only [shps, Bool.and_eq_true] at h2
  exact h2.1
theorem vld_k5 {x : VT} (h : vld x = true) (hk : x.k = 5) : x.l.length = 2 := by
  have h2 := vld_shp h
  obtain ⟨k, n, l⟩ := x
  simp only [VT.k] at hk
  subst hk
  simp [shp] at h2
  simpa [VT.l] using by omega
theorem vld_k67 {x : VT} (h : vld x = true) (hk : x.k = 6 ∨ x.k = 7) : x.l.length = 1 := by
  have h2 := vld_shp h
  obtain ⟨k, n, l⟩ := x
  simp only [VT.k] at hk
  rcases hk with hk | hk <;> subst hk <;> simp [shp] at h2 <;> simpa [VT.l] using by omega
theorem vld_k9 {x : VT} (h : vld x = true) (hk : x.k = 9) : x.l.length ≤ 16 := by
  have h2 := vld_shp h
  obtain ⟨k, n, l⟩ := x
  simp only [VT.k] at hk
  subst hk
  simp [shp] at h2
  simpa [VT.l] using by omega
theorem vld_k10 {x : VT} (h : vld x = true) (hk : x.k = 10) : 1 ≤ x.l.length := by
  have h2 := vld_shp h
  obtain ⟨k, n, l⟩ := x
  simp only [VT.k] at hk
  subst hk
  simp [shp] at h2
  simpa [VT.l] using by omega
theorem repVC_L {G : Hp} : ∀ {l : List VT} {cs : List Value}, repVC G l cs → tszL l ≤ 1048576 → rV.L G l cs
  | [], cs, h, _ => by simp only [repVC] at h; exact h
  | y :: l, cs, h, hb => by
    simp only [repVC] at h
    obtain ⟨sl, r, rfl, h4, h5⟩ := h
    simp only [tszL] at hb
    exact ⟨[_, _, _], r, rfl, ⟨sl, rfl, h4, by omega⟩, repVC_L h5 (by omega)⟩
theorem rV_of {x : VT} {sl : Value} {G : Hp} (h : x.repC G sl) (hb : tsz x ≤ 1048576) : rV.S G x.l sl := by
  obtain ⟨k, n, l⟩ := x
  rw [repC_iff] at h
  obtain ⟨_, _, hl, ad, cap, rfl, _, hr⟩ := h
  refine ⟨hl, ad, cap, rfl, ?_⟩
  rcases hr with hr | ⟨b, off, cs, h1, h2, h3⟩
  · exact .inl hr
  · exact .inr ⟨b, off, cs, h1, h2, repVC_L h3 (by simp only [tsz] at hb; show tszL l ≤ _; omega)⟩
theorem rstep_ok (f : Fc) (sl sb sc sa : Value) (G : Hp) (hf : f.rep G sl sb sc sa) (h1 : f.st = 1 → 1 ≤ f.l.length) (hv : ∀ x ∈ f.l, vld x.v = true) (hw : ∀ x ∈ f.l, x.w.length ≤ 100) (hb1 : f.l.length ≤ 100) (hb2 : f.b.length ≤ 100) :
    Pure Tryd.prog 27 [.agg (fcL f sl sb sc sa).toArray] G (fsRet (stepF f)) := by
  have hcp := hf.cp
  obtain ⟨al, cl, rfl⟩ := Rp.S_slice hf.l
  obtain ⟨ab, cb, rfl⟩ := Rp.S_slice hf.b
  obtain ⟨ac, cc, rfl⟩ := Rp.S_slice hf.c
  obtain ⟨aa, ca, rfl⟩ := Rp.S_slice hf.a
  refine enterX ty tyok Tryd.func27 rfl Tryd.ntmps27 [.a (fcC f (.slice al f.l.length cl) (.slice ab f.b.length cb) (.slice ac f.c.length cc) (.slice aa f.cl.a.length ca))] (by simp) ?_
  simp only [fcC]
  intro C hP hQ hnt hty hmb hmh hro; have hQp := qp_body hQ; refine st_ ?_
  refine rn_ ?_; intros
  rename_i bf br
  by_cases hs : f.st = 1
  rotate_left
  · have hst : stepF f = (f, 100) := by rw [stepF, if_pos hs]
    (refine x_split rfl rfl rfl (fun _ => ?_) (fun hc => absurd hc (by simpa using hs)); refine st_ ?_; (refine ru_ ?_; intros))
    refine rn_ ?_; intros
    refine x_retc rfl hQ hmb rfl (by rw [hty]; simp only [so, sq, zy, zz, tyE, SO', SQ', opQ, opStore, opAlloc, ev, putS, dOk, cv, SV.cs, SV.one, SV.bool?, eqB, Value.oneCell', ldOwn, binInt, binConst, binBool, binStr, isC, TK.agg, rv, rv1, ldV, resOne, resV, Nat.reduceAdd, Nat.reduceMul, Nat.reduceSub, Nat.reduceLT, Nat.reduceLeDiff, Nat.reduceEqDiff, Nat.reduceBEq, reduceIte, reduceCtorEq, eq_self]; try rfl) rfl ?_; simp only [SV.den, resV, dens]
    rw [hst]
    exact ⟨_, _, _, _, rfl, hf⟩
  (refine x_split rfl rfl rfl (fun hc => absurd hc (by simpa using hs)) (fun _ => ?_); refine st_ ?_; (refine ru_ ?_; intros))
  have hl1 := h1 hs
  obtain ⟨c0, o0, s1, s2, s3, e0, hat, hrx⟩ := rT_at hf.l (i := 0) (by omega)
  subst e0
  obtain ⟨x, r, hfl⟩ : ∃ x r, f.l = x :: r := by
    cases hl : f.l with
    | nil => rw [hl] at hl1; simp at hl1
    | cons x r => exact ⟨x, r, rfl⟩
  have hh : f.l.head? = some x := by rw [hfl]; rfl
  have hx0 : f.l[0]'(by omega) = x := by simp [hfl]
  rw [hx0] at hat hrx
  have hvx := hv x (by rw [hfl]; simp)
  obtain ⟨a1, q1, rfl⟩ := VT.repC_slice hrx.v
  obtain ⟨a2, q2, rfl⟩ := Rp.S_slice hrx.w
  obtain ⟨a3, q3, rfl⟩ := Rp.S_slice hrx.c
  refine rn_ ?_; intros
  refine go_q (by rw [hnt]; rfl) (quiet_index (by rw [hty]; rfl) (by rw [hty]; rfl) rfl rfl rfl (by omega) (by omega)) ?_
  refine rn_ ?_; intros
  refine go_q (v := .agg (itL x (.slice a1 x.v.l.length q1) (.slice a2 x.w.length q2) (.slice a3 x.c.length q3)).toArray) (by rw [hnt]; rfl) ((quiet_load (by rw [hty]; rfl) rfl (fun q => by cases q) (by simpa using hat) rfl).cast (by simp only [ldV]; rfl)) ?_
  simp only [itL]
  refine rn_ ?_; intros
  rename_i bx
  refine go_keep [1, 2, 3, 4, 18, 19] [0, 1, 2] ?_
  refine st_ ?_
  refine cut_tailK 1 (fun s' => s' = ⟨[(1, .p 0 bf 0), (2, .p 1 br 0), (3, .v (.int .i64 0)), (4, .p 2 bx 0), (18, .v (.int .i64 x.v.k)), (19, .v (.bool (isB x.v.k)))], [(0, bf, .c 45 [.v (.int .i64 f.st), .v (.slice (some ⟨c0, o0, none⟩) f.l.length cl), .v (.slice ab f.b.length cb), .v (.slice ac f.c.length cc), .v (.int .i64 f.cl.f), .v (.slice aa f.cl.a.length ca)]), (1, br, .c 45 [.v (.int .i64 0), .v (.slice none 0 0), .v (.slice none 0 0), .v (.slice none 0 0), .v (.int .i64 0), .v (.slice none 0 0)]), (2, bx, .c 81 [.v (.int .i64 x.v.k), .v (.int .i64 x.v.n), .v (.slice a1 x.v.l.length q1), .v (.slice a2 x.w.length q2), .v (.slice a3 x.c.length q3)])], G, []⟩) ?_ ?_
  rotate_left
  · intro Kr key
    simp only [List.take_succ_cons, List.take_zero, List.cons_append, List.nil_append]
    by_cases k5 : x.v.k = 5
    · (refine x_split rfl rfl rfl (fun _ => ?_) (fun hc => absurd hc (by simpa using k5)); refine st_ ?_; (refine ru_ ?_; intros))
      refine go_slot 19 (.v (.bool (isB x.v.k))) rfl (by simp [SV.den, isB, k5]) ?_
      refine go_keep [1, 2, 3, 4, 18, 19] [0, 1, 2] ?_
      refine st_ ?_
      exact key _ rfl
    (refine x_split rfl rfl rfl (fun hc => absurd hc (by simpa using k5)) (fun _ => ?_); refine st_ ?_; (refine ru_ ?_; intros))
    refine rn_ ?_; intros
    by_cases k6 : x.v.k = 6
    · (refine x_split rfl rfl rfl (fun _ => ?_) (fun hc => absurd hc (by simpa using k6)); refine st_ ?_; (refine ru_ ?_; intros))
      refine go_slot 19 (.v (.bool (isB x.v.k))) rfl (by simp [SV.den, isB, k6]) ?_
      refine go_keep [1, 2, 3, 4, 18, 19] [0, 1, 2] ?_
      refine st_ ?_
      exact key _ rfl
    (refine x_split rfl rfl rfl (fun hc => absurd hc (by simpa using k6)) (fun _ => ?_); refine st_ ?_; (refine ru_ ?_; intros))
    refine rn_ ?_; intros
    by_cases k7 : x.v.k = 7
    · (refine x_split rfl rfl rfl (fun _ => ?_) (fun hc => absurd hc (by simpa using k7)); refine st_ ?_; (refine ru_ ?_; intros))
      refine go_slot 19 (.v (.bool (isB x.v.k))) rfl (by simp [SV.den, isB, k7]) ?_
      refine go_keep [1, 2, 3, 4, 18, 19] [0, 1, 2] ?_
      refine st_ ?_
      exact key _ rfl
    (refine x_split rfl rfl rfl (fun hc => absurd hc (by simpa using k7)) (fun _ => ?_); refine st_ ?_; (refine ru_ ?_; intros))
    refine rn_ ?_; intros
    by_cases k8 : x.v.k = 8
    · (refine x_split rfl rfl rfl (fun _ => ?_) (fun hc => absurd hc (by simpa using k8)); refine st_ ?_; (refine ru_ ?_; intros))
      refine go_slot 19 (.v (.bool (isB x.v.k))) rfl (by simp [SV.den, isB, k8]) ?_
      refine go_keep [1, 2, 3, 4, 18, 19] [0, 1, 2] ?_
      refine st_ ?_
      exact key _ rfl
    (refine x_split rfl rfl rfl (fun hc => absurd hc (by simpa using k8)) (fun _ => ?_); refine st_ ?_; (refine ru_ ?_; intros))
    refine rn_ ?_; intros
    refine go_slot 19 (.v (.bool (isB x.v.k))) rfl (by simp [SV.den, isB, k5, k6, k7, k8]) ?_
    refine go_keep [1, 2, 3, 4, 18, 19] [0, 1, 2] ?_
    refine st_ ?_
    exact key _ rfl
  rintro s' rfl
  simp only [List.drop_succ_cons, List.drop_zero]
  refine rn_ ?_; intros
  by_cases hB : isB x.v.k = true
  · have hsf : stepF f = (putsF { f with b := f.b ++ [baseF x] } [], 0) := by rw [stepF, if_neg (by simp [hs]), hh]; exact if_pos hB
    (refine x_split rfl rfl rfl (fun _ => ?_) (fun hc => absurd hc (by simpa using hB)); refine st_ ?_; (refine ru_ ?_; intros))
    obtain ⟨csb, hcsb, hsrcb⟩ := Rp.srcS hf.b
    refine x_heldP [(0, bf, .c 45 [.v (.int .i64 f.st), .v (.slice (some ⟨c0, o0, none⟩) f.l.length cl), .v (.slice ab f.b.length cb), .v (.slice ac f.c.length cc), .v (.int .i64 f.cl.f), .v (.slice aa f.cl.a.length ca)]), (2, bx, .c 81 [.v (.int .i64 x.v.k), .v (.int .i64 x.v.n), .v (.slice a1 x.v.l.length q1), .v (.slice a2 x.w.length q2), .v (.slice a3 x.c.length q3)])] 9 rfl (by rw [hP]; kernel_rfl) rfl rfl rfl ?_; refine st_ ?_
    refine hu_take 1 rfl (by kernel_rfl) (by kernel_rfl) (by kernel_rfl) (by kernel_rfl) rfl (fun c a w v => hQp c a w _ v) (by rw [hnt]; rfl) (allIn (by repeat (first | exact trivial | refine ⟨rfl, ?_⟩))) (by first | exact Le.refl _ | assumption) (quiet_op (by rw [hty]; first | rfl | (refine st_ ?_; rfl))) ?_; refine st_ ?_
    refine hu_take 2 rfl (by kernel_rfl) (by kernel_rfl) (by kernel_rfl) (by kernel_rfl) rfl (fun c a w v => hQp c a w _ v) (by rw [hnt]; rfl) (allIn (by repeat (first | exact trivial | refine ⟨rfl, ?_⟩))) (by first | exact Le.refl _ | assumption) (quiet_op (by rw [hty]; first | rfl | (refine st_ ?_; rfl))) ?_; refine st_ ?_
    refine hu_take 4 rfl (by kernel_rfl) (by kernel_rfl) (by kernel_rfl) (by kernel_rfl) rfl (fun c a w v => hQp c a w _ v) (by rw [hnt]; rfl) (allIn (by repeat (first | exact trivial | refine ⟨rfl, ?_⟩))) (by first | exact Le.refl _ | assumption) (quiet_op (by rw [hty]; first | rfl | (refine st_ ?_; rfl))) ?_; refine st_ ?_
    refine hu_one 0 rfl (by kernel_rfl) ?_
    refine rn_ ?_; intros
    refine h_hs (allIn (by repeat (first | exact trivial | refine ⟨rfl, ?_⟩))) (by first | exact Le.refl _ | assumption) ?_
    refine hu_one 3 rfl (by kernel_rfl) ?_
    refine go_litrow 3 (n := 0) (size := 7) rfl (by omega) rfl (by omega) ?_
    refine st_ ?_
    refine go_append_any 3 (by rw [hnt]; rfl) (by rw [hty]; rfl) (by rw [hty]; rfl) (by decide) rfl rfl rfl (by omega) rfl (hsrcb.imp id fun f => f _ _ rfl) (Rp.L_len hcsb) (Rp.L_one hcsb) (by omega) (by simp only []; omega) ?_
    intro v1
    refine go_rowS 3 rfl ?_
    rintro y3 z3 rfl
    refine rn_ ?_; intros
    refine h_hs (allIn (by repeat (first | exact trivial | refine ⟨rfl, ?_⟩))) (by first | exact Le.refl _ | assumption) ?_
    refine hu_one 5 rfl (by kernel_rfl) ?_
    refine go_call (by rw [hnt]; rfl) (by rw [hP]; kernel_rfl) rfl (hP ▸ rbase_ok x _ _ _ G hrx (fun h => by rw [vld_k5 hvx h]; omega) (fun h => by rw [vld_k67 hvx h]; omega)) ?_
    rintro v G1 (hle1 : Le G G1) ⟨w1, rfl, hrb⟩
    obtain ⟨y4, z4, rfl⟩ := VT.repC_slice hrb.v
    generalize baseF x = bb at *
    simp only [bsL]
    refine rn_ ?_; intros
    refine h_hs (allIn (by repeat (first | exact trivial | refine ⟨rfl, ?_⟩))) (by first | exact Le.refl _ | assumption) ?_
    refine hu_one 6 rfl (by kernel_rfl) ?_
    refine rn_ ?_; intros
    refine h_hs (allIn (by repeat (first | exact trivial | refine ⟨rfl, ?_⟩))) (by first | exact Le.refl _ | assumption) ?_
    refine hu_one 7 rfl (by kernel_rfl) ?_
    refine go_append_any 3 (by rw [hnt]; rfl) (by rw [hty]; rfl) (by rw [hty]; rfl) (by decide) rfl rfl rfl (by omega) rfl (.inr (src_own 7 rfl rfl)) rfl (by simp [dens, SV.den, Value.oneCell']) (by omega) (by simp only []; omega) ?_
    intro v2
    refine go_rowS 3 rfl ?_
    rintro y5 z5 rfl
    refine rn_ ?_; intros
    refine h_hs (allIn (by repeat (first | exact trivial | refine ⟨rfl, ?_⟩))) (by first | exact Le.refl _ | assumption) ?_
    refine hu_one 8 rfl (by kernel_rfl) ?_
    refine rn_ ?_; intros
    refine h_hs (allIn (by repeat (first | exact trivial | refine ⟨rfl, ?_⟩))) (by first | exact Le.refl _ | assumption) ?_
    refine hu_last 9 [] rfl (by kernel_rfl) rfl ?_
    refine rn_ ?_; intros
    refine h_end (by kernel_rfl) ?_
    refine go_pubL rB 3 rfl (by omega) (ts := f.b ++ [bb]) (by simp) (by omega) (Rp.L_append (Rp.L_mono hle1 (by simpa using hcsb)) (Rp.L_single ⟨_, _, _, rfl, hrb.mono hle1⟩)) ?_
    intro G2 y6 z6 (hle2 : Le G1 G2) he2 hS2
    rw [← he2] at hS2
    have hle02 := hle1.trans hle2
    refine st_ ?_
    refine rn_ ?_; intros
    refine go_call (by rw [hnt]; rfl) (by rw [hP]; kernel_rfl) rfl (hP ▸ rputs_ok { f with b := f.b ++ [bb] } _ _ _ _ [] (.slice none 0 0) G2 ⟨hcp, Rp.S_mono hle02 hf.l, hS2, Rp.S_mono hle02 hf.c, Rp.S_mono hle02 hf.a⟩ (Rp.S_nil _ _) hl1 (by show f.l.length ≤ _; omega) (by simp; omega) (by simp)) ?_
    rintro v G3 (hle3 : Le G2 G3) ⟨t1, t2, t3, t4, rfl, hpr⟩
    obtain ⟨u1, w1, rfl⟩ := Rp.S_slice hpr.l
    obtain ⟨u2, w2, rfl⟩ := Rp.S_slice hpr.b
    obtain ⟨u3, w3, rfl⟩ := Rp.S_slice hpr.c
    obtain ⟨u4, w4, rfl⟩ := Rp.S_slice hpr.a
    rw [hsf] at hQ
    generalize putsF { f with b := f.b ++ [bb] } [] = pp at *
    simp only [fcL]
    refine rn_ ?_; intros
    refine x_retc rfl hQ hmb rfl (by rw [hty]; simp only [so, sq, zy, zz, tyE, SO', SQ', opQ, opStore, opAlloc, ev, putS, dOk, cv, SV.cs, SV.one, SV.bool?, eqB, Value.oneCell', ldOwn, binInt, binConst, binBool, binStr, isC, TK.agg, rv, rv1, ldV, resOne, resV, Nat.reduceAdd, Nat.reduceMul, Nat.reduceSub, Nat.reduceLT, Nat.reduceLeDiff, Nat.reduceEqDiff, Nat.reduceBEq, reduceIte, reduceCtorEq, eq_self]; try rfl) rfl ?_; simp only [SV.den, resV, dens]
    exact ⟨_, _, _, _, rfl, hpr⟩
  (refine x_split rfl rfl rfl (fun hc => absurd hc (by simpa using hB)) (fun _ => ?_); refine st_ ?_; (refine ru_ ?_; intros))
  refine rn_ ?_; intros
  have hsf : stepF f = if x.v.k = 9 then (putsF f (x.v.l.map fun v => ⟨v, x.w, x.c⟩), 0) else
    if x.v.k = 10 then (putsF f [⟨x.v.l.getD 0 zV, ⟨x.v.n, x.v.l.drop 1⟩ :: x.w, x.c⟩], 0) else
    if x.v.k = 11 then ({ f with st := 2, cl := ⟨x.v.n, x.v.l⟩ }, 0) else
    if x.v.k = 12 then ({ f with st := 3 }, 0) else (wrF, 0) := by rw [stepF, if_neg (by simp [hs]), hh]; exact if_neg hB
  by_cases k9 : x.v.k = 9
  · rw [if_pos k9] at hsf
    have hl16 := vld_k9 hvx k9
    (refine x_split rfl rfl rfl (fun _ => ?_) (fun hc => absurd hc (by simpa using k9)); refine st_ ?_; (refine ru_ ?_; intros))
    refine rn_ ?_; intros
    refine go_nilrow 3 81 5 rfl (by omega) ?_
    refine go_keep [1, 2, 3, 4, 5, 6] [0, 1, 2, 3] ?_
    refine st_ ?_
    refine x_loop rfl (fun q st => ∃ (k : Nat) (y : Option Addr) (z bb : Nat) (xs : List Value), k ≤ x.v.l.length ∧ q = x.v.l.length - k ∧ rT.L G ((x.v.l.take k).map fun v => ⟨v, x.w, x.c⟩) xs ∧
      st = ⟨[(1, .p 0 bf 0), (2, .p 1 br 0), (3, .v (.int .i64 0)), (4, .p 2 bx 0), (5, .v (.slice y k z)), (6, .v (.int .i64 k))],
        [(0, bf, .c 45 [.v (.int .i64 f.st), .v (.slice (some ⟨c0, o0, none⟩) f.l.length cl), .v (.slice ab f.b.length cb), .v (.slice ac f.c.length cc), .v (.int .i64 f.cl.f), .v (.slice aa f.cl.a.length ca)]), (1, br, .c 45 [.v (.int .i64 0), .v (.slice none 0 0), .v (.slice none 0 0), .v (.slice none 0 0), .v (.int .i64 0), .v (.slice none 0 0)]), (2, bx, .c 81 [.v (.int .i64 x.v.k), .v (.int .i64 x.v.n), .v (.slice a1 x.v.l.length q1), .v (.slice a2 x.w.length q2), .v (.slice a3 x.c.length q3)]), (3, bb, .row (.slice y k z) 81 5 k xs)], G, []⟩) ⟨0, none, 0, _, [], by omega, rfl, rfl, rfl⟩ ?_
    rintro q st ⟨k, y, z, bb, xs, hk, hq, hLx, rfl⟩ ih
    refine rn_ ?_; intros
    refine x_if rfl rfl rfl rfl (fun hkl => ?_) (fun hkl => ?_)
    · have hlt : k < x.v.l.length := by simp at hkl; omega
      obtain ⟨c7, o7, p7, a7, q7, e7, hat7, hr7⟩ := repC_el hrx.v hlt
      cases e7
      have ht7 := tszL_mem (List.getElem_mem hlt)
      have htx : tsz x.v = 1 + tszL x.v.l := by obtain ⟨⟨k, n, l⟩, w, c⟩ := x; simp only [tsz, VT.l]
      have hxb := hrx.b
      refine rn_ ?_; intros
      refine x_held [(2, bx, .c 81 [.v (.int .i64 x.v.k), .v (.int .i64 x.v.n), .v (.slice (some ⟨c7, o7, none⟩) x.v.l.length q1), .v (.slice a2 x.w.length q2), .v (.slice a3 x.c.length q3)])] rfl (by rw [hP]; kernel_rfl) rfl rfl rfl ?_; refine st_ ?_
      refine h_take 0 rfl (by kernel_rfl) (by kernel_rfl) (by kernel_rfl) hQp (by rw [hnt]; rfl) (allIn (by repeat (first | exact trivial | refine ⟨rfl, ?_⟩))) (by first | exact Le.refl _ | assumption) (quiet_op (by rw [hty]; first | rfl | (refine st_ ?_; rfl))) ?_; refine st_ ?_
      refine h_take 1 rfl (by kernel_rfl) (by kernel_rfl) (by kernel_rfl) hQp (by rw [hnt]; rfl) (allIn (by repeat (first | exact trivial | refine ⟨rfl, ?_⟩))) (by first | exact Le.refl _ | assumption) (quiet_op (by rw [hty]; first | rfl | (refine st_ ?_; rfl))) ?_; refine st_ ?_
      refine h_take 2 rfl (by kernel_rfl) (by kernel_rfl) (by kernel_rfl) hQp (by rw [hnt]; rfl) (allIn (by repeat (first | exact trivial | refine ⟨rfl, ?_⟩))) (by first | exact Le.refl _ | assumption) (quiet_op (by rw [hty]; first | rfl | (refine st_ ?_; rfl))) ?_; refine st_ ?_
      refine h_take 3 rfl (by kernel_rfl) (by kernel_rfl) (by kernel_rfl) hQp (by rw [hnt]; rfl) (allIn (by repeat (first | exact trivial | refine ⟨rfl, ?_⟩))) (by first | exact Le.refl _ | assumption) (quiet_op (by rw [hty]; first | rfl | (refine st_ ?_; rfl))) ?_; refine st_ ?_
      refine h_take 4 rfl (by kernel_rfl) (by kernel_rfl) (by kernel_rfl) hQp (by rw [hnt]; rfl) (allIn (by repeat (first | exact trivial | refine ⟨rfl, ?_⟩))) (by first | exact Le.refl _ | assumption) (quiet_op (by rw [hty]; first | rfl | (refine st_ ?_; rfl))) ?_; refine st_ ?_
      refine h_take 5 rfl (by kernel_rfl) (by kernel_rfl) (by kernel_rfl) hQp (by rw [hnt]; rfl) (allIn (by repeat (first | exact trivial | refine ⟨rfl, ?_⟩))) (by first | exact Le.refl _ | assumption) (x := .v (.pointer (some ⟨c7, o7 + k * 3, none⟩))) ((quiet_index (by rw [hty]; rfl) (by rw [hty]; rfl) rfl rfl rfl (by omega) (by omega)).cast (by simp [SV.den])) ?_
      refine st_ ?_
      refine h_take 6 rfl (by kernel_rfl) (by kernel_rfl) (by kernel_rfl) hQp (by rw [hnt]; rfl) (allIn (by repeat (first | exact trivial | refine ⟨rfl, ?_⟩))) (by first | exact Le.refl _ | assumption) (x := .a [.v (.int .i64 x.v.l[k].k), .v (.int .i64 x.v.l[k].n), .v (.slice a7 x.v.l[k].l.length q7)]) ((quiet_load (by rw [hty]; rfl) rfl (fun q => by cases q) hat7 rfl).cast (by simp only [ldV, SV.den, dens]; rfl)) ?_
      refine st_ ?_
      refine h_take 7 rfl (by kernel_rfl) (by kernel_rfl) (by kernel_rfl) hQp (by rw [hnt]; rfl) (allIn (by repeat (first | exact trivial | refine ⟨rfl, ?_⟩))) (by first | exact Le.refl _ | assumption) (quiet_op (by rw [hty]; first | rfl | (refine st_ ?_; rfl))) ?_; refine st_ ?_
      refine h_take 8 rfl (by kernel_rfl) (by kernel_rfl) (by kernel_rfl) hQp (by rw [hnt]; rfl) (allIn (by repeat (first | exact trivial | refine ⟨rfl, ?_⟩))) (by first | exact Le.refl _ | assumption) (quiet_op (by rw [hty]; first | rfl | (refine st_ ?_; rfl))) ?_; refine st_ ?_
      refine h_take 9 rfl (by kernel_rfl) (by kernel_rfl) (by kernel_rfl) hQp (by rw [hnt]; rfl) (allIn (by repeat (first | exact trivial | refine ⟨rfl, ?_⟩))) (by first | exact Le.refl _ | assumption) (quiet_op (by rw [hty]; first | rfl | (refine st_ ?_; rfl))) ?_; refine st_ ?_
      refine h_take 10 rfl (by kernel_rfl) (by kernel_rfl) (by kernel_rfl) hQp (by rw [hnt]; rfl) (allIn (by repeat (first | exact trivial | refine ⟨rfl, ?_⟩))) (by first | exact Le.refl _ | assumption) (quiet_op (by rw [hty]; first | rfl | (refine st_ ?_; rfl))) ?_; refine st_ ?_
      refine h_take 11 rfl (by kernel_rfl) (by kernel_rfl) (by kernel_rfl) hQp (by rw [hnt]; rfl) (allIn (by repeat (first | exact trivial | refine ⟨rfl, ?_⟩))) (by first | exact Le.refl _ | assumption) (quiet_op (by rw [hty]; first | rfl | (refine st_ ?_; rfl))) ?_; refine st_ ?_
      refine h_one 12 rfl (by kernel_rfl) ?_
      refine rn_ ?_; intros
      refine h_hs (allIn (by repeat (first | exact trivial | refine ⟨rfl, ?_⟩))) (by first | exact Le.refl _ | assumption) ?_
      refine h_one 13 rfl (by kernel_rfl) ?_
      refine go_append 3 (by rw [hnt]; rfl) (by rw [hty]; rfl) (by rw [hty]; rfl) (by decide) rfl rfl rfl (by omega) rfl (src_own 5 rfl rfl) rfl (by simp [dens, SV.den, Value.oneCell']) (by omega) (by simp only []; omega) ?_
      intro v'
      refine go_rowS 3 rfl ?_
      rintro y8 z8 rfl
      refine rn_ ?_; intros
      refine h_hs (allIn (by repeat (first | exact trivial | refine ⟨rfl, ?_⟩))) (by first | exact Le.refl _ | assumption) ?_
      refine h_one 14 rfl (by kernel_rfl) ?_
      refine rn_ ?_; intros
      refine h_hs (allIn (by repeat (first | exact trivial | refine ⟨rfl, ?_⟩))) (by first | exact Le.refl _ | assumption) ?_
      refine h_end (by kernel_rfl) ?_
      refine rn_ ?_; intros
      rw [wr (n := (k : Int) + 1) (by omega) (by omega)]
      refine go_keep [1, 2, 3, 4, 5, 6] [0, 1, 2, 3] ?_
      refine st_ ?_
      exact ih (x.v.l.length - (k + 1)) _ (by omega) ⟨k + 1, y8, z8, bb, _, by omega, rfl, by rw [← List.take_append_getElem hlt, List.map_append]; exact Rp.L_append hLx (Rp.L_single ⟨_, _, _, rfl, ⟨hr7, by show tsz x.v.l[k] ≤ _; omega, hrx.w, hrx.c, hrx.cc⟩⟩), by simp [dens, SV.den, itL]⟩
    have hge : k = x.v.l.length := by simp at hkl; omega
    rw [hge, List.take_length] at hLx
    rw [hge]
    clear ih hkl hq hk
    refine rn_ ?_; intros
    refine go_pubL rT 3 rfl (by omega) (by simp) (by omega) hLx ?_
    intro G2 y6 z6 (hle02 : Le G G2) he2 hS2
    rw [← he2] at hS2
    refine st_ ?_
    refine rn_ ?_; intros
    refine go_call (by rw [hnt]; rfl) (by rw [hP]; kernel_rfl) rfl (hP ▸ rputs_ok f _ _ _ _ _ _ G2 (hf.mono hle02) hS2 hl1 (by omega) (by omega) (by simp; omega)) ?_
    rintro v G3 (hle3 : Le G2 G3) ⟨t1, t2, t3, t4, rfl, hpr⟩
    obtain ⟨u1, w1, rfl⟩ := Rp.S_slice hpr.l
    obtain ⟨u2, w2, rfl⟩ := Rp.S_slice hpr.b
    obtain ⟨u3, w3, rfl⟩ := Rp.S_slice hpr.c
    obtain ⟨u4, w4, rfl⟩ := Rp.S_slice hpr.a
    rw [hsf] at hQ
    generalize putsF f _ = pp at *
    simp only [fcL]
    refine rn_ ?_; intros
    refine x_retc rfl hQ hmb rfl (by rw [hty]; simp only [so, sq, zy, zz, tyE, SO', SQ', opQ, opStore, opAlloc, ev, putS, dOk, cv, SV.cs, SV.one, SV.bool?, eqB, Value.oneCell', ldOwn, binInt, binConst, binBool, binStr, isC, TK.agg, rv, rv1, ldV, resOne, resV, Nat.reduceAdd, Nat.reduceMul, Nat.reduceSub, Nat.reduceLT, Nat.reduceLeDiff, Nat.reduceEqDiff, Nat.reduceBEq, reduceIte, reduceCtorEq, eq_self]; try rfl) rfl ?_; simp only [SV.den, resV, dens]
    exact ⟨_, _, _, _, rfl, hpr⟩
  (refine x_split rfl rfl rfl (fun hc => absurd hc (by simpa using k9)) (fun _ => ?_); refine st_ ?_; (refine ru_ ?_; intros))
  refine rn_ ?_; intros
  rw [if_neg k9] at hsf
  by_cases k10 : x.v.k = 10
  · rw [if_pos k10] at hsf
    have hl10 := vld_k10 hvx k10
    have hcx := VT.repC_cap hrx.v
    obtain ⟨hkk, hkn⟩ := VT.rep_k (VT.repC_rep hrx.v)
    have hrv := rV_of hrx.v hrx.b
    have hrlo := Rp.S_lo hrv (a := 1) hl10 hcx
    obtain ⟨csw, hcsw, hsrcw⟩ := Rp.srcS hrx.w
    obtain ⟨c7, o7, p7, a7, q7, e7, hat7, hr7⟩ := repC_el hrx.v (i := 0) hl10
    have hbw := Rp.S_len hrx.w
    have hw100 := hw x (by rw [hfl]; simp)
    have ht7 := tszL_mem (List.getElem_mem (by omega : 0 < x.v.l.length))
    have htx : tsz x.v = 1 + tszL x.v.l := by obtain ⟨⟨k, n, l⟩, w, c⟩ := x; simp only [tsz, VT.l]
    have hxb := hrx.b
    have g0 : x.v.l.getD 0 zV = x.v.l[0] := by rw [List.getD_eq_getElem?_getD, List.getElem?_eq_getElem (by omega)]; rfl
    rw [g0] at hsf
    cases e7
    (refine x_split rfl rfl rfl (fun _ => ?_) (fun hc => absurd hc (by simpa using k10)); refine st_ ?_; (refine ru_ ?_; intros))
    refine x_held [(2, bx, .c 81 [.v (.int .i64 x.v.k), .v (.int .i64 x.v.n), .v (.slice (some ⟨c7, o7, none⟩) x.v.l.length q1), .v (.slice a2 x.w.length q2), .v (.slice a3 x.c.length q3)])] rfl (by rw [hP]; kernel_rfl) rfl rfl rfl ?_; refine st_ ?_
    refine h_take 0 rfl (by kernel_rfl) (by kernel_rfl) (by kernel_rfl) hQp (by rw [hnt]; rfl) (allIn (by repeat (first | exact trivial | refine ⟨rfl, ?_⟩))) (by first | exact Le.refl _ | assumption) (quiet_op (by rw [hty]; first | rfl | (refine st_ ?_; rfl))) ?_; refine st_ ?_
    refine h_take 1 rfl (by kernel_rfl) (by kernel_rfl) (by kernel_rfl) hQp (by rw [hnt]; rfl) (allIn (by repeat (first | exact trivial | refine ⟨rfl, ?_⟩))) (by first | exact Le.refl _ | assumption) (quiet_op (by rw [hty]; first | rfl | (refine st_ ?_; rfl))) ?_; refine st_ ?_
    refine h_take 2 rfl (by kernel_rfl) (by kernel_rfl) (by kernel_rfl) hQp (by rw [hnt]; rfl) (allIn (by repeat (first | exact trivial | refine ⟨rfl, ?_⟩))) (by first | exact Le.refl _ | assumption) (quiet_op (by rw [hty]; first | rfl | (refine st_ ?_; rfl))) ?_; refine st_ ?_
    refine h_take 3 rfl (by kernel_rfl) (by kernel_rfl) (by kernel_rfl) hQp (by rw [hnt]; rfl) (allIn (by repeat (first | exact trivial | refine ⟨rfl, ?_⟩))) (by first | exact Le.refl _ | assumption) (quiet_op (by rw [hty]; first | rfl | (refine st_ ?_; rfl))) ?_; refine st_ ?_
    refine h_take 4 rfl (by kernel_rfl) (by kernel_rfl) (by kernel_rfl) hQp (by rw [hnt]; rfl) (allIn (by repeat (first | exact trivial | refine ⟨rfl, ?_⟩))) (by first | exact Le.refl _ | assumption) (quiet_op (by rw [hty]; first | rfl | (refine st_ ?_; rfl))) ?_; refine st_ ?_
    refine h_take 5 rfl (by kernel_rfl) (by kernel_rfl) (by kernel_rfl) hQp (by rw [hnt]; rfl) (allIn (by repeat (first | exact trivial | refine ⟨rfl, ?_⟩))) (by first | exact Le.refl _ | assumption) (quiet_op (by rw [hty]; first | rfl | (refine st_ ?_; rfl))) ?_; refine st_ ?_
    refine h_take 6 rfl (by kernel_rfl) (by kernel_rfl) (by kernel_rfl) hQp (by rw [hnt]; rfl) (allIn (by repeat (first | exact trivial | refine ⟨rfl, ?_⟩))) (by first | exact Le.refl _ | assumption) (x := .v (Sx.sliced (some ⟨c7, o7, none⟩) q1 1 x.v.l.length 3)) ((quiet_sliceLo (k := .i64) (n := 1) (by rw [hty]; rfl) (by rw [hty]; rfl) rfl rfl rfl (by omega) (by omega)).cast rfl) ?_
    refine st_ ?_
    refine h_take 7 rfl (by kernel_rfl) (by kernel_rfl) (by kernel_rfl) hQp (by rw [hnt]; rfl) (allIn (by repeat (first | exact trivial | refine ⟨rfl, ?_⟩))) (by first | exact Le.refl _ | assumption) (quiet_op (by rw [hty]; first | rfl | (refine st_ ?_; rfl))) ?_; refine st_ ?_
    refine h_take 9 rfl (by kernel_rfl) (by kernel_rfl) (by kernel_rfl) hQp (by rw [hnt]; rfl) (allIn (by repeat (first | exact trivial | refine ⟨rfl, ?_⟩))) (by first | exact Le.refl _ | assumption) (quiet_op (by rw [hty]; first | rfl | (refine st_ ?_; rfl))) ?_; refine st_ ?_
    refine h_take 10 rfl (by kernel_rfl) (by kernel_rfl) (by kernel_rfl) hQp (by rw [hnt]; rfl) (allIn (by repeat (first | exact trivial | refine ⟨rfl, ?_⟩))) (by first | exact Le.refl _ | assumption) (quiet_op (by rw [hty]; first | rfl | (refine st_ ?_; rfl))) ?_; refine st_ ?_
    refine h_one 8 rfl (by kernel_rfl) ?_
    refine rn_ ?_; intros
    refine h_hs (allIn (by repeat (first | exact trivial | refine ⟨rfl, ?_⟩))) (by first | exact Le.refl _ | assumption) ?_
    refine h_one 11 rfl (by kernel_rfl) ?_
    refine go_litrow 3 (n := 1) (size := 2) rfl (by omega) rfl (by omega) ?_
    refine st_ ?_
    refine go_append_any 3 (by rw [hnt]; rfl) (by rw [hty]; rfl) (by rw [hty]; rfl) (by decide) rfl rfl rfl (by omega) rfl (hsrcw.imp id fun f => f _ _ rfl) (Rp.L_len hcsw) (Rp.L_one hcsw) (by omega) (by simp only []; omega) ?_
    intro v1
    refine go_rowS 3 rfl ?_
    rintro y3 z3 rfl
    refine rn_ ?_; intros
    refine h_hs (allIn (by repeat (first | exact trivial | refine ⟨rfl, ?_⟩))) (by first | exact Le.refl _ | assumption) ?_
    refine h_one 12 rfl (by kernel_rfl) ?_
    refine rn_ ?_; intros
    refine h_hs (allIn (by repeat (first | exact trivial | refine ⟨rfl, ?_⟩))) (by first | exact Le.refl _ | assumption) ?_
    refine h_end (by kernel_rfl) ?_
    refine go_pubL rC 3 rfl (by omega) (ts := ⟨x.v.n, x.v.l.drop 1⟩ :: x.w) (by simp; omega) (by omega) ⟨[_, _], _, rfl, ⟨_, rfl, hkn, hrlo⟩, by simpa using hcsw⟩ ?_
    intro G1 y6 z6 (hle1 : Le G G1) he1 hS1
    rw [← he1] at hS1
    refine go_keep [1, 2, 3, 4, 7] [0, 1, 2] ?_
    refine st_ ?_
    refine rn_ ?_; intros
    have hr7' := VT.repC_mono hle1 hr7
    generalize x.v.l[0] = y0 at *
    refine x_held [(0, bf, .c 45 [.v (.int .i64 f.st), .v (.slice (some ⟨c0, o0, none⟩) f.l.length cl), .v (.slice ab f.b.length cb), .v (.slice ac f.c.length cc), .v (.int .i64 f.cl.f), .v (.slice aa f.cl.a.length ca)]), (2, bx, .c 81 [.v (.int .i64 x.v.k), .v (.int .i64 x.v.n), .v (.slice (some ⟨c7, o7, none⟩) x.v.l.length q1), .v (.slice a2 x.w.length q2), .v (.slice a3 x.c.length q3)])] rfl (by rw [hP]; kernel_rfl) rfl rfl rfl ?_; refine st_ ?_
    refine h_take 0 rfl (by kernel_rfl) (by kernel_rfl) (by kernel_rfl) hQp (by rw [hnt]; rfl) (allIn (by repeat (first | exact trivial | refine ⟨rfl, ?_⟩))) (by first | exact Le.refl _ | assumption) (quiet_op (by rw [hty]; first | rfl | (refine st_ ?_; rfl))) ?_; refine st_ ?_
    refine h_take 1 rfl (by kernel_rfl) (by kernel_rfl) (by kernel_rfl) hQp (by rw [hnt]; rfl) (allIn (by repeat (first | exact trivial | refine ⟨rfl, ?_⟩))) (by first | exact Le.refl _ | assumption) (quiet_op (by rw [hty]; first | rfl | (refine st_ ?_; rfl))) ?_; refine st_ ?_
    refine h_take 2 rfl (by kernel_rfl) (by kernel_rfl) (by kernel_rfl) hQp (by rw [hnt]; rfl) (allIn (by repeat (first | exact trivial | refine ⟨rfl, ?_⟩))) (by first | exact Le.refl _ | assumption) (quiet_op (by rw [hty]; first | rfl | (refine st_ ?_; rfl))) ?_; refine st_ ?_
    refine h_take 3 rfl (by kernel_rfl) (by kernel_rfl) (by kernel_rfl) hQp (by rw [hnt]; rfl) (allIn (by repeat (first | exact trivial | refine ⟨rfl, ?_⟩))) (by first | exact Le.refl _ | assumption) (quiet_op (by rw [hty]; first | rfl | (refine st_ ?_; rfl))) ?_; refine st_ ?_
    refine h_take 4 rfl (by kernel_rfl) (by kernel_rfl) (by kernel_rfl) hQp (by rw [hnt]; rfl) (allIn (by repeat (first | exact trivial | refine ⟨rfl, ?_⟩))) (by first | exact Le.refl _ | assumption) (x := .v (.pointer (some ⟨c7, o7, none⟩))) ((quiet_index (by rw [hty]; rfl) (by rw [hty]; rfl) rfl rfl rfl (by omega) (by omega)).cast (by simp [SV.den])) ?_
    refine st_ ?_
    refine h_take 5 rfl (by kernel_rfl) (by kernel_rfl) (by kernel_rfl) hQp (by rw [hnt]; rfl) (allIn (by repeat (first | exact trivial | refine ⟨rfl, ?_⟩))) (by first | exact Le.refl _ | assumption) (x := .a [.v (.int .i64 y0.k), .v (.int .i64 y0.n), .v (.slice a7 y0.l.length q7)]) ((quiet_load (by rw [hty]; rfl) rfl (fun q => by cases q) (by simpa using hat7.mono hle1) rfl).cast (by simp only [ldV, SV.den, dens]; rfl)) ?_
    refine st_ ?_
    refine h_take 6 rfl (by kernel_rfl) (by kernel_rfl) (by kernel_rfl) hQp (by rw [hnt]; rfl) (allIn (by repeat (first | exact trivial | refine ⟨rfl, ?_⟩))) (by first | exact Le.refl _ | assumption) (quiet_op (by rw [hty]; first | rfl | (refine st_ ?_; rfl))) ?_; refine st_ ?_
    refine h_take 7 rfl (by kernel_rfl) (by kernel_rfl) (by kernel_rfl) hQp (by rw [hnt]; rfl) (allIn (by repeat (first | exact trivial | refine ⟨rfl, ?_⟩))) (by first | exact Le.refl _ | assumption) (quiet_op (by rw [hty]; first | rfl | (refine st_ ?_; rfl))) ?_; refine st_ ?_
    refine h_take 8 rfl (by kernel_rfl) (by kernel_rfl) (by kernel_rfl) hQp (by rw [hnt]; rfl) (allIn (by repeat (first | exact trivial | refine ⟨rfl, ?_⟩))) (by first | exact Le.refl _ | assumption) (quiet_op (by rw [hty]; first | rfl | (refine st_ ?_; rfl))) ?_; refine st_ ?_
    refine h_take 9 rfl (by kernel_rfl) (by kernel_rfl) (by kernel_rfl) hQp (by rw [hnt]; rfl) (allIn (by repeat (first | exact trivial | refine ⟨rfl, ?_⟩))) (by first | exact Le.refl _ | assumption) (quiet_op (by rw [hty]; first | rfl | (refine st_ ?_; rfl))) ?_; refine st_ ?_
    refine h_one 10 rfl (by kernel_rfl) ?_
    refine rn_ ?_; intros
    rename_i b9
    refine h_hs (allIn (by repeat (first | exact trivial | refine ⟨rfl, ?_⟩))) (by first | exact Le.refl _ | assumption) ?_
    refine h_one 11 rfl (by kernel_rfl) ?_
    refine go_slot 87 (.v (.slice (some ⟨b9, 0, none⟩) 1 1)) rfl rfl ?_
    refine go_litrow 3 (n := 1) (size := 5) rfl (by omega) rfl (by omega) ?_
    refine st_ ?_
    refine go_pubL rT 3 rfl (by omega) (ts := [⟨y0, ⟨x.v.n, x.v.l.drop 1⟩ :: x.w, x.c⟩]) rfl (by omega) (Rp.L_single ⟨_, _, _, rfl, ⟨hr7', by show tsz y0 ≤ _; omega, hS1, Rp.S_mono hle1 hrx.c, hrx.cc⟩⟩) ?_
    intro G2 y9 z9 (hle2 : Le G1 G2) he2 hS2
    rw [← he2] at hS2
    have hle02 := hle1.trans hle2
    refine st_ ?_
    refine go_call (by rw [hnt]; rfl) (by rw [hP]; kernel_rfl) rfl (hP ▸ rputs_ok f _ _ _ _ _ _ G2 (hf.mono hle02) hS2 hl1 (by omega) (by omega) (by simp)) ?_
    rintro v G3 (hle3 : Le G2 G3) ⟨t1, t2, t3, t4, rfl, hpr⟩
    obtain ⟨u1, w1, rfl⟩ := Rp.S_slice hpr.l
    obtain ⟨u2, w2, rfl⟩ := Rp.S_slice hpr.b
    obtain ⟨u3, w3, rfl⟩ := Rp.S_slice hpr.c
    obtain ⟨u4, w4, rfl⟩ := Rp.S_slice hpr.a
    rw [hsf] at hQ
    generalize putsF f _ = pp at *
    simp only [fcL]
    have hle13 := hle2.trans hle3
    refine rn_ ?_; intros
    refine h_hs (allIn (by repeat (first | exact trivial | refine ⟨rfl, ?_⟩))) (by first | exact Le.refl _ | assumption) ?_
    refine h_one 12 rfl (by kernel_rfl) ?_
    refine rn_ ?_; intros
    refine h_hs (allIn (by repeat (first | exact trivial | refine ⟨rfl, ?_⟩))) (by first | exact Le.refl _ | assumption) ?_
    refine h_one 13 rfl (by kernel_rfl) ?_
    refine rn_ ?_; intros
    refine h_hs (allIn (by repeat (first | exact trivial | refine ⟨rfl, ?_⟩))) (by first | exact Le.refl _ | assumption) ?_
    refine h_end (by kernel_rfl) ?_
    refine rn_ ?_; intros
    refine x_retc rfl hQ hmb rfl (by rw [hty]; simp only [so, sq, zy, zz, tyE, SO', SQ', opQ, opStore, opAlloc, ev, putS, dOk, cv, SV.cs, SV.one, SV.bool?, eqB, Value.oneCell', ldOwn, binInt, binConst, binBool, binStr, isC, TK.agg, rv, rv1, ldV, resOne, resV, Nat.reduceAdd, Nat.reduceMul, Nat.reduceSub, Nat.reduceLT, Nat.reduceLeDiff, Nat.reduceEqDiff, Nat.reduceBEq, reduceIte, reduceCtorEq, eq_self]; try rfl) rfl ?_; simp only [SV.den, resV, dens]
    exact ⟨_, _, _, _, rfl, hpr⟩
  (refine x_split rfl rfl rfl (fun hc => absurd hc (by simpa using k10)) (fun _ => ?_); refine st_ ?_; (refine ru_ ?_; intros))
  refine rn_ ?_; intros
  rw [if_neg k10] at hsf
  by_cases k11 : x.v.k = 11
  · rw [if_pos k11] at hsf
    (refine x_split rfl rfl rfl (fun _ => ?_) (fun hc => absurd hc (by simpa using k11)); refine st_ ?_; (refine ru_ ?_; intros))
    refine x_held [(2, bx, .c 81 [.v (.int .i64 x.v.k), .v (.int .i64 x.v.n), .v (.slice a1 x.v.l.length q1), .v (.slice a2 x.w.length q2), .v (.slice a3 x.c.length q3)])] rfl (by rw [hP]; kernel_rfl) rfl rfl rfl ?_; refine st_ ?_
    refine h_take 0 rfl (by kernel_rfl) (by kernel_rfl) (by kernel_rfl) hQp (by rw [hnt]; rfl) (allIn (by repeat (first | exact trivial | refine ⟨rfl, ?_⟩))) (by first | exact Le.refl _ | assumption) (quiet_op (by rw [hty]; first | rfl | (refine st_ ?_; rfl))) ?_; refine st_ ?_
    refine h_take 1 rfl (by kernel_rfl) (by kernel_rfl) (by kernel_rfl) hQp (by rw [hnt]; rfl) (allIn (by repeat (first | exact trivial | refine ⟨rfl, ?_⟩))) (by first | exact Le.refl _ | assumption) (quiet_op (by rw [hty]; first | rfl | (refine st_ ?_; rfl))) ?_; refine st_ ?_
    refine h_take 2 rfl (by kernel_rfl) (by kernel_rfl) (by kernel_rfl) hQp (by rw [hnt]; rfl) (allIn (by repeat (first | exact trivial | refine ⟨rfl, ?_⟩))) (by first | exact Le.refl _ | assumption) (quiet_op (by rw [hty]; first | rfl | (refine st_ ?_; rfl))) ?_; refine st_ ?_
    refine h_take 3 rfl (by kernel_rfl) (by kernel_rfl) (by kernel_rfl) hQp (by rw [hnt]; rfl) (allIn (by repeat (first | exact trivial | refine ⟨rfl, ?_⟩))) (by first | exact Le.refl _ | assumption) (quiet_op (by rw [hty]; first | rfl | (refine st_ ?_; rfl))) ?_; refine st_ ?_
    refine h_take 4 rfl (by kernel_rfl) (by kernel_rfl) (by kernel_rfl) hQp (by rw [hnt]; rfl) (allIn (by repeat (first | exact trivial | refine ⟨rfl, ?_⟩))) (by first | exact Le.refl _ | assumption) (quiet_op (by rw [hty]; first | rfl | (refine st_ ?_; rfl))) ?_; refine st_ ?_
    refine h_take 5 rfl (by kernel_rfl) (by kernel_rfl) (by kernel_rfl) hQp (by rw [hnt]; rfl) (allIn (by repeat (first | exact trivial | refine ⟨rfl, ?_⟩))) (by first | exact Le.refl _ | assumption) (quiet_op (by rw [hty]; first | rfl | (refine st_ ?_; rfl))) ?_; refine st_ ?_
    refine h_take 6 rfl (by kernel_rfl) (by kernel_rfl) (by kernel_rfl) hQp (by rw [hnt]; rfl) (allIn (by repeat (first | exact trivial | refine ⟨rfl, ?_⟩))) (by first | exact Le.refl _ | assumption) (quiet_op (by rw [hty]; first | rfl | (refine st_ ?_; rfl))) ?_; refine st_ ?_
    refine h_take 7 rfl (by kernel_rfl) (by kernel_rfl) (by kernel_rfl) hQp (by rw [hnt]; rfl) (allIn (by repeat (first | exact trivial | refine ⟨rfl, ?_⟩))) (by first | exact Le.refl _ | assumption) (quiet_op (by rw [hty]; first | rfl | (refine st_ ?_; rfl))) ?_; refine st_ ?_
    refine h_one 8 rfl (by kernel_rfl) ?_
    refine rn_ ?_; intros
    refine h_hs (allIn (by repeat (first | exact trivial | refine ⟨rfl, ?_⟩))) (by first | exact Le.refl _ | assumption) ?_
    refine h_take 9 rfl (by kernel_rfl) (by kernel_rfl) (by kernel_rfl) hQp (by rw [hnt]; rfl) (allIn (by repeat (first | exact trivial | refine ⟨rfl, ?_⟩))) (by first | exact Le.refl _ | assumption) (quiet_op (by rw [hty]; first | rfl | (refine st_ ?_; rfl))) ?_; refine st_ ?_
    refine h_one 10 rfl (by kernel_rfl) ?_
    refine rn_ ?_; intros
    refine h_hs (allIn (by repeat (first | exact trivial | refine ⟨rfl, ?_⟩))) (by first | exact Le.refl _ | assumption) ?_
    refine h_end (by kernel_rfl) ?_
    refine rn_ ?_; intros
    refine x_retc rfl hQ hmb rfl (by rw [hty]; simp only [so, sq, zy, zz, tyE, SO', SQ', opQ, opStore, opAlloc, ev, putS, dOk, cv, SV.cs, SV.one, SV.bool?, eqB, Value.oneCell', ldOwn, binInt, binConst, binBool, binStr, isC, TK.agg, rv, rv1, ldV, resOne, resV, Nat.reduceAdd, Nat.reduceMul, Nat.reduceSub, Nat.reduceLT, Nat.reduceLeDiff, Nat.reduceEqDiff, Nat.reduceBEq, reduceIte, reduceCtorEq, eq_self]; try rfl) rfl ?_; simp only [SV.den, resV, dens]
    rw [hsf]
    exact ⟨_, _, _, _, rfl, ⟨hcp, hf.l, hf.b, hf.c, rV_of hrx.v hrx.b⟩⟩
  (refine x_split rfl rfl rfl (fun hc => absurd hc (by simpa using k11)) (fun _ => ?_); refine st_ ?_; (refine ru_ ?_; intros))
  refine rn_ ?_; intros
  rw [if_neg k11] at hsf
  by_cases k12 : x.v.k = 12
  · rw [if_pos k12] at hsf
    (refine x_split rfl rfl rfl (fun _ => ?_) (fun hc => absurd hc (by simpa using k12)); refine st_ ?_; (refine ru_ ?_; intros))
    refine rn_ ?_; intros
    refine x_retc rfl hQ hmb rfl (by rw [hty]; simp only [so, sq, zy, zz, tyE, SO', SQ', opQ, opStore, opAlloc, ev, putS, dOk, cv, SV.cs, SV.one, SV.bool?, eqB, Value.oneCell', ldOwn, binInt, binConst, binBool, binStr, isC, TK.agg, rv, rv1, ldV, resOne, resV, Nat.reduceAdd, Nat.reduceMul, Nat.reduceSub, Nat.reduceLT, Nat.reduceLeDiff, Nat.reduceEqDiff, Nat.reduceBEq, reduceIte, reduceCtorEq, eq_self]; try rfl) rfl ?_; simp only [SV.den, resV, dens]
    rw [hsf]
    exact ⟨_, _, _, _, rfl, ⟨hcp, hf.l, hf.b, hf.c, hf.a⟩⟩
  (refine x_split rfl rfl rfl (fun hc => absurd hc (by simpa using k12)) (fun _ => ?_); refine st_ ?_; (refine ru_ ?_; intros))
  refine rn_ ?_; intros
  rw [if_neg k12] at hsf
  refine go_callf (by rw [hnt]; rfl) (by rw [hP]; kernel_rfl) rfl (hP ▸ rwrong_ok G) ?_; refine rn_ ?_; intros
  refine x_retc rfl hQ hmb rfl (by rw [hty]; simp only [so, sq, zy, zz, tyE, SO', SQ', opQ, opStore, opAlloc, ev, putS, dOk, cv, SV.cs, SV.one, SV.bool?, eqB, Value.oneCell', ldOwn, binInt, binConst, binBool, binStr, isC, TK.agg, rv, rv1, ldV, resOne, resV, Nat.reduceAdd, Nat.reduceMul, Nat.reduceSub, Nat.reduceLT, Nat.reduceLeDiff, Nat.reduceEqDiff, Nat.reduceBEq, reduceIte, reduceCtorEq, eq_self]; try rfl) rfl ?_; simp only [SV.den, resV, dens]
  rw [hsf]
  exact ⟨_, _, _, _, rfl, wrF_rep _⟩
end Go.Proofs.YthocgjchmpkhoaaDoor
namespace Go.Proofs.YthocgjchmpkhoaaDoor
set_option linter.unusedSimpArgs false
set_option linter.unusedVariables false
open Go.Sx
set_option maxHeartbeats 8000000
set_option maxRecDepth 20000
def evF (v : VT) : Bool := vld v && evk v.k
def newF (v : VT) : Fc × Int := if evF v = true then (⟨1, [⟨v, [], []⟩], [], [], ⟨0, []⟩⟩, 0) else (noF, 2)
theorem noF_rep (G : Hp) : noF.rep G (.slice none 0 0) (.slice none 0 0) (.slice none 0 0) (.slice none 0 0) := ⟨capNil, Rp.S_nil _ _, Rp.S_nil _ _, Rp.S_nil _ _, Rp.S_nil _ _⟩
theorem rnew_ok (v : VT) (sv : Value) (G : Hp) (hv : v.repC G sv) (hb : tsz v ≤ 1048576) : Pure Tryd.prog 11 [.agg #[.int .i64 v.k, .int .i64 v.n, sv]] G (fsRet (newF v)) := by
  obtain ⟨a1, q1, rfl⟩ := VT.repC_slice hv
  refine enterX ty tyok Tryd.func11 rfl Tryd.ntmps11 [.a [.v (.int .i64 v.k), .v (.int .i64 v.n), .v (.slice a1 v.l.length q1)]] (by simp) ?_
  intro C hP hQ hnt hty hmb hmh hro; have hQp := qp_body hQ; refine st_ ?_
  refine rn_ ?_; intros
  refine go_callf (by rw [hnt]; rfl) (by rw [hP]; kernel_rfl) rfl (hP ▸ refright_ok v _ G (VT.repC_rep hv) (by omega)) ?_; refine rn_ ?_; intros
  cases h1 : vld v
  · have hn : newF v = (noF, 2) := by rw [newF, evF, h1]; rfl
    (refine go_gsplit rfl rfl (fun _ => ?_) (fun hc => absurd hc (by simp)); refine st_ ?_; (refine rn_ ?_; intros))
    repeat (refine go_gundef rfl (by rw [hnt]; rfl) rfl ?_; (refine st_ ?_; (refine rn_ ?_; intros)))
    (try ((refine x_split rfl rfl rfl (fun _ => ?_) (fun hc => absurd hc (by first | decide +kernel | (simp; first | done | fail))); refine st_ ?_; (refine ru_ ?_; intros))))
    refine rn_ ?_; intros
    refine x_retc rfl hQ hmb rfl (by rw [hty]; simp only [so, sq, zy, zz, tyE, SO', SQ', opQ, opStore, opAlloc, ev, putS, dOk, cv, SV.cs, SV.one, SV.bool?, eqB, Value.oneCell', ldOwn, binInt, binConst, binBool, binStr, isC, TK.agg, rv, rv1, ldV, resOne, resV, Nat.reduceAdd, Nat.reduceMul, Nat.reduceSub, Nat.reduceLT, Nat.reduceLeDiff, Nat.reduceEqDiff, Nat.reduceBEq, reduceIte, reduceCtorEq, eq_self]; try rfl) rfl ?_; simp only [SV.den, resV, dens]
    rw [hn]
    exact ⟨_, _, _, _, rfl, noF_rep _⟩
  (refine go_gsplit rfl rfl (fun hc => absurd hc (by simp)) (fun _ => ?_); refine st_ ?_; (refine rn_ ?_; intros))
  refine go_callf (by rw [hnt]; rfl) (by rw [hP]; kernel_rfl) rfl (hP ▸ refIsEvent_ok v _ G (VT.repC_rep hv) (by omega)) ?_; refine rn_ ?_; intros
  rw [h1, Bool.true_and]
  cases h2 : evk v.k
  · have hn : newF v = (noF, 2) := by rw [newF, evF, h1, h2]; rfl
    (refine x_split rfl rfl rfl (fun _ => ?_) (fun hc => absurd hc (by simp)); refine st_ ?_; (refine ru_ ?_; intros))
    refine rn_ ?_; intros
    refine x_retc rfl hQ hmb rfl (by rw [hty]; simp only [so, sq, zy, zz, tyE, SO', SQ', opQ, opStore, opAlloc, ev, putS, dOk, cv, SV.cs, SV.one, SV.bool?, eqB, Value.oneCell', ldOwn, binInt, binConst, binBool, binStr, isC, TK.agg, rv, rv1, ldV, resOne, resV, Nat.reduceAdd, Nat.reduceMul, Nat.reduceSub, Nat.reduceLT, Nat.reduceLeDiff, Nat.reduceEqDiff, Nat.reduceBEq, reduceIte, reduceCtorEq, eq_self]; try rfl) rfl ?_; simp only [SV.den, resV, dens]
    rw [hn]
    exact ⟨_, _, _, _, rfl, noF_rep _⟩
  have hn : newF v = (⟨1, [⟨v, [], []⟩], [], [], ⟨0, []⟩⟩, 0) := by rw [newF, evF, h1, h2]; rfl
  (refine x_split rfl rfl rfl (fun hc => absurd hc (by simp)) (fun _ => ?_); refine st_ ?_; (refine ru_ ?_; intros))
  refine rn_ ?_; intros
  rename_i b9
  refine go_litrow 2 (n := 1) (size := 5) rfl (by omega) rfl (by omega) ?_
  refine st_ ?_
  refine go_rowC 2 rfl ?_
  intro y z hyz hcz
  cases hyz
  refine go_pubL rT 2 rfl (by omega) (ts := [⟨v, [], []⟩]) rfl (by omega) (Rp.L_single ⟨_, _, _, rfl, ⟨hv, hb, Rp.S_nil _ _, Rp.S_nil _ _, capNil⟩⟩) ?_
  intro G1 y1 z1 (hle1 : Le G G1) he1 hS1
  rw [← he1] at hS1
  refine st_ ?_
  refine x_retc rfl hQ hmb rfl (by rw [hty]; simp only [so, sq, zy, zz, tyE, SO', SQ', opQ, opStore, opAlloc, ev, putS, dOk, cv, SV.cs, SV.one, SV.bool?, eqB, Value.oneCell', ldOwn, binInt, binConst, binBool, binStr, isC, TK.agg, rv, rv1, ldV, resOne, resV, Nat.reduceAdd, Nat.reduceMul, Nat.reduceSub, Nat.reduceLT, Nat.reduceLeDiff, Nat.reduceEqDiff, Nat.reduceBEq, reduceIte, reduceCtorEq, eq_self]; try rfl) rfl ?_; simp only [SV.den, resV, dens]
  rw [hn]
  exact ⟨_, _, _, _, rfl, ⟨fun ad n c h => by cases h; omega, hS1, Rp.S_nil _ _, Rp.S_nil _ _, Rp.S_nil _ _⟩⟩
theorem rgive_ok (f : Fc) (sl sb sc sa : Value) (v : VT) (sv : Value) (G : Hp) (hf : f.rep G sl sb sc sa) (hv : v.repC G sv) (hb : tsz v ≤ 1048576) (h1 : f.st = 2 → 1 ≤ f.l.length) (hb1 : f.l.length ≤ 100) (hb2 : f.b.length ≤ 100) :
    Pure Tryd.prog 32 [.agg (fcL f sl sb sc sa).toArray, .agg #[.int .i64 v.k, .int .i64 v.n, sv]] G (fsRet (giveF f v)) := by
  obtain ⟨al, cl, rfl⟩ := Rp.S_slice hf.l
  obtain ⟨ab, cb, rfl⟩ := Rp.S_slice hf.b
  obtain ⟨ac, cc, rfl⟩ := Rp.S_slice hf.c
  obtain ⟨aa, ca, rfl⟩ := Rp.S_slice hf.a
  obtain ⟨av, qv, rfl⟩ := VT.repC_slice hv
  refine enterX ty tyok Tryd.func32 rfl Tryd.ntmps32 [.a (fcC f (.slice al f.l.length cl) (.slice ab f.b.length cb) (.slice ac f.c.length cc) (.slice aa f.cl.a.length ca)), .a [.v (.int .i64 v.k), .v (.int .i64 v.n), .v (.slice av v.l.length qv)]] (by simp) ?_
  simp only [fcC]
  intro C hP hQ hnt hty hmb hmh hro; have hQp := qp_body hQ; refine st_ ?_
  refine rn_ ?_; intros
  refine go_callf (by rw [hnt]; rfl) (by rw [hP]; kernel_rfl) rfl (hP ▸ refright_ok v _ G (VT.repC_rep hv) (by omega)) ?_; refine rn_ ?_; intros
  cases hr : vld v
  · have hg : giveF f v = (f, 2) := by rw [giveF, if_pos hr]
    (refine x_split rfl rfl rfl (fun _ => ?_) (fun hc => absurd hc (by first | decide +kernel | (simp; first | done | fail))); refine st_ ?_; (refine ru_ ?_; intros))
    refine rn_ ?_; intros
    refine x_retc rfl hQ hmb rfl (by rw [hty]; simp only [so, sq, zy, zz, tyE, SO', SQ', opQ, opStore, opAlloc, ev, putS, dOk, cv, SV.cs, SV.one, SV.bool?, eqB, Value.oneCell', ldOwn, binInt, binConst, binBool, binStr, isC, TK.agg, rv, rv1, ldV, resOne, resV, Nat.reduceAdd, Nat.reduceMul, Nat.reduceSub, Nat.reduceLT, Nat.reduceLeDiff, Nat.reduceEqDiff, Nat.reduceBEq, reduceIte, reduceCtorEq, eq_self]; try rfl) rfl ?_; simp only [SV.den, resV, dens]
    rw [hg]
    exact ⟨_, _, _, _, rfl, hf⟩
  (refine x_split rfl rfl rfl (fun hc => absurd hc (by first | decide +kernel | (simp; first | done | fail))) (fun _ => ?_); refine st_ ?_; (refine ru_ ?_; intros))
  refine rn_ ?_; intros
  by_cases hs : f.st = 2
  rotate_left
  · have hg : giveF f v = (f, 100) := by rw [giveF, if_neg (by rw [hr]; decide), if_pos hs]
    (refine x_split rfl rfl rfl (fun _ => ?_) (fun hc => absurd hc (by simpa using hs)); refine st_ ?_; (refine ru_ ?_; intros))
    refine rn_ ?_; intros
    refine x_retc rfl hQ hmb rfl (by rw [hty]; simp only [so, sq, zy, zz, tyE, SO', SQ', opQ, opStore, opAlloc, ev, putS, dOk, cv, SV.cs, SV.one, SV.bool?, eqB, Value.oneCell', ldOwn, binInt, binConst, binBool, binStr, isC, TK.agg, rv, rv1, ldV, resOne, resV, Nat.reduceAdd, Nat.reduceMul, Nat.reduceSub, Nat.reduceLT, Nat.reduceLeDiff, Nat.reduceEqDiff, Nat.reduceBEq, reduceIte, reduceCtorEq, eq_self]; try rfl) rfl ?_; simp only [SV.den, resV, dens]
    rw [hg]
    exact ⟨_, _, _, _, rfl, hf⟩
  (refine x_split rfl rfl rfl (fun hc => absurd hc (by simpa using hs)) (fun _ => ?_); refine st_ ?_; (refine ru_ ?_; intros))
  have hl1 := h1 hs
  obtain ⟨c0, o0, s1, s2, s3, e0, hat, hrx⟩ := rT_at hf.l (i := 0) (by omega)
  subst e0
  obtain ⟨x, r, hfl⟩ : ∃ x r, f.l = x :: r := by
    cases hl : f.l with
    | nil => rw [hl] at hl1; simp at hl1
    | cons x r => exact ⟨x, r, rfl⟩
  have hh : f.l.head? = some x := by rw [hfl]; rfl
  have hx0 : f.l[0]'(by omega) = x := by simp [hfl]
  rw [hx0] at hat hrx
  have hg : giveF f v = (putsF f [⟨v, x.w, x.c⟩], 0) := by rw [giveF, if_neg (by rw [hr]; decide), if_neg (by simp [hs]), hh]
  obtain ⟨a1, q1, rfl⟩ := VT.repC_slice hrx.v
  obtain ⟨a2, q2, rfl⟩ := Rp.S_slice hrx.w
  obtain ⟨a3, q3, rfl⟩ := Rp.S_slice hrx.c
  refine rn_ ?_; intros
  refine go_q (by rw [hnt]; rfl) (quiet_index (by rw [hty]; rfl) (by rw [hty]; rfl) rfl rfl rfl (by omega) (by omega)) ?_
  refine rn_ ?_; intros
  refine go_q (v := .agg (itL x (.slice a1 x.v.l.length q1) (.slice a2 x.w.length q2) (.slice a3 x.c.length q3)).toArray) (by rw [hnt]; rfl) ((quiet_load (by rw [hty]; rfl) rfl (fun q => by cases q) (by simpa using hat) rfl).cast (by simp only [ldV]; rfl)) ?_
  simp only [itL]
  refine rn_ ?_; intros
  rename_i b9
  refine go_slot 23 (.v (.slice (some ⟨b9, 0, none⟩) 1 1)) rfl rfl ?_
  refine go_litrow 4 (n := 1) (size := 5) rfl (by omega) rfl (by omega) ?_
  refine st_ ?_
  refine go_pubL rT 4 rfl (by omega) (ts := [⟨v, x.w, x.c⟩]) rfl (by omega) (Rp.L_single ⟨_, _, _, rfl, ⟨hv, hb, hrx.w, hrx.c, hrx.cc⟩⟩) ?_
  intro G2 y9 z9 (hle2 : Le G G2) he2 hS2
  rw [← he2] at hS2
  refine st_ ?_
  refine go_call (by rw [hnt]; rfl) (by rw [hP]; kernel_rfl) rfl (hP ▸ rputs_ok f _ _ _ _ _ _ G2 (hf.mono hle2) hS2 hl1 (by omega) (by omega) (by simp)) ?_
  rintro v G3 (hle3 : Le G2 G3) ⟨t1, t2, t3, t4, rfl, hpr⟩
  obtain ⟨u1, w1, rfl⟩ := Rp.S_slice hpr.l
  obtain ⟨u2, w2, rfl⟩ := Rp.S_slice hpr.b
  obtain ⟨u3, w3, rfl⟩ := Rp.S_slice hpr.c
  obtain ⟨u4, w4, rfl⟩ := Rp.S_slice hpr.a
  rw [hg] at hQ
  generalize putsF f _ = pp at *
  simp only [fcL]
  refine rn_ ?_; intros
  refine x_retc rfl hQ hmb rfl (by rw [hty]; simp only [so, sq, zy, zz, tyE, SO', SQ', opQ, opStore, opAlloc, ev, putS, dOk, cv, SV.cs, SV.one, SV.bool?, eqB, Value.oneCell', ldOwn, binInt, binConst, binBool, binStr, isC, TK.agg, rv, rv1, ldV, resOne, resV, Nat.reduceAdd, Nat.reduceMul, Nat.reduceSub, Nat.reduceLT, Nat.reduceLeDiff, Nat.reduceEqDiff, Nat.reduceBEq, reduceIte, reduceCtorEq, eq_self]; try rfl) rfl ?_; simp only [SV.den, resV, dens]
  exact ⟨_, _, _, _, rfl, hpr⟩
end Go.Proofs.YthocgjchmpkhoaaDoor
namespace Go.Proofs.YthocgjchmpkhoaaDoor
set_option linter.unusedSimpArgs false
set_option linter.unusedVariables false
open Go.Sx
theorem sml_tsz {x : VT} (h : sml x = true) : tsz x ≤ 256 := by
  simp only [sml, cnt_eq x 0 (by omega), decide_eq_true_eq] at h; omega
theorem tsz_sml {x : VT} (h : tsz x ≤ 256) : sml x = true := by
  simp only [sml, cnt_eq x 0 (by omega), decide_eq_true_eq]; omega
theorem shpsL_mem : ∀ {l : List VT} {x : VT}, shpsL l = true → x ∈ l → shps x = true
  | [], _, _, h => by cases h
  | y :: l, x, h, hx => by
    simp only [shpsL, Bool.and_eq_true] at h
    rcases List.mem_cons.1 hx with rfl | hx
    · exact h.1
    · exact shpsL_mem h.2 hx
theorem tsz_own (x : VT) : tsz x = 1 + tszL x.l := by obtain ⟨k, n, l⟩ := x; simp only [tsz, VT.l]
theorem vld_mem {x y : VT} (h : vld x = true) (hy : y ∈ x.l) : vld y = true := by
  simp only [vld, Bool.and_eq_true] at h ⊢
  have h1 := sml_tsz h.1
  have h2 := tszL_mem hy
  have h3 := tsz_own x
  refine ⟨tsz_sml (by omega), ?_⟩
  have h4 := h.2
  obtain ⟨k, n, l⟩ := x
  simp only [shps, Bool.and_eq_true] at h4
  exact shpsL_mem h4.2 hy
structure FcOk (f : Fc) : Prop where
  v : ∀ x ∈ f.l, vld x.v = true
  w : ∀ x ∈ f.l, x.w.length ≤ 32 ∧ x.c.length ≤ 32
  n : f.l.length + f.b.length ≤ 32
  s : f.st = 1 ∨ f.st = 2 ∨ f.st = 3 → 1 ≤ f.l.length
  r : 0 ≤ f.st ∧ f.st ≤ 5
theorem wrF_fc : FcOk wrF := ⟨fun x h => (by cases h), fun x h => (by cases h), by simp [wrF], fun h => by simp [wrF] at h, by simp [wrF]⟩
theorem noF_fc : FcOk noF := ⟨fun x h => (by cases h), fun x h => (by cases h), by simp [noF], fun h => by simp [noF] at h, by simp [noF]⟩
theorem puts_fc {f : Fc} (l : List It) (h : ∀ x ∈ l ++ f.l.drop 1, vld x.v = true) : FcOk (putsF f l) := by
  by_cases h1 : 32 < (l ++ f.l.drop 1).length + f.b.length
  · rw [putsF_wr (.inl h1)]; exact wrF_fc
  cases h2 : (l ++ f.l.drop 1).any lngI with
  | true => rw [putsF_wr (.inr h2)]; exact wrF_fc
  | false =>
    rw [putsF_ok h1 h2]
    refine ⟨h, fun x hx => ?_, by show (l ++ f.l.drop 1).length + f.b.length ≤ 32; omega, fun hs => ?_, ?_⟩
    · have := List.any_eq_false.1 h2 x hx
      simp [lngI] at this
      omega
    · show 1 ≤ (l ++ f.l.drop 1).length
      rcases Nat.eq_zero_or_pos (l ++ f.l.drop 1).length with h0 | h0
      · simp only [h0, if_true] at hs
        omega
      · exact h0
    · show 0 ≤ (if (l ++ f.l.drop 1).length = 0 then (4 : Int) else 1) ∧ (if (l ++ f.l.drop 1).length = 0 then (4 : Int) else 1) ≤ 5
      split <;> omega
theorem drop_vld {f : Fc} (h : FcOk f) : ∀ x ∈ f.l.drop 1, vld x.v = true := fun x hx => h.v x (List.mem_of_mem_drop hx)
theorem step_fc {f : Fc} (h : FcOk f) : FcOk (stepF f).1 := by
  rw [stepF]
  split
  · exact h
  · rename_i hs
    have hs : f.st = 1 := by simpa using hs
    have h1 := h.s (.inl hs)
    cases hl : f.l.head? with
    | none => exact h
    | some x =>
      have hxm : x ∈ f.l := List.mem_of_mem_head? hl
      have hvx := h.v x hxm
      simp only
      split
      · exact puts_fc _ (by simpa using drop_vld h)
      · split
        · refine puts_fc _ fun y hy => ?_
          rcases List.mem_append.1 hy with hy | hy
          · obtain ⟨z, hz, rfl⟩ := List.mem_map.1 hy
            exact vld_mem hvx hz
          · exact drop_vld h y hy
        · split
          · rename_i k10
            refine puts_fc _ fun y hy => ?_
            rcases List.mem_append.1 hy with hy | hy
            · simp only [List.mem_singleton] at hy
              subst hy
              have := vld_k10 hvx k10
              rw [List.getD_eq_getElem?_getD, List.getElem?_eq_getElem (by omega)]
              exact vld_mem hvx (List.getElem_mem _)
            · exact drop_vld h y hy
          · split
            · exact ⟨h.v, h.w, h.n, fun _ => h1, by show (0 : Int) ≤ 2 ∧ (2 : Int) ≤ 5; omega⟩
            · split
              · exact ⟨h.v, h.w, h.n, fun _ => h1, by show (0 : Int) ≤ 3 ∧ (3 : Int) ≤ 5; omega⟩
              · exact wrF_fc
theorem new_fc (v : VT) : FcOk (newF v).1 := by
  rw [newF]
  split
  · rename_i h
    simp only [evF, Bool.and_eq_true] at h
    exact ⟨fun x hx => by simp at hx; subst hx; exact h.1, fun x hx => by simp at hx; subst hx; simp, by simp, fun _ => by simp, by simp⟩
  · exact noF_fc
end Go.Proofs.YthocgjchmpkhoaaDoor
namespace Go.Proofs.YthocgjchmpkhoaaDoor
set_option linter.unusedSimpArgs false
set_option linter.unusedVariables false
open Go.Sx
def mu (l : List It) : Nat := (l.map fun x => tsz x.v).sum
theorem mu_app (a b : List It) : mu (a ++ b) = mu a + mu b := by simp [mu]
theorem mu_map (x : It) : ∀ (l : List VT), mu (l.map fun v => ⟨v, x.w, x.c⟩) = tszL l
  | [] => by simp [mu, tszL]
  | y :: l => by have := mu_map x l; simp only [mu, List.map_cons, List.sum_cons, tszL] at this ⊢; omega
theorem puts_mu {f : Fc} {l : List It} (h : (putsF f l).st = 1) : mu (putsF f l).l = mu l + mu (f.l.drop 1) := by
  by_cases h1 : 32 < (l ++ f.l.drop 1).length + f.b.length
  · rw [putsF_wr (.inl h1)] at h; simp [wrF] at h
  cases h2 : (l ++ f.l.drop 1).any lngI with
  | true => rw [putsF_wr (.inr h2)] at h; simp [wrF] at h
  | false => rw [putsF_ok h1 h2]; exact mu_app _ _
theorem step_mu {f : Fc} (h : FcOk f) (hs : f.st = 1) (h2 : (stepF f).1.st = 1) : mu (stepF f).1.l < mu f.l := by
  have h1 := h.s (.inl hs)
  obtain ⟨x, r, hl⟩ : ∃ x r, f.l = x :: r := by
    cases hl : f.l with
    | nil => rw [hl] at h1; simp at h1
    | cons x r => exact ⟨x, r, rfl⟩
  have hh : f.l.head? = some x := by rw [hl]; rfl
  have hd : f.l.drop 1 = r := by rw [hl]; rfl
  have hm : mu f.l = tsz x.v + mu r := by rw [hl]; simp [mu]
  have hp : 0 < tsz x.v := by have := tsz_own x.v; omega
  have ho := tsz_own x.v
  have hvx := h.v x (by rw [hl]; simp)
  have hsf : stepF f = if isB x.v.k = true then (putsF { f with b := f.b ++ [baseF x] } [], 0) else
    if x.v.k = 9 then (putsF f (x.v.l.map fun v => ⟨v, x.w, x.c⟩), 0) else
    if x.v.k = 10 then (putsF f [⟨x.v.l.getD 0 zV, ⟨x.v.n, x.v.l.drop 1⟩ :: x.w, x.c⟩], 0) else
    if x.v.k = 11 then ({ f with st := 2, cl := ⟨x.v.n, x.v.l⟩ }, 0) else
    if x.v.k = 12 then ({ f with st := 3 }, 0) else (wrF, 0) := by rw [stepF, if_neg (by simp [hs]), hh]
  rw [hsf] at h2 ⊢
  split at h2
  · rename_i c; rw [if_pos c]
    have := puts_mu h2
    simp only [mu, List.map_nil, List.sum_nil] at this
    rw [show ({ f with b := f.b ++ [baseF x] } : Fc).l = f.l from rfl, hd] at this
    simp only [mu] at hm ⊢
    omega
  · rename_i c; rw [if_neg c]
    split at h2
    · rename_i c; rw [if_pos c]
      have := puts_mu h2
      rw [mu_map, hd] at this
      show mu (putsF f _).l < _
      omega
    · rename_i c; rw [if_neg c]
      split at h2
      · rename_i c; rw [if_pos c]
        have := puts_mu h2
        have h10 := vld_k10 hvx c
        have h11 := tszL_mem (List.getElem_mem (by omega : 0 < x.v.l.length))
        have g0 : x.v.l.getD 0 zV = x.v.l[0] := by rw [List.getD_eq_getElem?_getD, List.getElem?_eq_getElem (by omega)]; rfl
        rw [hd, g0] at this
        rw [g0]
        have e : mu [⟨x.v.l[0], ⟨x.v.n, x.v.l.drop 1⟩ :: x.w, x.c⟩] = tsz x.v.l[0] := by simp [mu]
        show mu (putsF f _).l < _
        omega
      · rename_i c; rw [if_neg c]
        split at h2
        · simp at h2
        · rename_i c; rw [if_neg c]
          split at h2
          · simp at h2
          · simp [wrF] at h2
def runF : Nat → Fc → Fc
  | 0, f => f
  | n + 1, f => if f.st = 1 then runF n (stepF f).1 else f
theorem run_stop {n : Nat} {f : Fc} (h : f.st ≠ 1) : runF n f = f := by cases n <;> simp [runF, h]
theorem run_fuel : ∀ (k j : Nat) (f : Fc), FcOk f → (f.st = 1 → mu f.l < k ∧ mu f.l < j) → runF k f = runF j f
  | 0, j, f, _, h => by
    by_cases hs : f.st = 1
    · have := (h hs).1; omega
    · rw [run_stop hs, run_stop hs]
  | k + 1, 0, f, _, h => by
    by_cases hs : f.st = 1
    · have := (h hs).2; omega
    · rw [run_stop hs, run_stop hs]
  | k + 1, j + 1, f, hf, h => by
    rw [runF, runF]
    split
    · rename_i hs
      have := h hs
      exact run_fuel k j _ (step_fc hf) fun h2 => by have := step_mu hf hs h2; omega
    · rfl
def endF (f : Fc) : Fc := runF (mu f.l + 1) f
theorem end_stop {f : Fc} (h : f.st ≠ 1) : endF f = f := run_stop h
theorem end_step {f : Fc} (hf : FcOk f) (h : f.st = 1) : endF f = endF (stepF f).1 := by
  rw [endF, runF, if_pos h]
  refine run_fuel _ _ _ (step_fc hf) fun h2 => ?_
  have := step_mu hf h h2
  omega
def plainF (v : VT) : List Bs × Bool := if (newF v).2 = 0 ∧ (endF (newF v).1).st = 4 then ((endF (newF v).1).b, true) else ([], false)
end Go.Proofs.YthocgjchmpkhoaaDoor
namespace Go.Sx
set_option linter.unusedSimpArgs false
set_option linter.unusedVariables false
open Go.RowKit

section
variable {C : Ctx} {K : List KI} {s : St}
end

theorem retv_grow {w w' : World} {G G' : Hp} {rs : List Rw} {Z X : Nat → Prop} (hw : Has w G) (hg : Grow [] w G w' G') (hz : (ZR rs).A Z Z w') (hZ : ∀ g, Z g → G' g = none ∧ w.heap.size ≤ g) :
    ∃ G2, Grow [] w G w' G2 ∧ Le G' G2 ∧ (∀ g, Z g → X g → G2 g = none) ∧ ∀ (i : Nat) (r : Rw), rs[i]? = some r → (∀ g, r.v.ownBlock = some g → ¬ X g) → RowAt G2 r := by
  classical
  obtain ⟨z1, z2, z3, z4⟩ := hz
  refine ⟨fun g => if Z g ∧ ¬ X g then w'.heap[g]? else G' g, ⟨hg.os, hg.tape, hg.output, hg.size, hg.blk, fun g o e => ?_, fun g hlt => ?_⟩, fun g o e => ?_, fun g hz hx => ?_, fun i r e hr => row_at (z1 i r e) fun g hg' => ?_⟩
  · split at e
    · exact e
    · exact hg.has g o e
  · have : ¬ Z g := fun q => by have := (hZ g q).2; omega
    simp only [this, false_and, if_false]
    exact hg.old g hlt
  · have : ¬ Z g := fun q => by rw [(hZ g q).1] at e; cases e
    simp only [this, false_and, if_false]
    exact e
  · simp only [hx, not_true_eq_false, and_false, if_false]
    exact (hZ g hz).1
  · have h1 : Z g := (z3 g).2 ⟨i, r, e, hg'⟩
    simp only [h1, hr g hg', not_false_eq_true, and_self, if_true]
theorem PureV.pure {P : Program} {f : FuncId} {args : List Value} {G : Hp} {φ : Value → Hp → List Rw → Prop} {ψ : Value → Hp → Prop} (h : PureV P f args G φ)
    (hψ : ∀ v G1 G2 rs, Le G G1 → Le G1 G2 → φ v G1 rs → (∀ (i : Nat) (r : Rw), rs[i]? = some r → RowAt G2 r) → ψ v G2) : Pure P f args G ψ := by
  intro w hw
  refine (h w hw).mono ?_
  rintro e w' ⟨v, G', rs, Z, rfl, hg, hz, hZ, hφ⟩
  obtain ⟨G2, g1, g2, _, g3⟩ := retv_grow (X := fun _ => False) hw hg hz hZ
  exact ⟨v, G2, rfl, g1, hψ v G' G2 rs (fun b o e => hg.keep hw e) g2 hφ fun i r e => g3 i r e (fun _ _ q => q)⟩
section
variable {C : Ctx} {K : List KI} {s : St} {sl : List (Nat × SV)} {own : Owns} {G : Hp} {R : Array Oper} {l : List Oper} {d : Option Tmp} {t : TypeId} {pos : String} {aft : Array Edge}
end
end Go.Sx
namespace Go.Sx
set_option linter.unusedSimpArgs false
set_option linter.unusedVariables false
open Go.RowKit
section
variable {C : Ctx} {sl : List (Nat × SV)} {own : List (Nat × Nat × OO)} {G : Hp}
end
section
variable {G : Hp}
end
section
variable {C : Ctx} {K : List KI} {s : St} {R : Array Oper} {l : List Oper} {d : Option Tmp} {t : TypeId} {pos : String} {aft : Array Edge}
theorem leave_gen {fn : Func} {Rr : Ending → World → Prop} {a : Act} {w : World} (hS : Sat C s a w) {f : FuncId} {cap : List Value} (hdf : s.df = [dfn f cap]) {u : FrameMode} (hu : u ≠ .run) (hf : canCall C.P f = true) {ks : List Nat} {ow : Lds}
    (hk : lkAll s.own ks = some ow) (hn : noDup ks = true) (hks : (∀ k ∈ ks, C.mh ≤ k) ∨ (∀ k ∈ ks, k < C.mh)) {ψ : FrameMode → Hp → Lds → Prop} (hc : CloD C.P f cap s.G ow u ψ)
    (h : ∀ u' G' ow', Le s.G G' → ψ u' G' ow' → settle u' = .returning ∧ ∀ (a : Act) (w : World), Sat C ⟨s.sl, setO ks ow' s.own, G', s.df⟩ a w → ∃ v, (results fn a.tmps).run C.P w = .ok v w ∧ Rr (.returned v) w) :
    LeavesIn Fence.wide 0 C.P fn a.tmps Rr a.defers u w := by
  rw [hS.df, hdf]
  refine leavesIn_cons (f := f) (args := cap.toArray) hu (by simp [Fence.wide]) (by simp [invoke, callFunc_ok hf]) (fun _ _ => trivial) ?_
  refine (hc w hS.mem.has (Lent.of hS.mem hk hn)).mono ?_
  rintro e u' w' ⟨v, G', ow', rfl, q1, q2, q3, q4, q5, q6, q7, q8, q9⟩
  have hle : Le s.G G' := fun b o e => by
    rw [q4 b (lt_of_heap (hS.mem.has b o e))]; exact e
  obtain ⟨h1, h2⟩ := h u' G' ow' hle q9
  have hm := hS.mem.lentM hk hn hks q1 q2 q3 q4 q5 q6 q7 q8
  have hS' : Sat C ⟨s.sl, setO ks ow' s.own, G', s.df⟩ a w' := ⟨hS.sl, hS.nt, hS.df, hm⟩
  simp only [h1]
  exact h2 a w' hS'
theorem retw0 {fn : Func} {G : Hp} {ow : Lds} {φ : Value → Hp → Lds → Prop} (hmb : ∀ g, g ∈ C.mb → mutOf ow g) {mh : Nat} (hmh : C.mh = mh) (hG : C.G0 = G) (hmub : ∀ g, mutOf ow g → blkOf ow g) (hml : ow.length = mh)
    (hrs : fn.results.toList = []) {ow' : Lds} (hp : pickO s.own 0 mh = some ow') (hpl : Plain (enumO 0 ow')) (h : ∀ v, φ v s.G ow') {a : Act} {w : World} (hS : Sat C s a w) :
    ∃ v, (results fn a.tmps).run C.P w = .ok v w ∧ RetW C.w0 G ow φ (.returned v) w := by
  have hg := hS.mem.grow
  obtain ⟨p1, p2⟩ := pickO_get hp
  have p3 : ∀ {i b o}, ow'[i]? = some (b, o) → lk i s.own = some (b, o) := fun {i b o} e => by simpa using p2 i _ e
  have p4 : ∀ {i b o}, ow'[i]? = some (b, o) → i < mh := fun {i b o} e => by
    rcases Nat.lt_or_ge i ow'.length with q | q
    · omega
    · rw [List.getElem?_eq_none q] at e; cases e
  have p5 : ∀ g, blkOf ow' g → mutOf ow' g := fun g ⟨i, b, o, e, hb⟩ => ⟨i, b, o, e, hpl i b o (by rw [lk_enumO]; simpa using e) g hb⟩
  have p6 : ∀ g, mutOf ow' g → mutOf ow g ∨ C.w0.heap.size ≤ g := fun g ⟨i, b, o, e, hb⟩ => by
    obtain ⟨_, q⟩ := hS.mem.own _ _ _ (p3 e)
    rcases (q g hb).2.2 (by rw [hmh]; exact p4 e) with q | q
    · exact .inl (hmb g q)
    · exact .inr q
  have hres : (results fn a.tmps).run C.P w = .ok (.tuple #[]) w := by
    have : fn.results = #[] := by simpa using hrs
    simp [results, this]
  refine ⟨_, hres, _, _, ow', rfl, hg.fr, fun g hg1 hg2 => ?_, hg.has, fun b hb => by rw [hg.old b hb, hG], ⟨fun i b o e => ?_, fun i j b b' o o' g e e' f f' => ?_⟩, by omega, fun g q => ?_, p6, h _⟩
  · exact hg.blk g hg1 fun q => hg2 (hmb g q)
  · obtain ⟨q1, q2⟩ := hS.mem.own _ _ _ (p3 e)
    exact ⟨q1, fun g q => (q2 g q).1⟩
  · exact hS.mem.inj _ _ _ _ _ _ g (p3 e) (p3 e') f f'
  · exact (p6 g (p5 g q)).imp (hmub g) id
end
end Go.Sx
namespace Go.Sx
set_option linter.unusedSimpArgs false
set_option linter.unusedVariables false
open Go.RowKit
section
variable {P : Program} {ro : Option Nat} {Q : Exit → Act → World → Prop}
variable {C : Ctx} {K : List KI} {s : St} {R : Array Oper} {l : List Oper} {d : Option Tmp} {t : TypeId} {pos : String} {aft : Array Edge}
def RetX (w : World) (G : Hp) (ow : Lds) (φ : Value → Hp → Lds → Prop) : Ending → World → Prop := fun e w' =>
  ∃ v G' ow', e = .panicked [pE v] ∧ Fr w w' ∧ (∀ g, g < w.heap.size → ¬ mutOf ow g → w'.heap[g]? = w.heap[g]?) ∧ Has w' G' ∧ (∀ b, b < w.heap.size → G' b = G b) ∧ Lent ow' G' w' ∧ ow'.length = ow.length ∧
    (∀ g, blkOf ow' g → blkOf ow g ∨ w.heap.size ≤ g) ∧ (∀ g, mutOf ow' g → mutOf ow g ∨ w.heap.size ≤ g) ∧ φ v G' ow'
def RetWQ (w : World) (G : Hp) (ow : Lds) (φ ψ : Value → Hp → Lds → Prop) : Ending → World → Prop := fun e w' => RetW w G ow φ e w' ∨ RetX w G ow ψ e w'
def PureWQ (P : Program) (f : FuncId) (args : List Value) (G : Hp) (ow : Lds) (φ ψ : Value → Hp → Lds → Prop) : Prop :=
  ∀ w, Has w G → Lent ow G w → Calls P f args.toArray w (RetWQ w G ow φ ψ)
theorem go_callWQ (ks : List Nat) {f : FuncId} {args : Array Operand} {tys : Array TypeId} {vs : List SV} {ow : Lds} {φ : Value → Hp → Lds → Prop} {ψ : Value → Hp → Lds → Prop} (hd : dOk C.nt d = true) (hnb : noBr K = true) (hf : canCall C.P f = true) (ha : evs s.sl args.toList = some vs)
    (hk : lkAll s.own ks = some ow) (hn : noDup ks = true) (hks : (∀ k ∈ ks, C.mh ≤ k) ∨ (∀ k ∈ ks, k < C.mh)) (hc : PureWQ C.P f (dens vs) s.G ow φ ψ)
    (h : ∀ v G' ow', Le s.G G' → φ v G' ow' → SGo C (.ops R l :: K) ⟨putS d (rv v) s.sl, setO ks ow' s.own, G', s.df⟩)
    (h' : ∀ v G' ow', Le s.G G' → ψ v G' ow' → SPan C v ⟨s.sl, setO ks ow' s.own, G', s.df⟩) : SGo C (.ops R (⟨d, .call ⟨.value (.func f), args, tys⟩, t, pos, aft, none⟩ :: l) :: K) s := by
  intro a w hS
  have hargs : args.map a.eval = (dens vs).toArray := by apply Array.ext'; rw [Array.toList_map]; exact evs_ok hS.sl ha
  have hrun : (execOp a.eval ⟨d, .call ⟨.value (.func f), args, tys⟩, t, pos, aft, none⟩).run C.P w = .ok (.enter f (dens vs).toArray) w := by
    simp only [execOp, resolve, hargs, Act.eval, Deferred.ofValue, Sem.run_bind, Sem.run_pure, Result.andThen_ok, invoke]
    simp [callFunc_ok hf]
  refine K_op rfl (op_enterP hrun ((hc w hS.mem.has (Lent.of hS.mem hk hn)).mono ?_))
  rintro e w' (⟨v, G', ow', rfl, q1, q2, q3, q4, q5, q6, q7, q8, q9⟩ | ⟨v, G', ow', rfl, q1, q2, q3, q4, q5, q6, q7, q8, q9⟩)
  · refine .inl ⟨v, rfl, ?_⟩
    have hm := hS.mem.lentM hk hn hks q1 q2 q3 q4 q5 q6 q7 q8
    have hle : Le s.G G' := fun b o e => by
      rw [q4 b (lt_of_heap (hS.mem.has b o e))]; exact e
    have hS' := hS.put hd (rv v) hm
    rw [rv_den] at hS'
    exact h v G' ow' hle q9 _ _ hS'
  · have hm := hS.mem.lentM hk hn hks q1 q2 q3 q4 q5 q6 q7 q8
    have hle : Le s.G G' := fun b o e => by
      rw [q4 b (lt_of_heap (hS.mem.has b o e))]; exact e
    exact .inr ⟨_, rfl, wpK_pan _ (.ops R l :: K) a w' hnb (h' v G' ow' hle q9 a w' ⟨hS.sl, hS.nt, hS.df, hm⟩)⟩
theorem enterWQ {P : Program} {f : FuncId} {fn : Func} {G : Hp} {ow : Lds} {φ : Value → Hp → Lds → Prop} {ψ : Value → Hp → Lds → Prop} (ty : TypeId → Option TI) (tyok : ∀ T i, ty T = some i → i.ok P T) {nt : Nat}
    (hf : P.funcs[f]? = some fn) (hb : fn.body.isSome = true) (hn : fn.ntmps = nt) (svs : List SV) (hargs : svs.length ≤ nt) {mh : Nat} (hmh : ow.length = mh)
    (h : ∀ C : Ctx, C.P = P → C.Q = bodyPost C.P fn (RetWQ C.w0 G ow φ ψ) → C.nt = nt → C.ty = ty → (∀ g, g ∈ C.mb → mutOf ow g) → C.mh = mh → C.ro = none → C.G0 = G → (∀ g, mutOf ow g → blkOf ow g) → SGo C [.code (fn.body.getD .skip)] ⟨enumS 0 svs, enumO 0 ow, G, []⟩) : PureWQ P f (dens svs) G ow φ ψ := by
  intro w hw hL
  classical
  refine calls_of_wp hf (body_eq hb) ((wpIn_wide (n := 0)).1 ?_)
  have hlt : ∀ g, blkOf ow g → g < w.heap.size := fun g ⟨i, b, o, e, hg⟩ => OO.holds_lt (hL.own i b o e).1 hg
  have hml : ∀ g, mutOf ow g → g < w.heap.size := fun g ⟨i, b, o, e, hg⟩ => hlt g ⟨i, b, o, e, OO.mut_blks (hL.own i b o e).1 hg⟩
  have hmem : ∀ g, g ∈ (List.range w.heap.size).filter (fun g => decide (mutOf ow g)) ↔ mutOf ow g := fun g => by
    simp only [List.mem_filter, List.mem_range, decide_eq_true_eq]
    exact ⟨fun q => q.2, fun q => ⟨hml g q, q⟩⟩
  have hlk : ∀ k b o, lk k (enumO 0 ow) = some (b, o) → ow[k]? = some (b, o) := fun k b o e => by
    rw [lk_enumO] at e; simpa using e
  have := h ⟨P, bodyPost P fn (RetWQ w G ow φ ψ), nt, ty, tyok, w, G, (List.range w.heap.size).filter (fun g => decide (mutOf ow g)), mh, none⟩ rfl rfl rfl rfl (fun g hg => (hmem g).1 hg) rfl rfl rfl (fun g ⟨i, b, o, e, hg⟩ => ⟨i, b, o, e, OO.mut_blks (hL.own i b o e).1 hg⟩) { tmps := (dens svs).toArray ++ Array.replicate (fn.ntmps - (dens svs).toArray.size) undef, defers := [] } w
    ⟨slots_args _ _ _ (fun i x e => by have := (lk_enumS svs 0 i x e).2; simpa using this), by simp [hn, dens_eq]; omega, rfl, ⟨fun k b o e => ?_, fun k k' b b' o o' g e e' f f' => ?_, Grow.refl hw⟩⟩
  · simp only [wpK] at this
    exact this
  · have e' := hlk _ _ _ e
    obtain ⟨h1, h2⟩ := hL.own _ _ _ e'
    refine ⟨h1, fun g hg => ⟨h2 g hg, fun q => ?_, fun _ => .inl ((hmem g).2 ⟨_, _, _, e', hg⟩)⟩⟩
    have hk : k < ow.length := by
      rcases Nat.lt_or_ge k ow.length with q | q
      · exact q
      · rw [List.getElem?_eq_none q] at e'; cases e'
    have q : mh ≤ k := q
    omega
  · exact hL.inj _ _ _ _ _ _ g (hlk _ _ _ e) (hlk _ _ _ e') f f'
theorem x_endWQ {fn : Func} {G : Hp} {ow : Lds} {φ : Value → Hp → Lds → Prop} {ψ : Value → Hp → Lds → Prop} (hQ : C.Q = bodyPost C.P fn (RetWQ C.w0 G ow φ ψ)) (hmb : ∀ g, g ∈ C.mb → mutOf ow g) {mh : Nat} (hmh : C.mh = mh) (hG : C.G0 = G) (hmub : ∀ g, mutOf ow g → blkOf ow g) (hml : ow.length = mh)
    (hrs : fn.results.toList = []) (hdf : s.df = []) {ow' : Lds} (hp : pickO s.own 0 mh = some ow') (hpl : Plain (enumO 0 ow')) (h : ∀ v, φ v s.G ow') : SGo C [] s := by
  intro a w hS
  show C.Q .normal a w
  rw [hQ]
  obtain ⟨v, h1, h2⟩ := retw0 hmb hmh hG hmub hml hrs hp hpl h hS
  exact ⟨by rw [hS.df, hdf], v, h1, .inl h2⟩
theorem x_panWQ {fn : Func} {G : Hp} {ow : Lds} {φ ψ : Value → Hp → Lds → Prop} {v : Value} (hQ : C.Q = bodyPost C.P fn (RetWQ C.w0 G ow φ ψ)) (hmb : ∀ g, g ∈ C.mb → mutOf ow g) {mh : Nat} (hmh : C.mh = mh) (hG : C.G0 = G) (hmub : ∀ g, mutOf ow g → blkOf ow g) (hml : ow.length = mh)
    (hdf : s.df = []) {ow' : Lds} (hp : pickO s.own 0 mh = some ow') (hpl : Plain (enumO 0 ow')) (h : ψ v s.G ow') : SPan C v s := by
  intro a w hS
  rw [hQ]
  have hg := hS.mem.grow
  obtain ⟨p1, p2⟩ := pickO_get hp
  have p3 : ∀ {i b o}, ow'[i]? = some (b, o) → lk i s.own = some (b, o) := fun {i b o} e => by simpa using p2 i _ e
  have p4 : ∀ {i b o}, ow'[i]? = some (b, o) → i < mh := fun {i b o} e => by
    rcases Nat.lt_or_ge i ow'.length with q | q
    · omega
    · rw [List.getElem?_eq_none q] at e; cases e
  have p5 : ∀ g, blkOf ow' g → mutOf ow' g := fun g ⟨i, b, o, e, hb⟩ => ⟨i, b, o, e, hpl i b o (by rw [lk_enumO]; simpa using e) g hb⟩
  have p6 : ∀ g, mutOf ow' g → mutOf ow g ∨ C.w0.heap.size ≤ g := fun g ⟨i, b, o, e, hb⟩ => by
    obtain ⟨_, q⟩ := hS.mem.own _ _ _ (p3 e)
    rcases (q g hb).2.2 (by rw [hmh]; exact p4 e) with q | q
    · exact .inl (hmb g q)
    · exact .inr q
  refine ⟨by rw [hS.df, hdf], .inr ⟨v, _, ow', rfl, hg.fr, fun g hg1 hg2 => ?_, hg.has, fun b hb => by rw [hg.old b hb, hG], ⟨fun i b o e => ?_, fun i j b b' o o' g e e' f f' => ?_⟩, by omega, fun g q => ?_, p6, h⟩⟩
  · exact hg.blk g hg1 fun q => hg2 (hmb g q)
  · obtain ⟨q1, q2⟩ := hS.mem.own _ _ _ (p3 e)
    exact ⟨q1, fun g q => (q2 g q).1⟩
  · exact hS.mem.inj _ _ _ _ _ _ g (p3 e) (p3 e') f f'
  · exact (p6 g (p5 g q)).imp (hmub g) id
end
end Go.Sx
namespace Go.Sx
set_option linter.unusedSimpArgs false
set_option linter.unusedVariables false
open Go.RowKit
section
variable {C : Ctx} {K : List KI} {s : St} {R : Array Oper} {l : List Oper} {d : Option Tmp} {t : TypeId} {pos : String} {aft : Array Edge} {α : Type}
theorem run_append_zero {P : Program} {w : World} {T t e : TypeId} {te : TI} (g1 : P.underlying T = some (.slice e)) (he : te.ok P e) (ad ad' : Option Addr) (n c : Nat) :
    (Builtin.append_ #[T, T] t #[.slice ad n n, .slice ad' 0 c]).run P w = .ok (.slice ad n n) w := by
  have h0 : (Builtin.firstCells te.size 0 (.slice ad' 0 c)).run P w = .ok #[] w := by
    cases ad' with
    | none => simp [Builtin.firstCells]
    | some a => exact run_firstCells_some (P := P) w te.size 0 a 0 c [] (by simp) (by simp)
  cases ad with
  | none => simp [Builtin.append_, run_und w g1, run_size w he, Builtin.lenOf, h0]
  | some a => simp [Builtin.append_, run_und w g1, run_size w he, Builtin.lenOf, h0, storeCells]
theorem go_appendS (r : Rp α) {x y : Operand} {T e : TypeId} {te : TI} {sz by' : Nat} {ze : List Value} {fl : List (Nat × Nat × Bool)} {ad : Option Addr} {n m : Nat} {l1 l2 : List α} {news : List Value} {z vx : SV}
    (hd : dOk C.nt d = true) (hT : C.ty T = some ⟨.slice e, sz, by', ze, fl⟩) (he : C.ty e = some te) (hsz : 0 < te.size) (hrs : r.size = te.size) (hx : ev s.sl x = some vx) (hvx : vx.den = .slice ad n n) (hn : n = l1.length) (hS1 : r.S s.G l1 (.slice ad n n))
    (hy : ev s.sl y = some z) (hsrc : (∃ c, z.den = .slice none 0 c ∧ m = 0 ∧ news = []) ∨ Src C s z m news) (hm : m = l2.length) (hL2 : r.L s.G l2 news) (h63 : n + m ≤ 9223372036854775807) (hbytes : (n + m) * te.bytes ≤ 140737488355328)
    (h : ∀ G' ad' cap, Le s.G G' → n + m ≤ cap → r.S G' (l1 ++ l2) (.slice ad' (l1 ++ l2).length cap) → SGo C (.ops R l :: K) ⟨putS d (.v (.slice ad' (l1 ++ l2).length cap)) s.sl, s.own, G', s.df⟩) :
    SGo C (.ops R (⟨d, .call ⟨.builtin .append, #[x, y], #[T, T]⟩, t, pos, aft, none⟩ :: l) :: K) s := by
  subst hn hm
  have hll : (l1 ++ l2).length = l1.length + l2.length := List.length_append
  have g1 : C.P.underlying T = some (.slice e) := by have := (C.tyok _ _ hT).k; simpa only [TK.fits] using this
  -- nothing is appended
  have hzero : ∀ (c : Nat) (ad2 : Option Addr), z.den = .slice ad2 0 c → l2 = [] → SGo C (.ops R (⟨d, .call ⟨.builtin .append, #[x, y], #[T, T]⟩, t, pos, aft, none⟩ :: l) :: K) s := by
    intro c ad2 hz h2 a w hS
    subst h2
    have hxv := ev_ok hS.sl hx
    have hyv := ev_ok hS.sl hy
    rw [hvx] at hxv
    rw [hz] at hyv
    have hrun : (execOp a.eval ⟨d, .call ⟨.builtin .append, #[x, y], #[T, T]⟩, t, pos, aft, none⟩).run C.P w = .ok (.value (.slice ad l1.length l1.length)) w := by
      simp only [execOp, resolve, invoke, builtin, Sem.run_bind, Sem.run_pure, Result.andThen_ok, List.map_toArray, List.map_cons, List.map_nil, hxv, hyv, run_append_zero g1 (C.tyok _ _ he)]
    refine K_value rfl hrun ?_
    have := h s.G ad l1.length (Le.refl _) (by simp) (by simpa using hS1) _ _ (hS.put hd (.v (.slice ad (l1 ++ []).length l1.length)) hS.mem)
    simpa only [SV.den, List.append_nil] using this
  rcases hsrc with ⟨c, hz, h0, rfl⟩ | hsrc
  · exact hzero c none hz (List.length_eq_zero_iff.1 h0)
  by_cases h2 : l2 = []
  · intro a w hS
    obtain ⟨a2, c2, hz, _⟩ := hsrc w hS.mem
    subst h2
    exact hzero c2 (some a2) hz rfl a w hS
  have hpos : 0 < l2.length := List.length_pos_iff.2 h2
  have hnl : news.length = l2.length * te.size := by rw [← hrs]; exact Rp.L_len hL2
  have hn1 := Rp.L_one hL2
  obtain ⟨kk, hkk⟩ : ∃ kk, kk = fk C.mh s.own := ⟨_, rfl⟩
  have hkn : lk kk s.own = none := by rw [hkk]; exact lk_fk _ _ _ (Nat.le_refl _)
  have hkm : C.mh ≤ kk := by rw [hkk]; exact fk_ge _ _
  have hfin : ∀ (olds : List Value) (v' : Value), r.L s.G l1 olds → SGo C (.ops R l :: K) ⟨putS d (.v v') s.sl, stk kk (0, .row v' e te.size (l1.length + l2.length) (olds ++ news)) s.own, s.G, s.df⟩ := by
    intro olds v' hL1
    refine go_rowcases kk ((lk_stk kk kk _ _).trans (if_pos rfl)) (fun _ hn0 _ => absurd hn0 (by omega)) (fun g cap hv hc hl => ?_)
    subst hv
    rw [← hrs]
    refine go_pubrow kk ((lk_stk kk kk _ _).trans (if_pos rfl)) hkm ?_
    intro G' hle hat
    have := h G' (some ⟨g, 0, none⟩) cap hle hc ⟨by rw [hll]; exact h63, _, _, rfl, .inr ⟨g, 0, olds ++ news, rfl, hat, Rp.L_mono hle (Rp.L_append hL1 hL2)⟩⟩
    rw [hll] at this
    refine SGo.weaken (s' := ⟨putS d (.v (.slice (some ⟨g, 0, none⟩) (l1.length + l2.length) cap)) s.sl, s.own, G', s.df⟩) rfl rfl (fun _ _ e => .inl e) (fun i q e => ?_) this
    simp only [lk_rmk, lk_stk] at e ⊢
    by_cases hi : i = kk
    · rw [hi, hkn] at e; cases e
    · simp only [hi, if_false]; exact e
  obtain ⟨i, z0, hi, hs0, hb0, hz0, hc0⟩ := (C.tyok _ _ he).info
  have hzs : z0.cells.size = te.size := by rw [hc0]; simpa using (C.tyok _ _ he).len
  -- the rest is a new row
  have hrow : ∀ (b : Addr) (olds : List Value), ad = some b → olds.length = l1.length * te.size → r.L s.G l1 olds → (∀ w, Mem C s.own s.G w → ∀ j u, olds[j]? = some u → w.cell? (b.add j) = some u) → SGo C (.ops R (⟨d, .call ⟨.builtin .append, #[x, y], #[T, T]⟩, t, pos, aft, none⟩ :: l) :: K) s := by
    intro b olds hb hlo hL1 hcell a w hS
    have hxv := ev_ok hS.sl hx
    have hyv := ev_ok hS.sl hy
    rw [hvx, hb] at hxv
    obtain ⟨a2, c2, hz, hcell2⟩ := hsrc w hS.mem
    rw [hz] at hyv
    obtain ⟨v', w', hr, k1, k2⟩ := run_append_arg_grows (P := C.P) w T t e i z0 te.size te.bytes g1 hi hz0 hs0 hb0 hzs hsz b l1.length l1.length olds hlo (hcell w hS.mem) a2 l2.length c2 news hnl hcell2 (by omega) (by simp only [maxLen]; omega) hbytes
    have hrun : (execOp a.eval ⟨d, .call ⟨.builtin .append, #[x, y], #[T, T]⟩, t, pos, aft, none⟩).run C.P w = .ok (.value v') w' := by
      simp only [execOp, resolve, invoke, builtin, Sem.run_bind, Sem.run_pure, Result.andThen_ok, List.map_toArray, List.map_cons, List.map_nil, hxv, hyv, hr]
    have hm' : Mem C (stk kk (0, .row v' e te.size (l1.length + l2.length) (olds ++ news)) s.own) s.G w' :=
      hS.mem.new hkn hkm k2.os k2.tape k2.output k2.size (fun j hj => k2.block j hj (by simp))
        ⟨k1.1, k1.2.imp id fun ⟨g, cap, cur, q1, _, q3⟩ => ⟨g, cap, cur, q1, Nat.zero_le _, q3⟩⟩ (fun g hg => (k1.lt g hg).1)
    refine K_value rfl hrun ?_
    have := hfin olds v' hL1 _ _ (hS.put hd (.v v') hm')
    simpa only [SV.den] using this
  obtain ⟨_, ad0, cap0, heq, hcase⟩ := hS1
  cases heq
  rcases hcase with h1 | ⟨b, off, cs, rfl, hat, hL1⟩
  · subst h1
    cases had : ad with
    | some b => exact hrow b [] had (by simp) (by simp [Rp.L]) (by simp)
    | none =>
      subst had
      refine go_nilrow kk e te.size hkn hkm ?_
      refine go_append kk (v := .slice none 0 0) hd hT he hsz hx (by simpa using hvx) ((lk_stk kk kk _ _).trans (if_pos rfl)) hkm hy (m := l2.length) (news := news) ?_ hnl hn1 (by simpa using h63) (by simpa using hbytes) ?_
      · intro w hm
        have ho : ∀ j q, lk j s.own = some q → lk j (stk kk (0, OO.row (.slice none 0 0) e te.size 0 []) s.own) = some q := by
          intro j q e
          rw [lk_stk]
          by_cases hi : j = kk
          · rw [hi, hkn] at e; cases e
          · rw [if_neg hi]; exact e
        exact hsrc w ⟨fun h b o e => hm.own h b o (ho _ _ e), fun h h' b b' o o' g e e' => hm.inj h h' b b' o o' g (ho _ _ e) (ho _ _ e'), hm.grow⟩
      intro v'
      have := hfin [] v' (by simp [Rp.L])
      simp only [List.length_nil] at this
      refine SGo.weaken (s' := ⟨putS d (.v v') s.sl, stk kk (0, .row v' e te.size (0 + l2.length) ([] ++ news)) s.own, s.G, s.df⟩) rfl rfl (fun _ _ e => .inl e) (fun i q e => ?_) this
      simp only [lk_stk] at e ⊢
      split at e
      · rename_i e'; subst e'; simpa using e
      · rename_i e'; simp only [e', if_false]; exact e
  · refine hrow _ cs rfl (by rw [← hrs]; exact Rp.L_len hL1) hL1 ?_
    intro w hm j u hj
    obtain ⟨arr, e0, fz, hGb, hle, hget⟩ := hat
    have hwb := hm.has _ _ hGb
    rw [add_none, cell_at hwb]
    rw [hget j (List.getElem?_eq_some_iff.1 hj).1]; exact hj
theorem quiet_slice4 {sl : List (Nat × SV)} {own : Owns} {G : Hp} {T e : TypeId} {x lo hi mx : Operand} {te : TI} {sz by' : Nat} {ze : List Value} {fl : List (Nat × Nat × Bool)} {ad : Option Addr} {len cap : Nat} {k k' k'' : IntKind} {n m : Int} {y : SV}
    (hT : C.ty T = some ⟨.slice e, sz, by', ze, fl⟩) (he : C.ty e = some te) (hx : ev sl x = some y) (hy : y.den = .slice ad len cap) (hi0 : ev sl lo = some (.v (.int k'' n))) (hi1 : ev sl hi = some (.v (.int k m))) (hi2 : ev sl mx = some (.v (.int k' m))) (h0 : 0 ≤ n) (h1 : n ≤ m) (h2 : m ≤ (cap : Int)) :
    Quiet C sl own G (.slice T x (some lo) (some hi) (some mx)) (sliced ad m.toNat n.toNat m.toNat te.size) := by
  intro a w d t pos aft g hs hh
  have hxv := ev_ok hs hx
  have hiv0 := ev_ok hs hi0
  have hiv1 := ev_ok hs hi1
  have hiv2 := ev_ok hs hi2
  rw [hy] at hxv
  simp only [SV.den] at hiv0 hiv1 hiv2
  have g1 := (C.tyok _ _ hT).k
  simp only [TK.fits] at g1
  simp only [execOp, hxv, hiv0, hiv1, hiv2, Option.map_some, Option.map_none, Instr.sliceAt, Instr.slice, Instr.sliceBounds, Sem.run_bind, run_und w g1, Result.andThen_ok, Sem.run_pure, sliceBound_ok (y := cap) (Int.le_trans h0 h1) h2, sliceBound_ok (y := m.toNat) (Int.le_trans h0 h1) (show m ≤ (m.toNat : Int) by omega), sliceBound_ok (y := m.toNat) h0 (show n ≤ (m.toNat : Int) by omega), run_size w (C.tyok _ _ he), sliced]
end
end Go.Sx
namespace Go.Proofs.YthocgjchmpkhoaaDoor
set_option linter.unusedSimpArgs false
set_option linter.unusedVariables false
open Go.Sx
set_option maxHeartbeats 8000000
set_option maxRecDepth 20000
def wrongV : Value := .iface 94 (.agg #[])
def fzO (b : Nat) (st : Int) (sl sb sc : Value) : Lds := [(b, .c 74 [.v (.int .i64 st), .v sl, .v sb, .v sc])]
def bdsL : List Value := [.int .i64 32, .int .i64 32, .int .i64 32]
theorem repl_ok (f : Fc) (b : Nat) (sl sb sc : Value) (l : List It) (sp : Value) (G : Hp) (hB : At G 0 0 bdsL) (hL0 : rT.S G f.l sl) (hcp : CapOk sl) (hb : rB.S G f.b sb) (hl : rT.S G l sp) (hcl : CapOk sp) (h1 : 1 ≤ f.l.length) (hw : ∀ x ∈ f.l, x.w.length ≤ 32 ∧ x.c.length ≤ 32) (hb1 : f.l.length ≤ 1000) (hb2 : f.b.length ≤ 1000) (hb3 : l.length ≤ 1000) :
    PureWQ Tryd.prog 47 [.pointer (some ⟨b, 0, none⟩), sp] G (fzO b f.st sl sb sc)
      (fun _ G' ow => ∃ sl', CapOk sl' ∧ rT.S G' (putsF f l).l sl' ∧ (putsF f l).b = f.b ∧ (putsF f l).c = f.c ∧ ow = fzO b (putsF f l).st sl' sb sc)
      (fun v _ ow => v = wrongV ∧ putsF f l = wrF ∧ ow = fzO b f.st sl sb sc) := by
  obtain ⟨al, cl, rfl⟩ := Rp.S_slice hL0
  obtain ⟨ab, cb, rfl⟩ := Rp.S_slice hb
  obtain ⟨ap, cp, rfl⟩ := Rp.S_slice hl
  have hcap := hcp _ _ _ rfl
  have hlo := Rp.S_lo hL0 (a := 1) (by omega) hcap
  refine enterWQ ty tyok Tryd.func47 rfl Tryd.ntmps47 [.p 0 b 0, .v (.slice ap l.length cp)] (by simp) (mh := 1) rfl ?_
  intro C hP hQ hnt hty hmb hmh hro hG0 hmub; have hQp := qp_body hQ; refine st_ ?_
  simp only [enumO, fzO]
  refine rn_ ?_; intros
  obtain ⟨ar, cr, er⟩ := Rp.S_slice hlo
  have hdl : (f.l.drop 1).length ≤ 1000 := by rw [List.length_drop]; omega
  refine go_q (v := .slice ar (f.l.drop 1).length cr) (by rw [hnt]; rfl) ((quiet_sliceLo (k := .i64) (n := 1) (by rw [hty]; rfl) (by rw [hty]; rfl) rfl rfl rfl (by omega) (by omega)).cast er) ?_
  rw [er] at hlo
  have hB0 : At G 0 0 [.int .i64 32] := by simpa [bdsL] using hB.sub 0 1 (by simp [bdsL])
  have hB1 : At G 0 1 [.int .i64 32] := by simpa [bdsL] using hB.sub 1 1 (by simp [bdsL])
  have hB2 : At G 0 2 [.int .i64 32] := by simpa [bdsL] using hB.sub 2 1 (by simp [bdsL])
  refine rn_ ?_; intros
  refine x_draw rfl (by rw [hP]; kernel_rfl) rfl (by kernel_rfl) ?_
  refine runq 400 hty hnt ?_; refine st_ ?_
  refine q_q (v := .pointer (some ⟨0, 0, none⟩)) (by rw [hnt]; rfl) ((quiet_indexA (by rw [hty]; rfl) (by rw [hty]; rfl) rfl rfl rfl (by omega) (by omega)).cast (by simp)) ?_
  refine runq 400 hty hnt ?_; refine st_ ?_
  refine q_q (v := .int .i64 32) (by rw [hnt]; rfl) ((quiet_load (vs := [.int .i64 32]) (by rw [hty]; rfl) rfl (by simp [TK.agg]) hB0 rfl).cast (by rfl)) ?_
  refine runq 400 hty hnt ?_; refine st_ ?_
  refine q_end ?_; refine rn_ ?_; intros
  rw [wr (n := (f.b.length : Int) + l.length) (by omega) (by omega), wr (n := (f.b.length : Int) + l.length + (f.l.drop 1).length) (by omega) (by omega)]
  have hlen : (l ++ f.l.drop 1).length = l.length + (f.l.drop 1).length := List.length_append
  by_cases hbig : 32 < (l ++ f.l.drop 1).length + f.b.length
  · (refine x_split rfl rfl rfl (fun _ => ?_) (fun hc => absurd hc (by rw [Bool.not_eq_false]; exact decide_eq_true (by omega))); refine st_ ?_; (refine ru_ ?_; intros))
    refine rn_ ?_; intros
    refine go_panic rfl rfl rfl ?_
    refine x_panWQ hQ hmb hmh hG0 hmub rfl rfl rfl (by simp only [enumO]; exact (by repeat (first | exact plain_nil | refine plain_cons (fun _ h => h) ?_))) ?_
    exact ⟨rfl, putsF_wr (.inl hbig), rfl⟩
  (refine x_split rfl rfl rfl (fun hc => absurd hc (by rw [Bool.not_eq_true]; exact decide_eq_false (by omega))) (fun _ => ?_); refine st_ ?_; (refine ru_ ?_; intros))
  refine rn_ ?_; intros
  refine go_keep [0, 1, 4, 28, 29, 30] [0] ?_
  refine st_ ?_
  refine x_loop rfl (fun q st => ∃ (k : Nat), k ≤ l.length ∧ q = l.length - k ∧ (l.take k).any lngI = false ∧
    st = ⟨[(0, .p 0 b 0), (1, .v (.slice ap l.length cp)), (4, .v (.slice ar (f.l.drop 1).length cr)), (28, .v (.slice ap l.length cp)), (29, .v (.int .i64 l.length)), (30, .v (.int .i64 k))],
      [(0, b, .c 74 [.v (.int .i64 f.st), .v (.slice al f.l.length cl), .v (.slice ab f.b.length cb), .v sc])], G, []⟩) ⟨0, by omega, rfl, rfl, rfl⟩ ?_
  rintro q st ⟨k, hk, hq, hany, rfl⟩ ih
  refine rn_ ?_; intros
  refine x_if rfl rfl rfl rfl (fun hkl => ?_) (fun hkl => ?_)
  · have hlt : k < l.length := by simp at hkl; omega
    obtain ⟨c1, o1, s1, s2, s3, rfl, hat, hrx⟩ := rT_at hl hlt
    obtain ⟨x1, p1, rfl⟩ := VT.repC_slice hrx.v
    have lw := Rp.S_len hrx.w
    have lc := Rp.S_len hrx.c
    obtain ⟨x2, p2, rfl⟩ := Rp.S_slice hrx.w
    obtain ⟨x3, p3, rfl⟩ := Rp.S_slice hrx.c
    refine rn_ ?_; intros
    refine go_q (by rw [hnt]; rfl) (quiet_index (by rw [hty]; rfl) (by rw [hty]; rfl) rfl rfl rfl (by omega) (by omega)) ?_
    refine rn_ ?_; intros
    refine go_q (v := .agg (itL l[k] (.slice x1 l[k].v.l.length p1) (.slice x2 l[k].w.length p2) (.slice x3 l[k].c.length p3)).toArray) (by rw [hnt]; rfl) ((quiet_load (by rw [hty]; rfl) rfl (fun q => by cases q) (by simpa only [Int.toNat_natCast] using hat) rfl).cast (by simp only [ldV]; rfl)) ?_
    simp only [itL]
    refine rn_ ?_; intros
    refine go_q (v := .pointer (some ⟨0, 1, none⟩)) (by rw [hnt]; rfl) ((quiet_indexA (by rw [hty]; rfl) (by rw [hty]; rfl) rfl rfl rfl (by omega) (by omega)).cast (by simp)) ?_
    refine rn_ ?_; intros
    refine go_q (v := .int .i64 32) (by rw [hnt]; rfl) ((quiet_load (vs := [.int .i64 32]) (by rw [hty]; rfl) rfl (by simp [TK.agg]) hB1 rfl).cast (by rfl)) ?_
    refine rn_ ?_; intros
    by_cases hw1 : 32 < l[k].w.length
    · (refine go_gsplit rfl rfl (fun _ => ?_) (fun hc => absurd hc (by rw [Bool.not_eq_false]; exact decide_eq_true (by omega))); refine st_ ?_; (refine rn_ ?_; intros))
      repeat (refine go_gundef rfl (by rw [hnt]; rfl) rfl ?_; (refine st_ ?_; (refine rn_ ?_; intros)))
      (try ((refine x_split rfl rfl rfl (fun _ => ?_) (fun hc => absurd hc (by first | decide +kernel | (simp; first | done | fail))); refine st_ ?_; (refine ru_ ?_; intros))))
      refine rn_ ?_; intros
      refine go_panic rfl rfl rfl ?_
      refine x_panWQ hQ hmb hmh hG0 hmub rfl rfl rfl (by simp only [enumO]; exact (by repeat (first | exact plain_nil | refine plain_cons (fun _ h => h) ?_))) ?_
      exact ⟨rfl, putsF_wr (.inr (List.any_eq_true.2 ⟨l[k], List.mem_append_left _ (List.getElem_mem _), by simp [lngI, hw1]⟩)), rfl⟩
    (refine go_gsplit rfl rfl (fun hc => absurd hc (by rw [Bool.not_eq_true]; exact decide_eq_false (by omega))) (fun _ => ?_); refine st_ ?_; (refine rn_ ?_; intros))
    refine go_q (v := .pointer (some ⟨0, 2, none⟩)) (by rw [hnt]; rfl) ((quiet_indexA (by rw [hty]; rfl) (by rw [hty]; rfl) rfl rfl rfl (by omega) (by omega)).cast (by simp)) ?_
    refine rn_ ?_; intros
    refine go_q (v := .int .i64 32) (by rw [hnt]; rfl) ((quiet_load (vs := [.int .i64 32]) (by rw [hty]; rfl) rfl (by simp [TK.agg]) hB2 rfl).cast (by rfl)) ?_
    refine rn_ ?_; intros
    by_cases hc1 : 32 < l[k].c.length
    · (refine x_split rfl rfl rfl (fun _ => ?_) (fun hc => absurd hc (by rw [Bool.not_eq_false]; exact decide_eq_true (by omega))); refine st_ ?_; (refine ru_ ?_; intros))
      refine rn_ ?_; intros
      refine go_panic rfl rfl rfl ?_
      refine x_panWQ hQ hmb hmh hG0 hmub rfl rfl rfl (by simp only [enumO]; exact (by repeat (first | exact plain_nil | refine plain_cons (fun _ h => h) ?_))) ?_
      exact ⟨rfl, putsF_wr (.inr (List.any_eq_true.2 ⟨l[k], List.mem_append_left _ (List.getElem_mem _), by simp [lngI, hc1]⟩)), rfl⟩
    (refine x_split rfl rfl rfl (fun hc => absurd hc (by rw [Bool.not_eq_true]; exact decide_eq_false (by omega))) (fun _ => ?_); refine st_ ?_; (refine ru_ ?_; intros))
    refine rn_ ?_; intros
    rw [wr (n := (k : Int) + 1) (by omega) (by omega)]
    refine go_keep [0, 1, 4, 28, 29, 30] [0] ?_
    refine st_ ?_
    exact ih (l.length - (k + 1)) _ (by omega) ⟨k + 1, by omega, rfl, by rw [← List.take_append_getElem hlt, List.any_append, hany]; simp [lngI]; omega, rfl⟩
  have hge : k = l.length := by simp at hkl; omega
  rw [hge, List.take_length] at hany
  clear ih hkl hq hk
  obtain ⟨cs2, hcs2, hsrc2⟩ := Rp.srcS hlo
  have hl9 : rT.S G l (.slice ap l.length l.length) := by
    obtain ⟨q1, ad, c, q2, q3⟩ := hl
    cases q2
    exact ⟨q1, _, _, rfl, q3⟩
  have hany2 : (l ++ f.l.drop 1).any lngI = false := by
    rw [List.any_append, hany, Bool.false_or, List.any_eq_false]
    intro x hx
    have := hw x (List.mem_of_mem_drop hx)
    simp [lngI]; omega
  have hpo := putsF_ok (f := f) (l := l) hbig hany2
  have hpcap := hcl _ _ _ rfl
  refine rn_ ?_; intros
  refine go_q (v := .slice ap l.length l.length) (by rw [hnt]; rfl) ((quiet_slice3 (by rw [hty]; rfl) (by rw [hty]; rfl) rfl rfl rfl rfl (by omega) (by omega)).cast (by
    have e2 : ap.map (fun x => x.add 0) = ap := by cases ap <;> simp [Addr.add]
    simp only [Sx.sliced, Int.toNat_natCast, Nat.sub_zero, Nat.zero_mul, e2, ite_self])) ?_
  refine rn_ ?_; intros
  refine go_appendS rT (l1 := l) (l2 := f.l.drop 1) (by rw [hnt]; rfl) (by rw [hty]; rfl) (by rw [hty]; rfl) (by decide) rfl rfl rfl rfl hl9 rfl (hsrc2.imp id fun f => f _ _ rfl) rfl hcs2 (by omega) (by simp only []; omega) ?_
  intro G2 ad2 cap2 (hle2 : Le G G2) hcap2 hS2
  refine rn_ ?_; intros
  have hcp2 : CapOk (.slice ad2 (l ++ f.l.drop 1).length cap2) := fun ad n c h => by cases h; omega
  by_cases hz : (l ++ f.l.drop 1).length = 0
  · (refine x_split rfl rfl rfl (fun _ => ?_) (fun hc => absurd hc (by rw [Bool.not_eq_false, beq_iff_eq]; omega)); refine st_ ?_; (refine ru_ ?_; intros))
    refine rn_ ?_; intros
    refine x_endWQ hQ hmb hmh hG0 hmub rfl rfl rfl rfl (by simp only [enumO]; exact (by repeat (first | exact plain_nil | refine plain_cons (fun _ h => h) ?_))) ?_
    intro _
    rw [hpo, if_pos hz]
    exact ⟨_, hcp2, hS2, rfl, rfl, rfl⟩
  · (refine x_split rfl rfl rfl (fun hc => absurd hc (by rw [Bool.not_eq_true, beq_eq_false_iff_ne]; omega)) (fun _ => ?_); refine st_ ?_; (refine ru_ ?_; intros))
    refine rn_ ?_; intros
    refine x_endWQ hQ hmb hmh hG0 hmub rfl rfl rfl rfl (by simp only [enumO]; exact (by repeat (first | exact plain_nil | refine plain_cons (fun _ h => h) ?_))) ?_
    intro _
    rw [hpo, if_neg hz]
    exact ⟨_, hcp2, hS2, rfl, rfl, rfl⟩
end Go.Proofs.YthocgjchmpkhoaaDoor
namespace Go.Proofs.YthocgjchmpkhoaaDoor
set_option linter.unusedSimpArgs false
set_option linter.unusedVariables false
open Go.Sx
set_option maxHeartbeats 8000000
set_option maxRecDepth 20000
def FzR (G : Hp) (f : Fc) (b : Nat) (ow : Lds) : Prop := ∃ sl sb sc, CapOk sl ∧ CapOk sb ∧ CapOk sc ∧ rT.S G f.l sl ∧ rB.S G f.b sb ∧ rI.S G f.c sc ∧ ow = fzO b f.st sl sb sc
def FzA (b : Nat) (ow : Lds) : Prop := ∃ st sl sb sc, ow = fzO b st sl sb sc
def FzRet (f : Fc) (b : Nat) (_ : Value) (G : Hp) (ow : Lds) : Prop := FzR G f b ow
def FzPan (f : Fc) (b : Nat) (v : Value) (_ : Hp) (ow : Lds) : Prop := v = wrongV ∧ f = wrF ∧ FzA b ow
structure ArmH (f : Fc) (x : It) (r : List It) (G : Hp) (sl sb sc s1 s2 s3 : Value) : Prop where
  B : At G 0 0 bdsL
  st : f.st = 1
  fl : f.l = x :: r
  cl : CapOk sl
  cb : CapOk sb
  cc : CapOk sc
  l : rT.S G f.l sl
  b : rB.S G f.b sb
  c : rI.S G f.c sc
  x : x.rep G s1 s2 s3
  v : ∀ y ∈ f.l, vld y.v = true
  w : ∀ y ∈ f.l, y.w.length ≤ 32 ∧ y.c.length ≤ 32
  bl : f.l.length ≤ 100
  bb : f.b.length ≤ 100
theorem guard_ok (f : Fc) (x : It) (r : List It) (G : Hp) (b : Nat) (sl sb sc s1 s2 s3 : Value) (h : ArmH f x r G sl sb sc s1 s2 s3) (hk : x.v.k = 11) :
    PureWQ Tryd.prog 68 [.pointer (some ⟨b, 0, none⟩), .agg (itL x s1 s2 s3).toArray] G (fzO b f.st sl sb sc) (FzRet (stepF f).1 b) (FzPan (stepF f).1 b) := by
  have hs : stepF f = ({ f with st := 2, cl := ⟨x.v.n, x.v.l⟩ }, 0) := by
    rw [stepF, if_neg (by simp [h.st]), show f.l.head? = some x by rw [h.fl]; rfl]
    simp [isB, hk]
  refine enterWQ ty tyok Tryd.func68 rfl Tryd.ntmps68 [.p 0 b 0, .a (itC x s1 s2 s3)] (by simp) (mh := 1) rfl ?_
  obtain ⟨a1, q1, rfl⟩ := VT.repC_slice h.x.v
  obtain ⟨a2, q2, rfl⟩ := Rp.S_slice h.x.w
  obtain ⟨a3, q3, rfl⟩ := Rp.S_slice h.x.c
  simp only [itC]
  intro C hP hQ hnt hty hmb hmh hro hG0 hmub; have hQp := qp_body hQ; refine st_ ?_
  simp only [enumO, fzO]
  refine rn_ ?_; intros
  refine x_endWQ hQ hmb hmh hG0 hmub rfl rfl rfl rfl (by simp only [enumO]; exact (by repeat (first | exact plain_nil | refine plain_cons (fun _ h => h) ?_))) ?_
  intro _
  rw [hs]
  exact ⟨_, _, _, h.cl, h.cb, h.cc, h.l, h.b, h.c, rfl⟩
theorem nack_ok (f : Fc) (x : It) (r : List It) (G : Hp) (b : Nat) (sl sb sc s1 s2 s3 : Value) (h : ArmH f x r G sl sb sc s1 s2 s3) (hk : x.v.k = 12) :
    PureWQ Tryd.prog 69 [.pointer (some ⟨b, 0, none⟩), .agg (itL x s1 s2 s3).toArray] G (fzO b f.st sl sb sc) (FzRet (stepF f).1 b) (FzPan (stepF f).1 b) := by
  have hs : stepF f = ({ f with st := 3 }, 0) := by
    rw [stepF, if_neg (by simp [h.st]), show f.l.head? = some x by rw [h.fl]; rfl]
    simp [isB, hk]
  refine enterWQ ty tyok Tryd.func69 rfl Tryd.ntmps69 [.p 0 b 0, .a (itC x s1 s2 s3)] (by simp) (mh := 1) rfl ?_
  obtain ⟨a1, q1, rfl⟩ := VT.repC_slice h.x.v
  obtain ⟨a2, q2, rfl⟩ := Rp.S_slice h.x.w
  obtain ⟨a3, q3, rfl⟩ := Rp.S_slice h.x.c
  simp only [itC]
  intro C hP hQ hnt hty hmb hmh hro hG0 hmub; have hQp := qp_body hQ; refine st_ ?_
  simp only [enumO, fzO]
  refine rn_ ?_; intros
  refine x_endWQ hQ hmb hmh hG0 hmub rfl rfl rfl rfl (by simp only [enumO]; exact (by repeat (first | exact plain_nil | refine plain_cons (fun _ h => h) ?_))) ?_
  intro _
  rw [hs]
  exact ⟨_, _, _, h.cl, h.cb, h.cc, h.l, h.b, h.c, rfl⟩
theorem offer_ok (f : Fc) (x : It) (r : List It) (G : Hp) (b : Nat) (sl sb sc s1 s2 s3 : Value) (h : ArmH f x r G sl sb sc s1 s2 s3) (hB : isB x.v.k = true) :
    PureWQ Tryd.prog 65 [.pointer (some ⟨b, 0, none⟩), .agg (itL x s1 s2 s3).toArray] G (fzO b f.st sl sb sc) (FzRet (stepF f).1 b) (FzPan (stepF f).1 b) := by
  have hh : f.l.head? = some x := by rw [h.fl]; rfl
  have hsf : stepF f = (putsF { f with b := f.b ++ [baseF x] } [], 0) := by rw [stepF, if_neg (by simp [h.st]), hh]; exact if_pos hB
  have hvx := h.v x (by rw [h.fl]; simp)
  have hl1 : 1 ≤ f.l.length := by rw [h.fl]; simp
  have hb1 := h.bl
  have hb2 := h.bb
  obtain ⟨ab, cb, rfl⟩ := Rp.S_slice h.b
  obtain ⟨csb, hcsb, hsrcb⟩ := Rp.srcS h.b
  have hx := h.x
  obtain ⟨av, cv', rfl⟩ := VT.repC_slice hx.v
  obtain ⟨aw, cw, rfl⟩ := Rp.S_slice hx.w
  obtain ⟨ac, cc, rfl⟩ := Rp.S_slice hx.c
  obtain ⟨hkk, hkn⟩ := VT.rep_k (VT.repC_rep hx.v)
  have hbt := hx.b
  have h0 : isI64 0 := by simp [isI64]
  have hzt : tsz zV ≤ 1048576 := by simp [zV, tsz, tszL]
  refine enterWQ ty tyok Tryd.func65 rfl Tryd.ntmps65 [.p 0 b 0, .a (itC x (.slice av x.v.l.length cv') (.slice aw x.w.length cw) (.slice ac x.c.length cc))] (by simp) (mh := 1) rfl ?_
  simp only [itC]
  intro C hP hQ hnt hty hmb hmh hro hG0 hmub; have hQp := qp_body hQ; refine st_ ?_
  simp only [enumO, fzO]
  refine rn_ ?_; intros
  rename_i b1 b2
  refine cut_tailK 2 (fun s' => ∃ sv', s' = ⟨[(0, .p 0 b 0), (4, .p 2 b2 0)], [(0, b, .c 74 [.v (.int .i64 f.st), .v sl, .v (.slice ab f.b.length cb), .v sc]), (2, b2, .c 56 (bsC (baseF x) sv' (.slice aw x.w.length cw) (.slice ac x.c.length cc)))], G, []⟩ ∧ (baseF x).rep G sv' (.slice aw x.w.length cw) (.slice ac x.c.length cc)) ?_ ?_
  rotate_left
  · intro Kr key
    simp only [List.take_succ_cons, List.take_zero, List.cons_append, List.nil_append]
    by_cases k5 : x.v.k = 5
    · have hl := vld_k5 hvx k5
      obtain ⟨c0, o0, p0, a0, q0, e0, hat0, hr0⟩ := repC_el hx.v (i := 0) (by omega)
      cases e0
      obtain ⟨c1, o1, p1, a1, q1, e1, hat1, hr1⟩ := repC_el hx.v (i := 1) (by omega)
      cases e1
      have hn0 := (VT.rep_k (VT.repC_rep hr0)).2
      have ht1 := tszL_mem (List.getElem_mem (by omega : 1 < x.v.l.length))
      have htx : tsz x.v = 1 + tszL x.v.l := by obtain ⟨⟨k, n, l⟩, w, c⟩ := x; simp only [tsz, VT.l]
      (refine x_split rfl rfl rfl (fun _ => ?_) (fun hc => absurd hc (by simpa using k5)); refine st_ ?_; (refine ru_ ?_; intros))
      have g0 : x.v.l.getD 0 zV = x.v.l[0] := by rw [List.getD_eq_getElem?_getD, List.getElem?_eq_getElem (by omega)]; rfl
      have g1 : x.v.l.getD 1 zV = x.v.l[1] := by rw [List.getD_eq_getElem?_getD, List.getElem?_eq_getElem (by omega)]; rfl
      have eb : baseF x = ⟨x.v.k, x.v.l[0].n, x.v.l[1], x.w, x.c⟩ := by rw [baseF, if_pos k5, g0, g1]
      rw [eb] at key
      generalize x.v.l[0] = y0 at *
      generalize x.v.l[1] = y1 at *
      refine x_held [(1, b1, .c 79 [.v (.int .i64 x.v.k), .v (.int .i64 x.v.n), .v (.slice (some ⟨c0, o0, none⟩) x.v.l.length cv'), .v (.slice aw x.w.length cw), .v (.slice ac x.c.length cc)])] rfl (by rw [hP]; kernel_rfl) rfl rfl rfl ?_; refine st_ ?_
      refine h_take 0 rfl (by kernel_rfl) (by kernel_rfl) (by kernel_rfl) hQp (by rw [hnt]; rfl) (allIn (by repeat (first | exact trivial | refine ⟨rfl, ?_⟩))) (by first | exact Le.refl _ | assumption) (quiet_op (by rw [hty]; first | rfl | (refine st_ ?_; rfl))) ?_; refine st_ ?_
      refine h_take 1 rfl (by kernel_rfl) (by kernel_rfl) (by kernel_rfl) hQp (by rw [hnt]; rfl) (allIn (by repeat (first | exact trivial | refine ⟨rfl, ?_⟩))) (by first | exact Le.refl _ | assumption) (quiet_op (by rw [hty]; first | rfl | (refine st_ ?_; rfl))) ?_; refine st_ ?_
      refine h_take 2 rfl (by kernel_rfl) (by kernel_rfl) (by kernel_rfl) hQp (by rw [hnt]; rfl) (allIn (by repeat (first | exact trivial | refine ⟨rfl, ?_⟩))) (by first | exact Le.refl _ | assumption) (quiet_op (by rw [hty]; first | rfl | (refine st_ ?_; rfl))) ?_; refine st_ ?_
      refine h_take 3 rfl (by kernel_rfl) (by kernel_rfl) (by kernel_rfl) hQp (by rw [hnt]; rfl) (allIn (by repeat (first | exact trivial | refine ⟨rfl, ?_⟩))) (by first | exact Le.refl _ | assumption) (x := .v (.pointer (some ⟨c0, o0, none⟩))) ((quiet_index (by rw [hty]; rfl) (by rw [hty]; rfl) rfl rfl rfl (by omega) (by omega)).cast (by simp [SV.den])) ?_
      refine st_ ?_
      refine h_take 4 rfl (by kernel_rfl) (by kernel_rfl) (by kernel_rfl) hQp (by rw [hnt]; rfl) (allIn (by repeat (first | exact trivial | refine ⟨rfl, ?_⟩))) (by first | exact Le.refl _ | assumption) (quiet_op (by rw [hty]; first | rfl | (refine st_ ?_; rfl))) ?_; refine st_ ?_
      refine h_take 5 rfl (by kernel_rfl) (by kernel_rfl) (by kernel_rfl) hQp (by rw [hnt]; rfl) (allIn (by repeat (first | exact trivial | refine ⟨rfl, ?_⟩))) (by first | exact Le.refl _ | assumption) (x := .v (.int .i64 y0.n)) ((quiet_load (vs := [.int .i64 y0.n]) (by rw [hty]; rfl) rfl (by simp [TK.agg]) (by simpa using hat0.sub 1 1 (by simp)) rfl).cast (by rfl)) ?_
      refine st_ ?_
      refine h_take 6 rfl (by kernel_rfl) (by kernel_rfl) (by kernel_rfl) hQp (by rw [hnt]; rfl) (allIn (by repeat (first | exact trivial | refine ⟨rfl, ?_⟩))) (by first | exact Le.refl _ | assumption) (quiet_op (by rw [hty]; first | rfl | (refine st_ ?_; rfl))) ?_; refine st_ ?_
      refine h_take 7 rfl (by kernel_rfl) (by kernel_rfl) (by kernel_rfl) hQp (by rw [hnt]; rfl) (allIn (by repeat (first | exact trivial | refine ⟨rfl, ?_⟩))) (by first | exact Le.refl _ | assumption) (quiet_op (by rw [hty]; first | rfl | (refine st_ ?_; rfl))) ?_; refine st_ ?_
      refine h_take 8 rfl (by kernel_rfl) (by kernel_rfl) (by kernel_rfl) hQp (by rw [hnt]; rfl) (allIn (by repeat (first | exact trivial | refine ⟨rfl, ?_⟩))) (by first | exact Le.refl _ | assumption) (quiet_op (by rw [hty]; first | rfl | (refine st_ ?_; rfl))) ?_; refine st_ ?_
      refine h_take 9 rfl (by kernel_rfl) (by kernel_rfl) (by kernel_rfl) hQp (by rw [hnt]; rfl) (allIn (by repeat (first | exact trivial | refine ⟨rfl, ?_⟩))) (by first | exact Le.refl _ | assumption) (x := .v (.pointer (some ⟨c0, o0 + 3, none⟩))) ((quiet_index (by rw [hty]; rfl) (by rw [hty]; rfl) rfl rfl rfl (by omega) (by omega)).cast (by simp [SV.den])) ?_
      refine st_ ?_
      refine h_take 10 rfl (by kernel_rfl) (by kernel_rfl) (by kernel_rfl) hQp (by rw [hnt]; rfl) (allIn (by repeat (first | exact trivial | refine ⟨rfl, ?_⟩))) (by first | exact Le.refl _ | assumption) (x := .a [.v (.int .i64 y1.k), .v (.int .i64 y1.n), .v (.slice a1 y1.l.length q1)]) ((quiet_load (by rw [hty]; rfl) rfl (fun q => by cases q) (by simpa using hat1) rfl).cast (by simp only [ldV, SV.den, dens]; rfl)) ?_
      refine st_ ?_
      refine h_take 11 rfl (by kernel_rfl) (by kernel_rfl) (by kernel_rfl) hQp (by rw [hnt]; rfl) (allIn (by repeat (first | exact trivial | refine ⟨rfl, ?_⟩))) (by first | exact Le.refl _ | assumption) (quiet_op (by rw [hty]; first | rfl | (refine st_ ?_; rfl))) ?_; refine st_ ?_
      refine h_one 12 rfl (by kernel_rfl) ?_
      refine rn_ ?_; intros
      refine h_hs (allIn (by repeat (first | exact trivial | refine ⟨rfl, ?_⟩))) (by first | exact Le.refl _ | assumption) ?_
      refine h_take 13 rfl (by kernel_rfl) (by kernel_rfl) (by kernel_rfl) hQp (by rw [hnt]; rfl) (allIn (by repeat (first | exact trivial | refine ⟨rfl, ?_⟩))) (by first | exact Le.refl _ | assumption) (quiet_op (by rw [hty]; first | rfl | (refine st_ ?_; rfl))) ?_; refine st_ ?_
      refine h_one 14 rfl (by kernel_rfl) ?_
      refine rn_ ?_; intros
      refine h_hs (allIn (by repeat (first | exact trivial | refine ⟨rfl, ?_⟩))) (by first | exact Le.refl _ | assumption) ?_
      refine h_end (by kernel_rfl) ?_
      refine rn_ ?_; intros
      refine go_keep [0, 4] [0, 2] ?_
      refine st_ ?_
      exact key _ ⟨_, rfl, ⟨hkk, hn0, hr1, by show tsz y1 ≤ _; omega, hx.w, hx.c⟩⟩
    (refine x_split rfl rfl rfl (fun hc => absurd hc (by simpa using k5)) (fun _ => ?_); refine st_ ?_; (refine ru_ ?_; intros))
    refine rn_ ?_; intros
    by_cases k6 : x.v.k = 6
    · have hl := vld_k67 hvx (.inl k6)
      obtain ⟨c0, o0, p0, a0, q0, e0, hat0, hr0⟩ := repC_el hx.v (i := 0) (by omega)
      cases e0
      have hn0 := (VT.rep_k (VT.repC_rep hr0)).2
      have g0 : x.v.l.getD 0 zV = x.v.l[0] := by rw [List.getD_eq_getElem?_getD, List.getElem?_eq_getElem (by omega)]; rfl
      have eb : baseF x = ⟨x.v.k, x.v.l[0].n, zV, x.w, x.c⟩ := by rw [baseF, if_neg k5, if_pos k6, g0]
      rw [eb] at key
      generalize x.v.l[0] = y0 at *
      (refine x_split rfl rfl rfl (fun _ => ?_) (fun hc => absurd hc (by simpa using k6)); refine st_ ?_; (refine ru_ ?_; intros))
      refine rn_ ?_; intros
      refine go_q (v := .pointer (some ⟨c0, o0, none⟩)) (by rw [hnt]; rfl) ((quiet_index (by rw [hty]; rfl) (by rw [hty]; rfl) rfl rfl rfl (by omega) (by omega)).cast (by simp [SV.den])) ?_
      refine rn_ ?_; intros
      refine go_q (v := .int .i64 y0.n) (by rw [hnt]; rfl) ((quiet_load (vs := [.int .i64 y0.n]) (by rw [hty]; rfl) rfl (by simp [TK.agg]) (by simpa using hat0.sub 1 1 (by simp)) rfl).cast (by rfl)) ?_
      refine rn_ ?_; intros
      refine go_keep [0, 4] [0, 2] ?_
      refine st_ ?_
      exact key _ ⟨_, rfl, ⟨hkk, hn0, zV_rep _, hzt, hx.w, hx.c⟩⟩
    (refine x_split rfl rfl rfl (fun hc => absurd hc (by simpa using k6)) (fun _ => ?_); refine st_ ?_; (refine ru_ ?_; intros))
    refine rn_ ?_; intros
    by_cases k7 : x.v.k = 7
    · have hl := vld_k67 hvx (.inr k7)
      obtain ⟨c0, o0, p0, a0, q0, e0, hat0, hr0⟩ := repC_el hx.v (i := 0) (by omega)
      cases e0
      have ht0 := tszL_mem (List.getElem_mem (by omega : 0 < x.v.l.length))
      have htx : tsz x.v = 1 + tszL x.v.l := by obtain ⟨⟨k, n, l⟩, w, c⟩ := x; simp only [tsz, VT.l]
      have g0 : x.v.l.getD 0 zV = x.v.l[0] := by rw [List.getD_eq_getElem?_getD, List.getElem?_eq_getElem (by omega)]; rfl
      have eb : baseF x = ⟨x.v.k, 0, x.v.l[0], x.w, x.c⟩ := by rw [baseF, if_neg k5, if_neg k6, if_pos k7, g0]
      rw [eb] at key
      generalize x.v.l[0] = y0 at *
      (refine x_split rfl rfl rfl (fun _ => ?_) (fun hc => absurd hc (by simpa using k7)); refine st_ ?_; (refine ru_ ?_; intros))
      refine rn_ ?_; intros
      refine go_q (v := .pointer (some ⟨c0, o0, none⟩)) (by rw [hnt]; rfl) ((quiet_index (by rw [hty]; rfl) (by rw [hty]; rfl) rfl rfl rfl (by omega) (by omega)).cast (by simp [SV.den])) ?_
      refine rn_ ?_; intros
      refine go_q (v := .agg #[.int .i64 y0.k, .int .i64 y0.n, .slice a0 y0.l.length q0]) (by rw [hnt]; rfl) ((quiet_load (by rw [hty]; rfl) rfl (fun q => by cases q) (by simpa using hat0) rfl).cast (by simp only [ldV]; rfl)) ?_
      refine rn_ ?_; intros
      refine go_keep [0, 4] [0, 2] ?_
      refine st_ ?_
      exact key _ ⟨_, rfl, ⟨hkk, h0, hr0, by show tsz y0 ≤ _; omega, hx.w, hx.c⟩⟩
    (refine x_split rfl rfl rfl (fun hc => absurd hc (by simpa using k7)) (fun _ => ?_); refine st_ ?_; (refine ru_ ?_; intros))
    refine rn_ ?_; intros
    by_cases k13 : x.v.k = 13
    · have eb : baseF x = ⟨x.v.k, x.v.n, zV, x.w, x.c⟩ := by rw [baseF, if_neg k5, if_neg k6, if_neg k7, if_pos k13]
      rw [eb] at key
      (refine x_split rfl rfl rfl (fun _ => ?_) (fun hc => absurd hc (by simpa using k13)); refine st_ ?_; (refine ru_ ?_; intros))
      refine rn_ ?_; intros
      refine go_keep [0, 4] [0, 2] ?_
      refine st_ ?_
      exact key _ ⟨_, rfl, ⟨hkk, hkn, zV_rep _, hzt, hx.w, hx.c⟩⟩
    have eb : baseF x = ⟨x.v.k, 0, zV, x.w, x.c⟩ := by rw [baseF, if_neg k5, if_neg k6, if_neg k7, if_neg k13]
    rw [eb] at key
    (refine x_split rfl rfl rfl (fun hc => absurd hc (by simpa using k13)) (fun _ => ?_); refine st_ ?_; (refine ru_ ?_; intros))
    refine rn_ ?_; intros
    refine go_keep [0, 4] [0, 2] ?_
    refine st_ ?_
    exact key _ ⟨_, rfl, ⟨hkk, h0, zV_rep _, hzt, hx.w, hx.c⟩⟩
  rintro s' ⟨sv', rfl, hrb⟩
  obtain ⟨y4, z4, rfl⟩ := VT.repC_slice hrb.v
  generalize baseF x = bb at *
  simp only [List.drop_succ_cons, List.drop_zero, bsC]
  refine rn_ ?_; intros
  have hcpb := h.cb _ _ _ rfl
  have hSb : rB.S G f.b (.slice ab f.b.length f.b.length) := by
    obtain ⟨q1, ad, c, q2, q3⟩ := h.b
    cases q2
    exact ⟨q1, _, _, rfl, q3⟩
  refine x_heldP [(0, b, .c 74 [.v (.int .i64 f.st), .v sl, .v (.slice ab f.b.length cb), .v sc]), (2, b2, .c 56 [.v (.int .i64 bb.k), .v (.int .i64 bb.n), .v (.int .i64 bb.v.k), .v (.int .i64 bb.v.n), .v (.slice y4 bb.v.l.length z4), .v (.slice aw x.w.length cw), .v (.slice ac x.c.length cc)])] 21 rfl (by rw [hP]; kernel_rfl) rfl rfl rfl ?_; refine st_ ?_
  refine hu_take 0 rfl (by kernel_rfl) (by kernel_rfl) (by kernel_rfl) (by kernel_rfl) rfl (fun c a w v => hQp c a w _ v) (by rw [hnt]; rfl) (allIn (by repeat (first | exact trivial | refine ⟨rfl, ?_⟩))) (by first | exact Le.refl _ | assumption) (quiet_op (by rw [hty]; first | rfl | (refine st_ ?_; rfl))) ?_; refine st_ ?_
  refine hu_take 1 rfl (by kernel_rfl) (by kernel_rfl) (by kernel_rfl) (by kernel_rfl) rfl (fun c a w v => hQp c a w _ v) (by rw [hnt]; rfl) (allIn (by repeat (first | exact trivial | refine ⟨rfl, ?_⟩))) (by first | exact Le.refl _ | assumption) (quiet_op (by rw [hty]; first | rfl | (refine st_ ?_; rfl))) ?_; refine st_ ?_
  refine hu_take 2 rfl (by kernel_rfl) (by kernel_rfl) (by kernel_rfl) (by kernel_rfl) rfl (fun c a w v => hQp c a w _ v) (by rw [hnt]; rfl) (allIn (by repeat (first | exact trivial | refine ⟨rfl, ?_⟩))) (by first | exact Le.refl _ | assumption) (quiet_op (by rw [hty]; first | rfl | (refine st_ ?_; rfl))) ?_; refine st_ ?_
  refine hu_take 3 rfl (by kernel_rfl) (by kernel_rfl) (by kernel_rfl) (by kernel_rfl) rfl (fun c a w v => hQp c a w _ v) (by rw [hnt]; rfl) (allIn (by repeat (first | exact trivial | refine ⟨rfl, ?_⟩))) (by first | exact Le.refl _ | assumption) (quiet_op (by rw [hty]; first | rfl | (refine st_ ?_; rfl))) ?_; refine st_ ?_
  refine hu_take 4 rfl (by kernel_rfl) (by kernel_rfl) (by kernel_rfl) (by kernel_rfl) rfl (fun c a w v => hQp c a w _ v) (by rw [hnt]; rfl) (allIn (by repeat (first | exact trivial | refine ⟨rfl, ?_⟩))) (by first | exact Le.refl _ | assumption) (quiet_op (by rw [hty]; first | rfl | (refine st_ ?_; rfl))) ?_; refine st_ ?_
  refine hu_take 5 rfl (by kernel_rfl) (by kernel_rfl) (by kernel_rfl) (by kernel_rfl) rfl (fun c a w v => hQp c a w _ v) (by rw [hnt]; rfl) (allIn (by repeat (first | exact trivial | refine ⟨rfl, ?_⟩))) (by first | exact Le.refl _ | assumption) (quiet_op (by rw [hty]; first | rfl | (refine st_ ?_; rfl))) ?_; refine st_ ?_
  refine hu_take 6 rfl (by kernel_rfl) (by kernel_rfl) (by kernel_rfl) (by kernel_rfl) rfl (fun c a w v => hQp c a w _ v) (by rw [hnt]; rfl) (allIn (by repeat (first | exact trivial | refine ⟨rfl, ?_⟩))) (by first | exact Le.refl _ | assumption) (quiet_op (by rw [hty]; first | rfl | (refine st_ ?_; rfl))) ?_; refine st_ ?_
  refine hu_take 7 rfl (by kernel_rfl) (by kernel_rfl) (by kernel_rfl) (by kernel_rfl) rfl (fun c a w v => hQp c a w _ v) (by rw [hnt]; rfl) (allIn (by repeat (first | exact trivial | refine ⟨rfl, ?_⟩))) (by first | exact Le.refl _ | assumption) (quiet_op (by rw [hty]; first | rfl | (refine st_ ?_; rfl))) ?_; refine st_ ?_
  refine hu_take 8 rfl (by kernel_rfl) (by kernel_rfl) (by kernel_rfl) (by kernel_rfl) rfl (fun c a w v => hQp c a w _ v) (by rw [hnt]; rfl) (allIn (by repeat (first | exact trivial | refine ⟨rfl, ?_⟩))) (by first | exact Le.refl _ | assumption) (quiet_op (by rw [hty]; first | rfl | (refine st_ ?_; rfl))) ?_; refine st_ ?_
  refine hu_take 9 rfl (by kernel_rfl) (by kernel_rfl) (by kernel_rfl) (by kernel_rfl) rfl (fun c a w v => hQp c a w _ v) (by rw [hnt]; rfl) (allIn (by repeat (first | exact trivial | refine ⟨rfl, ?_⟩))) (by first | exact Le.refl _ | assumption) (quiet_op (by rw [hty]; first | rfl | (refine st_ ?_; rfl))) ?_; refine st_ ?_
  refine hu_take 10 rfl (by kernel_rfl) (by kernel_rfl) (by kernel_rfl) (by kernel_rfl) rfl (fun c a w v => hQp c a w _ v) (by rw [hnt]; rfl) (allIn (by repeat (first | exact trivial | refine ⟨rfl, ?_⟩))) (by first | exact Le.refl _ | assumption) (quiet_op (by rw [hty]; first | rfl | (refine st_ ?_; rfl))) ?_; refine st_ ?_
  refine hu_take 11 rfl (by kernel_rfl) (by kernel_rfl) (by kernel_rfl) (by kernel_rfl) rfl (fun c a w v => hQp c a w _ v) (by rw [hnt]; rfl) (allIn (by repeat (first | exact trivial | refine ⟨rfl, ?_⟩))) (by first | exact Le.refl _ | assumption) (quiet_op (by rw [hty]; first | rfl | (refine st_ ?_; rfl))) ?_; refine st_ ?_
  refine hu_take 12 rfl (by kernel_rfl) (by kernel_rfl) (by kernel_rfl) (by kernel_rfl) rfl (fun c a w v => hQp c a w _ v) (by rw [hnt]; rfl) (allIn (by repeat (first | exact trivial | refine ⟨rfl, ?_⟩))) (by first | exact Le.refl _ | assumption) (quiet_op (by rw [hty]; first | rfl | (refine st_ ?_; rfl))) ?_; refine st_ ?_
  refine hu_take 13 rfl (by kernel_rfl) (by kernel_rfl) (by kernel_rfl) (by kernel_rfl) rfl (fun c a w v => hQp c a w _ v) (by rw [hnt]; rfl) (allIn (by repeat (first | exact trivial | refine ⟨rfl, ?_⟩))) (by first | exact Le.refl _ | assumption) (quiet_op (by rw [hty]; first | rfl | (refine st_ ?_; rfl))) ?_; refine st_ ?_
  refine hu_take 14 rfl (by kernel_rfl) (by kernel_rfl) (by kernel_rfl) (by kernel_rfl) rfl (fun c a w v => hQp c a w _ v) (by rw [hnt]; rfl) (allIn (by repeat (first | exact trivial | refine ⟨rfl, ?_⟩))) (by first | exact Le.refl _ | assumption) (quiet_op (by rw [hty]; first | rfl | (refine st_ ?_; rfl))) ?_; refine st_ ?_
  refine hu_take 15 rfl (by kernel_rfl) (by kernel_rfl) (by kernel_rfl) (by kernel_rfl) rfl (fun c a w v => hQp c a w _ v) (by rw [hnt]; rfl) (allIn (by repeat (first | exact trivial | refine ⟨rfl, ?_⟩))) (by first | exact Le.refl _ | assumption) (x := .v (.slice ab f.b.length f.b.length)) ((quiet_slice3 (by rw [hty]; rfl) (by rw [hty]; rfl) rfl rfl rfl rfl (by omega) (by omega)).cast (by
    have e2 : ab.map (fun x => x.add 0) = ab := by cases ab <;> simp [Addr.add]
    simp only [Sx.sliced, SV.den, Int.toNat_natCast, Nat.sub_zero, Nat.zero_mul, e2, ite_self])) ?_
  refine st_ ?_
  refine hu_take 16 rfl (by kernel_rfl) (by kernel_rfl) (by kernel_rfl) (by kernel_rfl) rfl (fun c a w v => hQp c a w _ v) (by rw [hnt]; rfl) (allIn (by repeat (first | exact trivial | refine ⟨rfl, ?_⟩))) (by first | exact Le.refl _ | assumption) (quiet_op (by rw [hty]; first | rfl | (refine st_ ?_; rfl))) ?_; refine st_ ?_
  refine hu_one 17 rfl (by kernel_rfl) ?_
  refine rn_ ?_; intros
  refine h_hs (allIn (by repeat (first | exact trivial | refine ⟨rfl, ?_⟩))) (by first | exact Le.refl _ | assumption) ?_
  refine hu_one 18 rfl (by kernel_rfl) ?_
  refine go_appendS rB (l1 := f.b) (l2 := [bb]) (by rw [hnt]; rfl) (by rw [hty]; rfl) (by rw [hty]; rfl) (by decide) rfl rfl rfl rfl hSb rfl (.inr (src_own 7 rfl rfl)) rfl (Rp.L_single ⟨_, _, _, rfl, hrb⟩) (by omega) (by simp only []; omega) ?_
  intro G2 ad2 cap2 (hle2 : Le G G2) hcap2 hS2
  refine rn_ ?_; intros
  refine h_hs (allIn (by repeat (first | exact trivial | refine ⟨rfl, ?_⟩))) (by first | exact Le.refl _ | assumption) ?_
  refine hu_one 19 rfl (by kernel_rfl) ?_
  refine rn_ ?_; intros
  refine h_hs (allIn (by repeat (first | exact trivial | refine ⟨rfl, ?_⟩))) (by first | exact Le.refl _ | assumption) ?_
  refine hu_one 20 rfl (by kernel_rfl) ?_
  refine rn_ ?_; intros
  refine h_hs (allIn (by repeat (first | exact trivial | refine ⟨rfl, ?_⟩))) (by first | exact Le.refl _ | assumption) ?_
  refine hu_last 21 [] rfl (by kernel_rfl) rfl ?_
  refine rn_ ?_; intros
  refine h_end (by kernel_rfl) ?_
  refine rn_ ?_; intros
  have hle := hle2
  refine go_callWQ [0] (ow := fzO b f.st sl (.slice ad2 (f.b ++ [bb]).length cap2) sc) (by rw [hnt]; rfl) rfl (by rw [hP]; kernel_rfl) rfl rfl rfl (.inr (by intro k hk; simp at hk; subst hk; rw [hmh]; omega))
    (hP ▸ repl_ok { f with b := f.b ++ [bb] } b sl (.slice ad2 (f.b ++ [bb]).length cap2) sc [] (.slice none 0 0) G2 (h.B.mono hle) (Rp.S_mono hle h.l) h.cl hS2 (Rp.S_nil _ _) capNil hl1 h.w (by show f.l.length ≤ _; omega) (by simp; omega) (by simp)) ?_ ?_
  · rintro v G3 ow (hle3 : Le G2 G3) ⟨sl', hcl', hl', hb', hc', rfl⟩
    simp only [setO, fzO]
    refine st_ ?_
    refine rn_ ?_; intros
    refine x_endWQ hQ hmb hmh hG0 hmub rfl rfl rfl rfl (by simp only [enumO]; exact (by repeat (first | exact plain_nil | refine plain_cons (fun _ h => h) ?_))) ?_
    intro _
    rw [hsf]
    exact ⟨sl', _, _, hcl', fun ad n c h => by cases h; simp; omega, h.cc, hl', by rw [hb']; exact Rp.S_mono hle3 hS2, by rw [hc']; exact Rp.S_mono (hle.trans hle3) h.c, rfl⟩
  · rintro v G3 ow (hle3 : Le G2 G3) ⟨rfl, hwr, rfl⟩
    simp only [setO, fzO]
    refine st_ ?_
    refine x_panWQ hQ hmb hmh hG0 hmub rfl rfl rfl (by simp only [enumO]; exact (by repeat (first | exact plain_nil | refine plain_cons (fun _ h => h) ?_))) ?_
    rw [hsf]
    exact ⟨rfl, hwr, _, _, _, _, rfl⟩
end Go.Proofs.YthocgjchmpkhoaaDoor
namespace Go.Proofs.YthocgjchmpkhoaaDoor
set_option linter.unusedSimpArgs false
set_option linter.unusedVariables false
open Go.Sx
set_option maxHeartbeats 8000000
set_option maxRecDepth 20000
theorem choose_ok (f : Fc) (x : It) (r : List It) (G : Hp) (b : Nat) (sl sb sc s1 s2 s3 : Value) (h : ArmH f x r G sl sb sc s1 s2 s3) (hk9 : x.v.k = 9) :
    PureWQ Tryd.prog 66 [.pointer (some ⟨b, 0, none⟩), .agg (itL x s1 s2 s3).toArray] G (fzO b f.st sl sb sc) (FzRet (stepF f).1 b) (FzPan (stepF f).1 b) := by
  have hh : f.l.head? = some x := by rw [h.fl]; rfl
  have hsf : stepF f = (putsF f (x.v.l.map fun v => ⟨v, x.w, x.c⟩), 0) := by rw [stepF, if_neg (by simp [h.st]), hh]; simp [isB, hk9]
  have hvx := h.v x (by rw [h.fl]; simp)
  have hl1 : 1 ≤ f.l.length := by rw [h.fl]; simp
  have hl16 := vld_k9 hvx hk9
  have hb1 := h.bl
  have hb2 := h.bb
  have hx := h.x
  obtain ⟨a1, q1, rfl⟩ := VT.repC_slice hx.v
  obtain ⟨a2, q2, rfl⟩ := Rp.S_slice hx.w
  obtain ⟨a3, q3, rfl⟩ := Rp.S_slice hx.c
  refine enterWQ ty tyok Tryd.func66 rfl Tryd.ntmps66 [.p 0 b 0, .a (itC x (.slice a1 x.v.l.length q1) (.slice a2 x.w.length q2) (.slice a3 x.c.length q3))] (by simp) (mh := 1) rfl ?_
  simp only [itC]
  intro C hP hQ hnt hty hmb hmh hro hG0 hmub; have hQp := qp_body hQ; refine st_ ?_
  simp only [enumO, fzO]
  refine rn_ ?_; intros
  rename_i b1
  refine go_nilrow 2 79 5 rfl (by omega) ?_
  refine go_keep [0, 3, 4, 9, 10, 11] [0, 1, 2] ?_
  refine st_ ?_
  refine x_loop rfl (fun q st => ∃ (k : Nat) (y : Option Addr) (z bb : Nat) (xs : List Value), k ≤ x.v.l.length ∧ q = x.v.l.length - k ∧ k ≤ z ∧ rT.L G ((x.v.l.take k).map fun v => ⟨v, x.w, x.c⟩) xs ∧
    st = ⟨[(0, .p 0 b 0), (3, .p 1 b1 0), (4, .v (.slice y k z)), (9, .v (.slice a1 x.v.l.length q1)), (10, .v (.int .i64 x.v.l.length)), (11, .v (.int .i64 k))],
      [(0, b, .c 74 [.v (.int .i64 f.st), .v sl, .v sb, .v sc]), (1, b1, .c 79 [.v (.int .i64 x.v.k), .v (.int .i64 x.v.n), .v (.slice a1 x.v.l.length q1), .v (.slice a2 x.w.length q2), .v (.slice a3 x.c.length q3)]), (2, bb, .row (.slice y k z) 79 5 k xs)], G, []⟩) ⟨0, none, 0, _, [], by omega, rfl, by omega, rfl, rfl⟩ ?_
  rintro q st ⟨k, y, z, bb, xs, hk, hq, hkz, hLx, rfl⟩ ih
  refine rn_ ?_; intros
  refine x_if rfl rfl rfl rfl (fun hkl => ?_) (fun hkl => ?_)
  · have hlt : k < x.v.l.length := by simp at hkl; omega
    obtain ⟨c7, o7, p7, a7, q7, e7, hat7, hr7⟩ := repC_el hx.v hlt
    cases e7
    have ht7 := tszL_mem (List.getElem_mem hlt)
    have htx : tsz x.v = 1 + tszL x.v.l := by obtain ⟨⟨k, n, l⟩, w, c⟩ := x; simp only [tsz, VT.l]
    have hxb := hx.b
    refine rn_ ?_; intros
    refine go_q (v := .pointer (some ⟨c7, o7 + k * 3, none⟩)) (by rw [hnt]; rfl) ((quiet_index (by rw [hty]; rfl) (by rw [hty]; rfl) rfl rfl rfl (by omega) (by omega)).cast (by simp)) ?_
    refine rn_ ?_; intros
    refine go_q (v := .agg #[.int .i64 x.v.l[k].k, .int .i64 x.v.l[k].n, .slice a7 x.v.l[k].l.length q7]) (by rw [hnt]; rfl) ((quiet_load (by rw [hty]; rfl) rfl (fun q => by cases q) hat7 rfl).cast (by simp only [ldV]; rfl)) ?_
    refine rn_ ?_; intros
    refine go_append 2 (by rw [hnt]; rfl) (by rw [hty]; rfl) (by rw [hty]; rfl) (by decide) rfl rfl rfl (by omega) rfl (src_own 5 rfl rfl) rfl (by simp [dens, SV.den, Value.oneCell']) (by omega) (by simp only []; omega) ?_
    intro v'
    refine go_rowC 2 rfl ?_
    rintro y8 z8 rfl hc8
    refine rn_ ?_; intros
    rw [wr (n := (k : Int) + 1) (by omega) (by omega)]
    refine go_keep [0, 3, 4, 9, 10, 11] [0, 1, 2] ?_
    refine st_ ?_
    exact ih (x.v.l.length - (k + 1)) _ (by omega) ⟨k + 1, y8, z8, bb, _, by omega, rfl, hc8, by rw [← List.take_append_getElem hlt, List.map_append]; exact Rp.L_append hLx (Rp.L_single ⟨_, _, _, rfl, ⟨hr7, by show tsz x.v.l[k] ≤ _; omega, hx.w, hx.c, hx.cc⟩⟩), by simp [dens, SV.den, itL]⟩
  have hge : k = x.v.l.length := by simp at hkl; omega
  rw [hge, List.take_length] at hLx
  rw [hge] at hkz ⊢
  clear ih hkl hq hk
  refine rn_ ?_; intros
  refine go_pubL rT 2 rfl (by omega) (by simp) (by omega) hLx ?_
  intro G2 y6 z6 (hle : Le G G2) he2 hS2
  rw [← he2] at hS2
  have hcz : CapOk (.slice y x.v.l.length z) := fun ad n c h => by cases h; omega
  refine st_ ?_
  refine rn_ ?_; intros
  refine go_callWQ [0] (ow := fzO b f.st sl sb sc) (by rw [hnt]; rfl) rfl (by rw [hP]; kernel_rfl) rfl rfl rfl (.inr (by intro k hk; simp at hk; subst hk; rw [hmh]; omega))
    (hP ▸ repl_ok f b sl sb sc _ _ G2 (h.B.mono hle) (Rp.S_mono hle h.l) h.cl (Rp.S_mono hle h.b) hS2 hcz hl1 h.w (by omega) (by omega) (by simp; omega)) ?_ ?_
  · rintro v G3 ow (hle3 : Le G2 G3) ⟨sl', hcl', hl', hb', hc', rfl⟩
    simp only [setO, fzO]
    refine st_ ?_
    refine rn_ ?_; intros
    refine x_endWQ hQ hmb hmh hG0 hmub rfl rfl rfl rfl (by simp only [enumO]; exact (by repeat (first | exact plain_nil | refine plain_cons (fun _ h => h) ?_))) ?_
    intro _
    rw [hsf]
    exact ⟨sl', _, _, hcl', h.cb, h.cc, hl', by rw [hb']; exact Rp.S_mono (hle.trans hle3) h.b, by rw [hc']; exact Rp.S_mono (hle.trans hle3) h.c, rfl⟩
  · rintro v G3 ow (hle3 : Le G2 G3) ⟨rfl, hwr, rfl⟩
    simp only [setO, fzO]
    refine st_ ?_
    refine x_panWQ hQ hmb hmh hG0 hmub rfl rfl rfl (by simp only [enumO]; exact (by repeat (first | exact plain_nil | refine plain_cons (fun _ h => h) ?_))) ?_
    rw [hsf]
    exact ⟨rfl, hwr, _, _, _, _, rfl⟩
end Go.Proofs.YthocgjchmpkhoaaDoor
namespace Go.Proofs.YthocgjchmpkhoaaDoor
set_option linter.unusedSimpArgs false
set_option linter.unusedVariables false
open Go.Sx
set_option maxHeartbeats 8000000
set_option maxRecDepth 20000
theorem wrap_ok (f : Fc) (x : It) (r : List It) (G : Hp) (b : Nat) (sl sb sc s1 s2 s3 : Value) (h : ArmH f x r G sl sb sc s1 s2 s3) (hk10 : x.v.k = 10) :
    PureWQ Tryd.prog 67 [.pointer (some ⟨b, 0, none⟩), .agg (itL x s1 s2 s3).toArray] G (fzO b f.st sl sb sc) (FzRet (stepF f).1 b) (FzPan (stepF f).1 b) := by
  have hh : f.l.head? = some x := by rw [h.fl]; rfl
  have hsf : stepF f = (putsF f [⟨x.v.l.getD 0 zV, ⟨x.v.n, x.v.l.drop 1⟩ :: x.w, x.c⟩], 0) := by rw [stepF, if_neg (by simp [h.st]), hh]; simp [isB, hk10]
  have hvx := h.v x (by rw [h.fl]; simp)
  have hl1 : 1 ≤ f.l.length := by rw [h.fl]; simp
  have hb1 := h.bl
  have hb2 := h.bb
  have hx := h.x
  have hl10 := vld_k10 hvx hk10
  obtain ⟨hkk, hkn⟩ := VT.rep_k (VT.repC_rep hx.v)
  have hrv := rV_of hx.v hx.b
  obtain ⟨csw, hcsw, hsrcw⟩ := Rp.srcS hx.w
  have hw32 := h.w x (by rw [h.fl]; simp)
  obtain ⟨c7, o7, p7, a7, q7, e7, hat7, hr7⟩ := repC_el hx.v (i := 0) hl10
  have ht7 := tszL_mem (List.getElem_mem (by omega : 0 < x.v.l.length))
  have htx : tsz x.v = 1 + tszL x.v.l := by obtain ⟨⟨k, n, l⟩, w, c⟩ := x; simp only [tsz, VT.l]
  have hxb := hx.b
  have hlx := tszL_len x.v.l
  have g0 : x.v.l.getD 0 zV = x.v.l[0] := by rw [List.getD_eq_getElem?_getD, List.getElem?_eq_getElem (by omega)]; rfl
  rw [g0] at hsf
  cases e7
  have hcx := VT.repC_cap hx.v
  have hrv9 : rV.S G x.v.l (.slice (some ⟨c7, o7, none⟩) x.v.l.length x.v.l.length) := by
    obtain ⟨q1, ad, c, q2, q3⟩ := hrv
    cases q2
    exact ⟨q1, _, _, rfl, q3⟩
  have hrlo := Rp.S_lo hrv9 (a := 1) hl10 (Nat.le_refl _)
  obtain ⟨a2, q2, rfl⟩ := Rp.S_slice hx.w
  obtain ⟨a3, q3, rfl⟩ := Rp.S_slice hx.c
  refine enterWQ ty tyok Tryd.func67 rfl Tryd.ntmps67 [.p 0 b 0, .a (itC x (.slice (some ⟨c7, o7, none⟩) x.v.l.length p7) (.slice a2 x.w.length q2) (.slice a3 x.c.length q3))] (by simp) (mh := 1) rfl ?_
  simp only [itC]
  intro C hP hQ hnt hty hmb hmh hro hG0 hmub; have hQp := qp_body hQ; refine st_ ?_
  simp only [enumO, fzO]
  refine rn_ ?_; intros
  rename_i b1
  refine x_held [(1, b1, .c 79 [.v (.int .i64 x.v.k), .v (.int .i64 x.v.n), .v (.slice (some ⟨c7, o7, none⟩) x.v.l.length p7), .v (.slice a2 x.w.length q2), .v (.slice a3 x.c.length q3)])] rfl (by rw [hP]; kernel_rfl) rfl rfl rfl ?_; refine st_ ?_
  refine h_take 0 rfl (by kernel_rfl) (by kernel_rfl) (by kernel_rfl) hQp (by rw [hnt]; rfl) (allIn (by repeat (first | exact trivial | refine ⟨rfl, ?_⟩))) (by first | exact Le.refl _ | assumption) (quiet_op (by rw [hty]; first | rfl | (refine st_ ?_; rfl))) ?_; refine st_ ?_
  refine h_take 1 rfl (by kernel_rfl) (by kernel_rfl) (by kernel_rfl) hQp (by rw [hnt]; rfl) (allIn (by repeat (first | exact trivial | refine ⟨rfl, ?_⟩))) (by first | exact Le.refl _ | assumption) (quiet_op (by rw [hty]; first | rfl | (refine st_ ?_; rfl))) ?_; refine st_ ?_
  refine h_take 2 rfl (by kernel_rfl) (by kernel_rfl) (by kernel_rfl) hQp (by rw [hnt]; rfl) (allIn (by repeat (first | exact trivial | refine ⟨rfl, ?_⟩))) (by first | exact Le.refl _ | assumption) (quiet_op (by rw [hty]; first | rfl | (refine st_ ?_; rfl))) ?_; refine st_ ?_
  refine h_take 3 rfl (by kernel_rfl) (by kernel_rfl) (by kernel_rfl) hQp (by rw [hnt]; rfl) (allIn (by repeat (first | exact trivial | refine ⟨rfl, ?_⟩))) (by first | exact Le.refl _ | assumption) (quiet_op (by rw [hty]; first | rfl | (refine st_ ?_; rfl))) ?_; refine st_ ?_
  refine h_take 4 rfl (by kernel_rfl) (by kernel_rfl) (by kernel_rfl) hQp (by rw [hnt]; rfl) (allIn (by repeat (first | exact trivial | refine ⟨rfl, ?_⟩))) (by first | exact Le.refl _ | assumption) (quiet_op (by rw [hty]; first | rfl | (refine st_ ?_; rfl))) ?_; refine st_ ?_
  refine h_take 5 rfl (by kernel_rfl) (by kernel_rfl) (by kernel_rfl) hQp (by rw [hnt]; rfl) (allIn (by repeat (first | exact trivial | refine ⟨rfl, ?_⟩))) (by first | exact Le.refl _ | assumption) (quiet_op (by rw [hty]; first | rfl | (refine st_ ?_; rfl))) ?_; refine st_ ?_
  refine h_take 6 rfl (by kernel_rfl) (by kernel_rfl) (by kernel_rfl) hQp (by rw [hnt]; rfl) (allIn (by repeat (first | exact trivial | refine ⟨rfl, ?_⟩))) (by first | exact Le.refl _ | assumption) (quiet_op (by rw [hty]; first | rfl | (refine st_ ?_; rfl))) ?_; refine st_ ?_
  refine h_take 7 rfl (by kernel_rfl) (by kernel_rfl) (by kernel_rfl) hQp (by rw [hnt]; rfl) (allIn (by repeat (first | exact trivial | refine ⟨rfl, ?_⟩))) (by first | exact Le.refl _ | assumption) (quiet_op (by rw [hty]; first | rfl | (refine st_ ?_; rfl))) ?_; refine st_ ?_
  refine h_take 8 rfl (by kernel_rfl) (by kernel_rfl) (by kernel_rfl) hQp (by rw [hnt]; rfl) (allIn (by repeat (first | exact trivial | refine ⟨rfl, ?_⟩))) (by first | exact Le.refl _ | assumption) (quiet_op (by rw [hty]; first | rfl | (refine st_ ?_; rfl))) ?_; refine st_ ?_
  refine h_take 9 rfl (by kernel_rfl) (by kernel_rfl) (by kernel_rfl) hQp (by rw [hnt]; rfl) (allIn (by repeat (first | exact trivial | refine ⟨rfl, ?_⟩))) (by first | exact Le.refl _ | assumption) (quiet_op (by rw [hty]; first | rfl | (refine st_ ?_; rfl))) ?_; refine st_ ?_
  refine h_take 10 rfl (by kernel_rfl) (by kernel_rfl) (by kernel_rfl) hQp (by rw [hnt]; rfl) (allIn (by repeat (first | exact trivial | refine ⟨rfl, ?_⟩))) (by first | exact Le.refl _ | assumption) (quiet_op (by rw [hty]; first | rfl | (refine st_ ?_; rfl))) ?_; refine st_ ?_
  refine h_take 11 rfl (by kernel_rfl) (by kernel_rfl) (by kernel_rfl) hQp (by rw [hnt]; rfl) (allIn (by repeat (first | exact trivial | refine ⟨rfl, ?_⟩))) (by first | exact Le.refl _ | assumption) (quiet_op (by rw [hty]; first | rfl | (refine st_ ?_; rfl))) ?_; refine st_ ?_
  refine h_take 12 rfl (by kernel_rfl) (by kernel_rfl) (by kernel_rfl) hQp (by rw [hnt]; rfl) (allIn (by repeat (first | exact trivial | refine ⟨rfl, ?_⟩))) (by first | exact Le.refl _ | assumption) (quiet_op (by rw [hty]; first | rfl | (refine st_ ?_; rfl))) ?_; refine st_ ?_
  refine h_take 13 rfl (by kernel_rfl) (by kernel_rfl) (by kernel_rfl) hQp (by rw [hnt]; rfl) (allIn (by repeat (first | exact trivial | refine ⟨rfl, ?_⟩))) (by first | exact Le.refl _ | assumption) (quiet_op (by rw [hty]; first | rfl | (refine st_ ?_; rfl))) ?_; refine st_ ?_
  refine h_take 14 rfl (by kernel_rfl) (by kernel_rfl) (by kernel_rfl) hQp (by rw [hnt]; rfl) (allIn (by repeat (first | exact trivial | refine ⟨rfl, ?_⟩))) (by first | exact Le.refl _ | assumption) (x := .v (Sx.sliced (some ⟨c7, o7, none⟩) x.v.l.length 1 x.v.l.length 3)) ((quiet_slice4 (k'' := .i64) (n := 1) (by rw [hty]; rfl) (by rw [hty]; rfl) rfl rfl rfl rfl rfl (by omega) (by omega) (by omega)).cast (by simp only [Int.toNat_natCast]; rfl)) ?_
  refine st_ ?_
  refine h_take 15 rfl (by kernel_rfl) (by kernel_rfl) (by kernel_rfl) hQp (by rw [hnt]; rfl) (allIn (by repeat (first | exact trivial | refine ⟨rfl, ?_⟩))) (by first | exact Le.refl _ | assumption) (quiet_op (by rw [hty]; first | rfl | (refine st_ ?_; rfl))) ?_; refine st_ ?_
  refine h_one 16 rfl (by kernel_rfl) ?_
  refine rn_ ?_; intros
  rename_i b2
  refine h_hs (allIn (by repeat (first | exact trivial | refine ⟨rfl, ?_⟩))) (by first | exact Le.refl _ | assumption) ?_
  refine h_one 17 rfl (by kernel_rfl) ?_
  refine rn_ ?_; intros
  refine h_hs (allIn (by repeat (first | exact trivial | refine ⟨rfl, ?_⟩))) (by first | exact Le.refl _ | assumption) ?_
  refine h_end (by kernel_rfl) ?_
  refine go_keep [0, 3, 4] [0, 1, 2] ?_
  refine st_ ?_
  refine rn_ ?_; intros
  generalize x.v.l[0] = y0 at *
  refine x_held [(1, b1, .c 79 [.v (.int .i64 x.v.k), .v (.int .i64 x.v.n), .v (.slice (some ⟨c7, o7, none⟩) x.v.l.length p7), .v (.slice a2 x.w.length q2), .v (.slice a3 x.c.length q3)])] rfl (by rw [hP]; kernel_rfl) rfl rfl rfl ?_; refine st_ ?_
  refine h_take 0 rfl (by kernel_rfl) (by kernel_rfl) (by kernel_rfl) hQp (by rw [hnt]; rfl) (allIn (by repeat (first | exact trivial | refine ⟨rfl, ?_⟩))) (by first | exact Le.refl _ | assumption) (quiet_op (by rw [hty]; first | rfl | (refine st_ ?_; rfl))) ?_; refine st_ ?_
  refine h_take 1 rfl (by kernel_rfl) (by kernel_rfl) (by kernel_rfl) hQp (by rw [hnt]; rfl) (allIn (by repeat (first | exact trivial | refine ⟨rfl, ?_⟩))) (by first | exact Le.refl _ | assumption) (quiet_op (by rw [hty]; first | rfl | (refine st_ ?_; rfl))) ?_; refine st_ ?_
  refine h_take 2 rfl (by kernel_rfl) (by kernel_rfl) (by kernel_rfl) hQp (by rw [hnt]; rfl) (allIn (by repeat (first | exact trivial | refine ⟨rfl, ?_⟩))) (by first | exact Le.refl _ | assumption) (quiet_op (by rw [hty]; first | rfl | (refine st_ ?_; rfl))) ?_; refine st_ ?_
  refine h_take 3 rfl (by kernel_rfl) (by kernel_rfl) (by kernel_rfl) hQp (by rw [hnt]; rfl) (allIn (by repeat (first | exact trivial | refine ⟨rfl, ?_⟩))) (by first | exact Le.refl _ | assumption) (quiet_op (by rw [hty]; first | rfl | (refine st_ ?_; rfl))) ?_; refine st_ ?_
  refine h_take 4 rfl (by kernel_rfl) (by kernel_rfl) (by kernel_rfl) hQp (by rw [hnt]; rfl) (allIn (by repeat (first | exact trivial | refine ⟨rfl, ?_⟩))) (by first | exact Le.refl _ | assumption) (x := .v (.pointer (some ⟨c7, o7, none⟩))) ((quiet_index (by rw [hty]; rfl) (by rw [hty]; rfl) rfl rfl rfl (by omega) (by omega)).cast (by simp [SV.den])) ?_
  refine st_ ?_
  refine h_take 5 rfl (by kernel_rfl) (by kernel_rfl) (by kernel_rfl) hQp (by rw [hnt]; rfl) (allIn (by repeat (first | exact trivial | refine ⟨rfl, ?_⟩))) (by first | exact Le.refl _ | assumption) (x := .a [.v (.int .i64 y0.k), .v (.int .i64 y0.n), .v (.slice a7 y0.l.length q7)]) ((quiet_load (by rw [hty]; rfl) rfl (fun q => by cases q) (by simpa using hat7) rfl).cast (by simp only [ldV, SV.den, dens]; rfl)) ?_
  refine st_ ?_
  refine h_take 6 rfl (by kernel_rfl) (by kernel_rfl) (by kernel_rfl) hQp (by rw [hnt]; rfl) (allIn (by repeat (first | exact trivial | refine ⟨rfl, ?_⟩))) (by first | exact Le.refl _ | assumption) (quiet_op (by rw [hty]; first | rfl | (refine st_ ?_; rfl))) ?_; refine st_ ?_
  refine h_take 7 rfl (by kernel_rfl) (by kernel_rfl) (by kernel_rfl) hQp (by rw [hnt]; rfl) (allIn (by repeat (first | exact trivial | refine ⟨rfl, ?_⟩))) (by first | exact Le.refl _ | assumption) (quiet_op (by rw [hty]; first | rfl | (refine st_ ?_; rfl))) ?_; refine st_ ?_
  refine h_take 8 rfl (by kernel_rfl) (by kernel_rfl) (by kernel_rfl) hQp (by rw [hnt]; rfl) (allIn (by repeat (first | exact trivial | refine ⟨rfl, ?_⟩))) (by first | exact Le.refl _ | assumption) (quiet_op (by rw [hty]; first | rfl | (refine st_ ?_; rfl))) ?_; refine st_ ?_
  refine h_take 10 rfl (by kernel_rfl) (by kernel_rfl) (by kernel_rfl) hQp (by rw [hnt]; rfl) (allIn (by repeat (first | exact trivial | refine ⟨rfl, ?_⟩))) (by first | exact Le.refl _ | assumption) (quiet_op (by rw [hty]; first | rfl | (refine st_ ?_; rfl))) ?_; refine st_ ?_
  refine h_take 11 rfl (by kernel_rfl) (by kernel_rfl) (by kernel_rfl) hQp (by rw [hnt]; rfl) (allIn (by repeat (first | exact trivial | refine ⟨rfl, ?_⟩))) (by first | exact Le.refl _ | assumption) (quiet_op (by rw [hty]; first | rfl | (refine st_ ?_; rfl))) ?_; refine st_ ?_
  refine h_one 9 rfl (by kernel_rfl) ?_
  refine go_litrow 2 (n := 1) (size := 2) rfl (by omega) rfl (by omega) ?_
  refine st_ ?_
  refine go_append_any 2 (by rw [hnt]; rfl) (by rw [hty]; rfl) (by rw [hty]; rfl) (by decide) rfl rfl rfl (by omega) rfl (hsrcw.imp id fun f => f _ _ rfl) (Rp.L_len hcsw) (Rp.L_one hcsw) (by omega) (by simp only []; omega) ?_
  intro v1
  refine go_rowS 2 rfl ?_
  rintro y3 z3 rfl
  refine go_pubL rC 2 rfl (by omega) (ts := ⟨x.v.n, x.v.l.drop 1⟩ :: x.w) (by simp; omega) (by omega) ⟨[_, _], _, rfl, ⟨_, rfl, hkn, hrlo⟩, by simpa using hcsw⟩ ?_
  intro G1 y6 z6 (hle1 : Le G G1) he1 hS1
  rw [← he1] at hS1
  refine st_ ?_
  refine rn_ ?_; intros
  refine h_hs (allIn (by repeat (first | exact trivial | refine ⟨rfl, ?_⟩))) (by first | exact Le.refl _ | assumption) ?_
  refine h_take 12 rfl (by kernel_rfl) (by kernel_rfl) (by kernel_rfl) hQp (by rw [hnt]; rfl) (allIn (by repeat (first | exact trivial | refine ⟨rfl, ?_⟩))) (by first | exact Le.refl _ | assumption) (quiet_op (by rw [hty]; first | rfl | (refine st_ ?_; rfl))) ?_; refine st_ ?_
  refine h_one 13 rfl (by kernel_rfl) ?_
  refine rn_ ?_; intros
  rename_i b9
  refine h_hs (allIn (by repeat (first | exact trivial | refine ⟨rfl, ?_⟩))) (by first | exact Le.refl _ | assumption) ?_
  refine h_one 14 rfl (by kernel_rfl) ?_
  refine go_slot 35 (.v (.slice (some ⟨b9, 0, none⟩) 1 1)) rfl rfl ?_
  refine go_litrow 2 (n := 1) (size := 5) rfl (by omega) rfl (by omega) ?_
  refine st_ ?_
  refine go_pubL rT 2 rfl (by omega) (ts := [⟨y0, ⟨x.v.n, x.v.l.drop 1⟩ :: x.w, x.c⟩]) rfl (by omega) (Rp.L_single ⟨_, _, _, rfl, ⟨VT.repC_mono hle1 hr7, by show tsz y0 ≤ _; omega, hS1, Rp.S_mono hle1 hx.c, hx.cc⟩⟩) ?_
  intro G2 y9 z9 (hle2 : Le G1 G2) he2 hS2
  rw [← he2] at hS2
  have hle := hle1.trans hle2
  refine st_ ?_
  refine go_callWQ [0] (ow := fzO b f.st sl sb sc) (by rw [hnt]; rfl) rfl (by rw [hP]; kernel_rfl) rfl rfl rfl (.inr (by intro k hk; simp at hk; subst hk; rw [hmh]; omega))
    (hP ▸ repl_ok f b sl sb sc _ _ G2 (h.B.mono hle) (Rp.S_mono hle h.l) h.cl (Rp.S_mono hle h.b) hS2 (fun ad n c h => by cases h; omega) hl1 h.w (by omega) (by omega) (by simp)) ?_ ?_
  · rintro v G3 ow (hle3 : Le G2 G3) ⟨sl', hcl', hl', hb', hc', rfl⟩
    simp only [setO, fzO]
    have hle03 := hle.trans hle3
    refine st_ ?_
    refine rn_ ?_; intros
    refine h_hs (allIn (by repeat (first | exact trivial | refine ⟨rfl, ?_⟩))) (by first | exact Le.refl _ | assumption) ?_
    refine h_end (by kernel_rfl) ?_
    refine x_endWQ hQ hmb hmh hG0 hmub rfl rfl rfl rfl (by simp only [enumO]; exact (by repeat (first | exact plain_nil | refine plain_cons (fun _ h => h) ?_))) ?_
    intro _
    rw [hsf]
    exact ⟨sl', _, _, hcl', h.cb, h.cc, hl', by rw [hb']; exact Rp.S_mono (hle.trans hle3) h.b, by rw [hc']; exact Rp.S_mono (hle.trans hle3) h.c, rfl⟩
  · rintro v G3 ow (hle3 : Le G2 G3) ⟨rfl, hwr, rfl⟩
    simp only [setO, fzO]
    refine st_ ?_
    refine x_panWQ hQ hmb hmh hG0 hmub rfl rfl rfl (by simp only [enumO]; exact (by repeat (first | exact plain_nil | refine plain_cons (fun _ h => h) ?_))) ?_
    rw [hsf]
    exact ⟨rfl, hwr, _, _, _, _, rfl⟩
end Go.Proofs.YthocgjchmpkhoaaDoor
namespace Go.Sx
set_option linter.unusedSimpArgs false
set_option linter.unusedVariables false
open Go.RowKit
section
variable {C : Ctx} {K : List KI} {s : St} {R : Array Oper} {l : List Oper} {d : Option Tmp} {t : TypeId} {pos : String} {aft : Array Edge}
theorem go_callWQv (ks : List Nat) {g : Operand} {f : FuncId} {cap : List Value} {z : SV} {args : Array Operand} {tys : Array TypeId} {vs : List SV} {ow : Lds} {φ ψ : Value → Hp → Lds → Prop} (hd : dOk C.nt d = true) (hnb : noBr K = true) (hf : canCall C.P f = true) (hg : ev s.sl g = some z) (hz : z.den = .func (.func f) #[] cap.toArray) (ha : evs s.sl args.toList = some vs)
    (hk : lkAll s.own ks = some ow) (hn : noDup ks = true) (hks : (∀ k ∈ ks, C.mh ≤ k) ∨ (∀ k ∈ ks, k < C.mh)) (hc : PureWQ C.P f (dens vs ++ cap) s.G ow φ ψ)
    (h : ∀ v G' ow', Le s.G G' → φ v G' ow' → SGo C (.ops R l :: K) ⟨putS d (rv v) s.sl, setO ks ow' s.own, G', s.df⟩)
    (h' : ∀ v G' ow', Le s.G G' → ψ v G' ow' → SPan C v ⟨s.sl, setO ks ow' s.own, G', s.df⟩) : SGo C (.ops R (⟨d, .call ⟨.value g, args, tys⟩, t, pos, aft, none⟩ :: l) :: K) s := by
  intro a w hS
  have hargs : args.map a.eval = (dens vs).toArray := by apply Array.ext'; rw [Array.toList_map]; exact evs_ok hS.sl ha
  have hgv := ev_ok hS.sl hg
  rw [hz] at hgv
  have hrun : (execOp a.eval ⟨d, .call ⟨.value g, args, tys⟩, t, pos, aft, none⟩).run C.P w = .ok (.enter f (dens vs ++ cap).toArray) w := by
    simp only [execOp, resolve, hargs, hgv, Deferred.ofValue, Sem.run_bind, Sem.run_pure, Result.andThen_ok, invoke]
    simp [callFunc_ok hf]
  refine K_op rfl (op_enterP hrun ((hc w hS.mem.has (Lent.of hS.mem hk hn)).mono ?_))
  rintro e w' (⟨v, G', ow', rfl, q1, q2, q3, q4, q5, q6, q7, q8, q9⟩ | ⟨v, G', ow', rfl, q1, q2, q3, q4, q5, q6, q7, q8, q9⟩)
  · refine .inl ⟨v, rfl, ?_⟩
    have hm := hS.mem.lentM hk hn hks q1 q2 q3 q4 q5 q6 q7 q8
    have hle : Le s.G G' := fun b o e => by
      rw [q4 b (lt_of_heap (hS.mem.has b o e))]; exact e
    have hS' := hS.put hd (rv v) hm
    rw [rv_den] at hS'
    exact h v G' ow' hle q9 _ _ hS'
  · have hm := hS.mem.lentM hk hn hks q1 q2 q3 q4 q5 q6 q7 q8
    have hle : Le s.G G' := fun b o e => by
      rw [q4 b (lt_of_heap (hS.mem.has b o e))]; exact e
    exact .inr ⟨_, rfl, wpK_pan _ (.ops R l :: K) a w' hnb (h' v G' ow' hle q9 a w' ⟨hS.sl, hS.nt, hS.df, hm⟩)⟩
theorem enterDW {P : Program} {f : FuncId} {fn : Func} {G : Hp} {ow : Lds} {φ : Value → Hp → Lds → Prop} (ty : TypeId → Option TI) (tyok : ∀ T i, ty T = some i → i.ok P T) {nt : Nat}
    (hf : P.funcs[f]? = some fn) (hb : fn.body.isSome = true) (hn : fn.ntmps = nt) (svs : List SV) (hargs : svs.length ≤ nt) {mh : Nat} (hmh : ow.length = mh)
    (h : ∀ C : Ctx, C.P = P → C.Q = bodyPostDIn Fence.wide 0 C.P fn (RetW C.w0 G ow φ) → C.nt = nt → C.ty = ty → (∀ g, g ∈ C.mb → mutOf ow g) → C.mh = mh → C.ro = none → C.G0 = G → (∀ g, mutOf ow g → blkOf ow g) → SGo C [.code (fn.body.getD .skip)] ⟨enumS 0 svs, enumO 0 ow, G, []⟩) : PureW P f (dens svs) G ow φ := by
  intro w hw hL
  classical
  refine callsIn_wide.1 (callsIn_of_wp_defers (F := Fence.wide) (n := 0) hf (body_eq hb) trivial ?_)
  have hlt : ∀ g, blkOf ow g → g < w.heap.size := fun g ⟨i, b, o, e, hg⟩ => OO.holds_lt (hL.own i b o e).1 hg
  have hml : ∀ g, mutOf ow g → g < w.heap.size := fun g ⟨i, b, o, e, hg⟩ => hlt g ⟨i, b, o, e, OO.mut_blks (hL.own i b o e).1 hg⟩
  have hmem : ∀ g, g ∈ (List.range w.heap.size).filter (fun g => decide (mutOf ow g)) ↔ mutOf ow g := fun g => by
    simp only [List.mem_filter, List.mem_range, decide_eq_true_eq]
    exact ⟨fun q => q.2, fun q => ⟨hml g q, q⟩⟩
  have hlk : ∀ k b o, lk k (enumO 0 ow) = some (b, o) → ow[k]? = some (b, o) := fun k b o e => by
    rw [lk_enumO] at e; simpa using e
  have := h ⟨P, bodyPostDIn Fence.wide 0 P fn (RetW w G ow φ), nt, ty, tyok, w, G, (List.range w.heap.size).filter (fun g => decide (mutOf ow g)), mh, none⟩ rfl rfl rfl rfl (fun g hg => (hmem g).1 hg) rfl rfl rfl (fun g ⟨i, b, o, e, hg⟩ => ⟨i, b, o, e, OO.mut_blks (hL.own i b o e).1 hg⟩) { tmps := (dens svs).toArray ++ Array.replicate (fn.ntmps - (dens svs).toArray.size) undef, defers := [] } w
    ⟨slots_args _ _ _ (fun i x e => by have := (lk_enumS svs 0 i x e).2; simpa using this), by simp [hn, dens_eq]; omega, rfl, ⟨fun k b o e => ?_, fun k k' b b' o o' g e e' f f' => ?_, Grow.refl hw⟩⟩
  · simp only [wpK] at this
    exact this
  · have e' := hlk _ _ _ e
    obtain ⟨h1, h2⟩ := hL.own _ _ _ e'
    refine ⟨h1, fun g hg => ⟨h2 g hg, fun q => ?_, fun _ => .inl ((hmem g).2 ⟨_, _, _, e', hg⟩)⟩⟩
    have hk : k < ow.length := by
      rcases Nat.lt_or_ge k ow.length with q | q
      · exact q
      · rw [List.getElem?_eq_none q] at e'; cases e'
    have q : mh ≤ k := q
    omega
  · exact hL.inj _ _ _ _ _ _ g (hlk _ _ _ e) (hlk _ _ _ e') f f'
theorem x_endDW {fn : Func} {G : Hp} {ow0 : Lds} {φ : Value → Hp → Lds → Prop} (hQ : C.Q = bodyPostDIn Fence.wide 0 C.P fn (RetW C.w0 G ow0 φ)) (hmb : ∀ g, g ∈ C.mb → mutOf ow0 g) {mh : Nat} (hmh : C.mh = mh) (hG : C.G0 = G) (hmub : ∀ g, mutOf ow0 g → blkOf ow0 g) (hml : ow0.length = mh)
    (hrs : fn.results.toList = []) {f : FuncId} {cap : List Value} (hdf : s.df = [dfn f cap]) (hf : canCall C.P f = true) {ks : List Nat} {ow : Lds}
    (hk : lkAll s.own ks = some ow) (hn : noDup ks = true) (hks : (∀ k ∈ ks, C.mh ≤ k) ∨ (∀ k ∈ ks, k < C.mh)) {ψ : FrameMode → Hp → Lds → Prop} (hc : CloD C.P f cap s.G ow .returning ψ)
    (h : ∀ u' G' ow', Le s.G G' → ψ u' G' ow' → settle u' = .returning ∧ ∃ ow2, pickO (setO ks ow' s.own) 0 mh = some ow2 ∧ Plain (enumO 0 ow2) ∧ ∀ v, φ v G' ow2) : SGo C [] s := by
  intro a w hS
  show C.Q .normal a w
  rw [hQ]
  refine leave_gen hS hdf (by simp) hf hk hn hks hc fun u' G' ow' hle hψ => ?_
  obtain ⟨h1, ow2, h2, h3, h4⟩ := h u' G' ow' hle hψ
  exact ⟨h1, fun a w hS => retw0 (s := ⟨s.sl, setO ks ow' s.own, G', s.df⟩) hmb hmh hG hmub hml hrs h2 h3 h4 hS⟩
theorem x_panDW {fn : Func} {G : Hp} {ow0 : Lds} {φ : Value → Hp → Lds → Prop} {v : Value} (hQ : C.Q = bodyPostDIn Fence.wide 0 C.P fn (RetW C.w0 G ow0 φ)) (hmb : ∀ g, g ∈ C.mb → mutOf ow0 g) {mh : Nat} (hmh : C.mh = mh) (hG : C.G0 = G) (hmub : ∀ g, mutOf ow0 g → blkOf ow0 g) (hml : ow0.length = mh)
    (hrs : fn.results.toList = []) {f : FuncId} {cap : List Value} (hdf : s.df = [dfn f cap]) (hf : canCall C.P f = true) {ks : List Nat} {ow : Lds}
    (hk : lkAll s.own ks = some ow) (hn : noDup ks = true) (hks : (∀ k ∈ ks, C.mh ≤ k) ∨ (∀ k ∈ ks, k < C.mh)) {ψ : FrameMode → Hp → Lds → Prop} (hc : CloD C.P f cap s.G ow (.panicking [pE v]) ψ)
    (h : ∀ u' G' ow', Le s.G G' → ψ u' G' ow' → settle u' = .returning ∧ ∃ ow2, pickO (setO ks ow' s.own) 0 mh = some ow2 ∧ Plain (enumO 0 ow2) ∧ ∀ v, φ v G' ow2) : SPan C v s := by
  intro a w hS
  rw [hQ]
  refine leave_gen hS hdf (by simp) hf hk hn hks hc fun u' G' ow' hle hψ => ?_
  obtain ⟨h1, ow2, h2, h3, h4⟩ := h u' G' ow' hle hψ
  exact ⟨h1, fun a w hS => retw0 (s := ⟨s.sl, setO ks ow' s.own, G', s.df⟩) hmb hmh hG hmub hml hrs h2 h3 h4 hS⟩
theorem go_unrow (k : Nat) {b g n size : Nat} {e : TypeId} {cells : List SV} (hk : lk k s.own = some (b, .row (.slice (some ⟨g, 0, none⟩) n n) e size n (dens cells)))
    (h : SGo C K ⟨s.sl, stk k (g, .c e cells) s.own, s.G, s.df⟩) : SGo C K s := by
  intro a w hS
  refine h a w ⟨hS.sl, hS.nt, hS.df, ?_⟩
  obtain ⟨f1, f2⟩ := hS.mem.own _ _ _ hk
  simp only [OO.holds] at f1
  refine hS.mem.put hk rfl rfl rfl (Nat.le_refl _) (fun _ _ _ => rfl) ?_ (fun j => ⟨fun hg => .inl (by simp [OO.blks, Value.ownBlock] at hg ⊢; exact hg.symm), fun hg => .inl (by simp [OO.mut, Value.ownBlock] at hg ⊢; exact hg.symm)⟩)
  rcases f1.2 with ⟨q1, _⟩ | ⟨g0, cap, cur, q1, hbg, hgg, hnc, hcm, hcs, htake⟩
  · cases q1
  · cases q1
    have hl : cur.size = (dens cells).length := by rw [hcs, f1.1]
    have : cur = (dens cells).toArray := by
      apply Array.ext'
      have h2 := htake
      rw [List.take_of_length_le (by rw [Array.length_toList, hcs]; exact Nat.le_refl _)] at h2
      simpa using h2
    show w.heap[g]? = some (.cells (dens cells).toArray e)
    rw [← this]; exact hgg
end
end Go.Sx
namespace Go.Proofs.YthocgjchmpkhoaaDoor
set_option linter.unusedSimpArgs false
set_option linter.unusedVariables false
open Go.Sx
set_option maxHeartbeats 8000000
set_option maxRecDepth 20000
def fnV (f : Nat) : Value := .func (.func f) #[] #[]
def stpE : MEs := [(5, fnV 65, 0), (6, fnV 65, 1), (7, fnV 65, 2), (8, fnV 65, 3), (13, fnV 65, 4), (9, fnV 66, 5), (10, fnV 67, 6), (11, fnV 68, 7), (12, fnV 69, 8)]
theorem steps_ok (G : Hp) : Pure Tryd.prog 42 [] G (fun v G' => ∃ b, v = .map (some b) ∧ G' b = some (mObj .i64 stpE 9)) := by
  refine enterX ty tyok Tryd.func42 rfl Tryd.ntmps42 [] (by simp) ?_
  intro C hP hQ hnt hty hmb hmh hro; have hQp := qp_body hQ; refine st_ ?_
  refine rn_ ?_; intros
  refine go_mkmap 40 .i64 (by rw [hnt]; rfl) rfl (by omega) ?_
  intro g
  refine rn_ ?_; intros
  refine go_mupd 40 (.inr rfl) (by rw [hnt]; rfl) (by rw [hty]; rfl) (by rw [hty]; rfl) rfl rfl rfl rfl ?_
  refine st_ ?_
  refine rn_ ?_; intros
  refine go_mupd 40 (.inr rfl) (by rw [hnt]; rfl) (by rw [hty]; rfl) (by rw [hty]; rfl) rfl rfl rfl rfl ?_
  refine st_ ?_
  refine rn_ ?_; intros
  refine go_mupd 40 (.inr rfl) (by rw [hnt]; rfl) (by rw [hty]; rfl) (by rw [hty]; rfl) rfl rfl rfl rfl ?_
  refine st_ ?_
  refine rn_ ?_; intros
  refine go_mupd 40 (.inr rfl) (by rw [hnt]; rfl) (by rw [hty]; rfl) (by rw [hty]; rfl) rfl rfl rfl rfl ?_
  refine st_ ?_
  refine rn_ ?_; intros
  refine go_mupd 40 (.inr rfl) (by rw [hnt]; rfl) (by rw [hty]; rfl) (by rw [hty]; rfl) rfl rfl rfl rfl ?_
  refine st_ ?_
  refine rn_ ?_; intros
  refine go_mupd 40 (.inr rfl) (by rw [hnt]; rfl) (by rw [hty]; rfl) (by rw [hty]; rfl) rfl rfl rfl rfl ?_
  refine st_ ?_
  refine rn_ ?_; intros
  refine go_mupd 40 (.inr rfl) (by rw [hnt]; rfl) (by rw [hty]; rfl) (by rw [hty]; rfl) rfl rfl rfl rfl ?_
  refine st_ ?_
  refine rn_ ?_; intros
  refine go_mupd 40 (.inr rfl) (by rw [hnt]; rfl) (by rw [hty]; rfl) (by rw [hty]; rfl) rfl rfl rfl rfl ?_
  refine st_ ?_
  refine rn_ ?_; intros
  refine go_mupd 40 (.inr rfl) (by rw [hnt]; rfl) (by rw [hty]; rfl) (by rw [hty]; rfl) rfl rfl rfl rfl ?_
  refine st_ ?_
  refine rn_ ?_; intros
  refine go_pubx 40 (g := g) rfl (by omega) rfl (fun w h => h) ?_
  intro G1 hle1 hG1
  refine x_retc rfl hQ hmb rfl (by rw [hty]; simp only [so, sq, zy, zz, tyE, SO', SQ', opQ, opStore, opAlloc, ev, putS, dOk, cv, SV.cs, SV.one, SV.bool?, eqB, Value.oneCell', ldOwn, binInt, binConst, binBool, binStr, isC, TK.agg, rv, rv1, ldV, resOne, resV, Nat.reduceAdd, Nat.reduceMul, Nat.reduceSub, Nat.reduceLT, Nat.reduceLeDiff, Nat.reduceEqDiff, Nat.reduceBEq, reduceIte, reduceCtorEq, eq_self]; try rfl) rfl ?_; simp only [SV.den, resV, dens]
  exact ⟨g, rfl, hG1⟩
theorem at_cellsG {G : Hp} {b : Nat} {vs : List Value} {e : TypeId} (h : G b = some (.cells vs.toArray e)) : At G b 0 vs := ⟨_, _, _, h, by simp, fun i hi => by simp⟩
def fzD (b : Nat) : List Value := [.pointer (some ⟨b, 0, none⟩)]
theorem pClo_idle (bx b : Nat) (st : Int) (sl sb sc : Value) (G : Hp) : CloD Tryd.prog 64 [.pointer (some ⟨bx, 0, none⟩)] G (fzO b st sl sb sc) .returning (fun u' _ ow => settle u' = .returning ∧ ow = fzO b st sl sb sc) := by
  refine enterClo ty tyok Tryd.func64 (rest := Sx.c2 (Tryd.f64.body.getD .skip)) rfl Tryd.ntmps64 (by omega) (by omega) [.v (.pointer (some ⟨bx, 0, none⟩))] (by simp) (mh := 1) rfl (.inl ⟨rfl, rfl, rfl⟩) ?_
  intro C hP hQ hnt hty hmb hmh hro hG0 hmub; have hQp := qp_body hQ; refine st_ ?_
  simp only [enumO, fzO]
  refine rn_ ?_; intros
  refine go_q (by rw [hnt]; rfl) (quiet_ineq_nil (by rw [hty]; rfl) rfl rfl) ?_
  refine rn_ ?_; intros
  (refine x_split rfl rfl rfl (fun hc => absurd hc (by first | decide +kernel | (simp; first | done | fail))) (fun _ => ?_); refine st_ ?_; (refine ru_ ?_; intros))
  refine x_endW hQ hmb hmh hG0 hmub rfl rfl rfl rfl (by simp only [enumO]; exact (by repeat (first | exact plain_nil | refine plain_cons (fun _ h => h) ?_))) ?_
  intro _
  exact ⟨rfl, rfl⟩
theorem pClo_catch (bx b : Nat) (st : Int) (sl sb sc : Value) (G : Hp) (hbx : At G bx 0 (fzD b)) : CloD Tryd.prog 64 [.pointer (some ⟨bx, 0, none⟩)] G (fzO b st sl sb sc) (.panicking [pE wrongV]) (fun u' _ ow => settle u' = .returning ∧ ow = fzO b 5 (.slice none 0 0) (.slice none 0 0) (.slice none 0 0)) := by
  refine enterClo ty tyok Tryd.func64 (rest := Sx.c2 (Tryd.f64.body.getD .skip)) rfl Tryd.ntmps64 (by omega) (by omega) [.v (.pointer (some ⟨bx, 0, none⟩))] (by simp) (mh := 1) rfl (.inr ⟨rfl, rfl⟩) ?_
  intro C hP hQ hnt hty hmb hmh hro hG0 hmub; have hQp := qp_body hQ; refine st_ ?_
  simp only [enumO, fzO, wrongV]
  refine rn_ ?_; intros
  refine go_q (by rw [hnt]; rfl) (quiet_ineq_held (by rw [hty]; rfl) rfl rfl) ?_
  refine rn_ ?_; intros
  (refine x_split rfl rfl rfl (fun _ => ?_) (fun hc => absurd hc (by first | decide +kernel | (simp; first | done | fail))); refine st_ ?_; (refine ru_ ?_; intros))
  refine rn_ ?_; intros
  refine go_q (by rw [hnt]; rfl) (quiet_is (by rw [hty]; rfl) rfl rfl) ?_
  refine rn_ ?_; intros
  (refine x_split rfl rfl rfl (fun hc => absurd hc (by first | decide +kernel | (simp; first | done | fail))) (fun _ => ?_); refine st_ ?_; (refine ru_ ?_; intros))
  refine rn_ ?_; intros
  refine go_q (v := .pointer (some ⟨b, 0, none⟩)) (by rw [hnt]; rfl) ((quiet_load (vs := fzD b) (by rw [hty]; rfl) rfl (by simp [TK.agg]) hbx rfl).cast (by rfl)) ?_
  refine rn_ ?_; intros
  refine go_slot 17 (.p 0 b 0) rfl rfl ?_
  refine st_ ?_
  refine rn_ ?_; intros
  refine x_endW hQ hmb hmh hG0 hmub rfl rfl rfl rfl (by simp only [enumO]; exact (by repeat (first | exact plain_nil | refine plain_cons (fun _ h => h) ?_))) ?_
  intro _
  exact ⟨rfl, rfl⟩
theorem perform_ok (f' : Fc) (gf : Nat) (cap : List Value) (b : Nat) (st : Int) (sl sb sc : Value) (G : Hp) (hcc : canCall Tryd.prog gf = true)
    (hdo : ∀ G1, Le G G1 → PureWQ Tryd.prog gf cap G1 (fzO b st sl sb sc) (FzRet f' b) (FzPan f' b)) :
    PureW Tryd.prog 40 [.pointer (some ⟨b, 0, none⟩), .func (.func gf) #[] cap.toArray] G (fzO b st sl sb sc) (FzRet f' b) := by
  refine enterDW ty tyok Tryd.func40 rfl Tryd.ntmps40 [.p 0 b 0, .v (.func (.func gf) #[] cap.toArray)] (by simp) (mh := 1) rfl ?_
  intro C hP hQ hnt hty hmb hmh hro hG0 hmub
  refine st_ ?_
  simp only [enumO, fzO]
  refine rn_ ?_; intros
  rename_i bx
  refine go_pub 1 rfl (by omega) ?_
  intro G1 (hle1 : Le G G1) hbx0
  have hbx : At G1 bx 0 (fzD b) := at_cellsG hbx0
  refine go_slot 4 (.v (.func (.func 64) #[] #[.pointer (some ⟨bx, 0, none⟩)])) rfl rfl ?_
  refine st_ ?_
  refine go_defer hro (by rw [hnt]; rfl) rfl rfl ?_
  refine rn_ ?_; intros
  refine go_callWQv [0] (ow := fzO b st sl sb sc) (by rw [hnt]; rfl) rfl (by rw [hP]; exact hcc) rfl rfl rfl rfl rfl (.inr (by intro k hk; simp at hk; subst hk; rw [hmh]; omega)) (hP ▸ hdo G1 hle1) ?_ ?_
  · rintro v G2 ow (hle2 : Le G1 G2) ⟨sl', sb', sc', h1, h2, h3, h4, h5, h6, rfl⟩
    simp only [setO, fzO]
    refine st_ ?_
    refine rn_ ?_; intros
    refine x_endDW hQ hmb hmh hG0 hmub rfl rfl rfl (by rw [hP]; kernel_rfl) (ks := [0]) (ow := fzO b f'.st sl' sb' sc') rfl rfl (.inr (by intro k hk; simp at hk; subst hk; rw [hmh]; omega)) (hP ▸ pClo_idle bx b _ _ _ _ G2) ?_
    rintro u' G3 ow' (hle3 : Le G2 G3) ⟨hu, rfl⟩
    refine ⟨hu, _, rfl, by simp only [enumO, fzO]; exact (by repeat (first | exact plain_nil | refine plain_cons (fun _ h => h) ?_)), fun v => ⟨sl', sb', sc', h1, h2, h3, Rp.S_mono hle3 h4, Rp.S_mono hle3 h5, Rp.S_mono hle3 h6, rfl⟩⟩
  · rintro v G2 ow (hle2 : Le G1 G2) ⟨rfl, hwr, st', sl', sb', sc', rfl⟩
    simp only [setO, fzO]
    refine st_ ?_
    refine x_panDW hQ hmb hmh hG0 hmub rfl rfl rfl (by rw [hP]; kernel_rfl) (ks := [0]) (ow := fzO b st' sl' sb' sc') rfl rfl (.inr (by intro k hk; simp at hk; subst hk; rw [hmh]; omega)) (hP ▸ pClo_catch bx b _ _ _ _ G2 (hbx.mono hle2)) ?_
    rintro u' G3 ow' (hle3 : Le G2 G3) ⟨hu, rfl⟩
    refine ⟨hu, _, rfl, by simp only [enumO, fzO]; exact (by repeat (first | exact plain_nil | refine plain_cons (fun _ h => h) ?_)), fun v => ?_⟩
    rw [hwr]
    exact ⟨_, _, _, capNil, capNil, capNil, Rp.S_nil _ _, Rp.S_nil _ _, Rp.S_nil _ _, rfl⟩
end Go.Proofs.YthocgjchmpkhoaaDoor
namespace Go.Proofs.YthocgjchmpkhoaaDoor
set_option linter.unusedSimpArgs false
set_option linter.unusedVariables false
open Go.Sx
set_option maxHeartbeats 8000000
set_option maxRecDepth 20000
structure FzH (f : Fc) (G : Hp) (sl sb sc : Value) : Prop where
  B : At G 0 0 bdsL
  cl : CapOk sl
  cb : CapOk sb
  cc : CapOk sc
  l : rT.S G f.l sl
  b : rB.S G f.b sb
  c : rI.S G f.c sc
  v : ∀ y ∈ f.l, vld y.v = true
  w : ∀ y ∈ f.l, y.w.length ≤ 32 ∧ y.c.length ≤ 32
  bl : f.l.length ≤ 100
  bb : f.b.length ≤ 100
  bc : f.c.length ≤ 1000
  s : f.st = 1 ∨ f.st = 2 ∨ f.st = 3 → 1 ≤ f.l.length
  k : isI64 f.st
  z : f.st ≠ 0
theorem FzH.mono {f : Fc} {G G' : Hp} {sl sb sc : Value} (h : FzH f G sl sb sc) (hl : Le G G') : FzH f G' sl sb sc :=
  ⟨h.B.mono hl, h.cl, h.cb, h.cc, Rp.S_mono hl h.l, Rp.S_mono hl h.b, Rp.S_mono hl h.c, h.v, h.w, h.bl, h.bb, h.bc, h.s, h.k, h.z⟩
theorem arm_of (k : Int) : (mget k stpE = none ∧ isB k = false ∧ k ≠ 9 ∧ k ≠ 10 ∧ k ≠ 11 ∧ k ≠ 12) ∨ ∃ fid, mget k stpE = some (fnV fid) ∧ canCall Tryd.prog fid = true ∧
    ∀ (f : Fc) (x : It) (r : List It) (G : Hp) (b : Nat) (sl sb sc s1 s2 s3 : Value), x.v.k = k → ArmH f x r G sl sb sc s1 s2 s3 → PureWQ Tryd.prog fid [.pointer (some ⟨b, 0, none⟩), .agg (itL x s1 s2 s3).toArray] G (fzO b f.st sl sb sc) (FzRet (stepF f).1 b) (FzPan (stepF f).1 b) := by
  by_cases h5 : k = 5
  · subst h5; exact .inr ⟨_, rfl, by kernel_rfl, fun f x r G b sl sb sc s1 s2 s3 hk h => offer_ok f x r G b sl sb sc s1 s2 s3 h (by rw [hk]; rfl)⟩
  by_cases h6 : k = 6
  · subst h6; exact .inr ⟨_, rfl, by kernel_rfl, fun f x r G b sl sb sc s1 s2 s3 hk h => offer_ok f x r G b sl sb sc s1 s2 s3 h (by rw [hk]; rfl)⟩
  by_cases h7 : k = 7
  · subst h7; exact .inr ⟨_, rfl, by kernel_rfl, fun f x r G b sl sb sc s1 s2 s3 hk h => offer_ok f x r G b sl sb sc s1 s2 s3 h (by rw [hk]; rfl)⟩
  by_cases h8 : k = 8
  · subst h8; exact .inr ⟨_, rfl, by kernel_rfl, fun f x r G b sl sb sc s1 s2 s3 hk h => offer_ok f x r G b sl sb sc s1 s2 s3 h (by rw [hk]; rfl)⟩
  by_cases h13 : k = 13
  · subst h13; exact .inr ⟨_, rfl, by kernel_rfl, fun f x r G b sl sb sc s1 s2 s3 hk h => offer_ok f x r G b sl sb sc s1 s2 s3 h (by rw [hk]; rfl)⟩
  by_cases h9 : k = 9
  · subst h9; exact .inr ⟨_, rfl, by kernel_rfl, fun f x r G b sl sb sc s1 s2 s3 hk h => choose_ok f x r G b sl sb sc s1 s2 s3 h hk⟩
  by_cases h10 : k = 10
  · subst h10; exact .inr ⟨_, rfl, by kernel_rfl, fun f x r G b sl sb sc s1 s2 s3 hk h => wrap_ok f x r G b sl sb sc s1 s2 s3 h hk⟩
  by_cases h11 : k = 11
  · subst h11; exact .inr ⟨_, rfl, by kernel_rfl, fun f x r G b sl sb sc s1 s2 s3 hk h => guard_ok f x r G b sl sb sc s1 s2 s3 h hk⟩
  by_cases h12 : k = 12
  · subst h12; exact .inr ⟨_, rfl, by kernel_rfl, fun f x r G b sl sb sc s1 s2 s3 hk h => nack_ok f x r G b sl sb sc s1 s2 s3 h hk⟩
  refine .inl ⟨?_, ?_, h9, h10, h11, h12⟩
  · simp only [stpE, mget, if_neg (Ne.symm h5), if_neg (Ne.symm h6), if_neg (Ne.symm h7), if_neg (Ne.symm h8), if_neg (Ne.symm h9), if_neg (Ne.symm h10), if_neg (Ne.symm h11), if_neg (Ne.symm h12), if_neg (Ne.symm h13)]
  · simp [isB, h5, h6, h7, h8, h13]
theorem none_ok (b : Nat) (st : Int) (sl sb sc : Value) (G : Hp) : PureW Tryd.prog 39 [.pointer (some ⟨b, 0, none⟩)] G (fzO b st sl sb sc) (fun v _ ow => v = .bool (st == 0) ∧ ow = fzO b st sl sb sc) := by
  refine enterW ty tyok Tryd.func39 rfl Tryd.ntmps39 [.p 0 b 0] (by simp) (mh := 1) rfl ?_
  intro C hP hQ hnt hty hmb hmh hro hG0 hmub; have hQp := qp_body hQ; refine st_ ?_
  simp only [enumO, fzO]
  refine rn_ ?_; intros
  refine go_q (v := .bool false) (by rw [hnt]; rfl) ((quiet_pnil (by rw [hty]; rfl) rfl rfl).cast (by rfl)) ?_
  refine rn_ ?_; intros
  refine go_slot 5 (.b false) rfl (by simp [SV.den]) ?_; refine rn_ ?_; intros
  refine x_retW rfl hQ hmb hmh hG0 hmub rfl rfl (by rw [hty]; simp only [so, sq, zy, zz, tyE, SO', SQ', opQ, opStore, opAlloc, ev, putS, dOk, cv, SV.cs, SV.one, SV.bool?, eqB, Value.oneCell', ldOwn, binInt, binConst, binBool, binStr, isC, TK.agg, rv, rv1, ldV, resOne, resV, Nat.reduceAdd, Nat.reduceMul, Nat.reduceSub, Nat.reduceLT, Nat.reduceLeDiff, Nat.reduceEqDiff, Nat.reduceBEq, reduceIte, reduceCtorEq, eq_self]; try rfl) rfl rfl (by simp only [enumO]; exact (by repeat (first | exact plain_nil | refine plain_cons (fun _ h => h) ?_))) ?_; simp only [SV.den, resV, dens]
  simp [fzO]
theorem step1_ok (f : Fc) (bf b : Nat) (sl sb sc : Value) (G : Hp) (hbf : At G bf 0 (fzD b)) (h : FzH f G sl sb sc) (hst : f.st = 1) :
    PureWQ Tryd.prog 41 [.pointer (some ⟨bf, 0, none⟩)] G (fzO b f.st sl sb sc) (FzRet (stepF f).1 b) (FzPan (stepF f).1 b) := by
  have hl1 := h.s (.inl hst)
  obtain ⟨al, cl, rfl⟩ := Rp.S_slice h.l
  obtain ⟨c0, o0, s1, s2, s3, e0, hat, hrx⟩ := rT_at h.l (i := 0) (by omega)
  subst e0
  obtain ⟨x, r, hfl⟩ : ∃ x r, f.l = x :: r := by
    cases hl : f.l with
    | nil => rw [hl] at hl1; simp at hl1
    | cons x r => exact ⟨x, r, rfl⟩
  have hh : f.l.head? = some x := by rw [hfl]; rfl
  have hx0 : f.l[0]'(by omega) = x := by simp [hfl]
  rw [hx0] at hat hrx
  have harm : ArmH f x r G (.slice (some ⟨c0, o0, none⟩) f.l.length cl) sb sc s1 s2 s3 := ⟨h.B, hst, hfl, h.cl, h.cb, h.cc, h.l, h.b, h.c, hrx, h.v, h.w, h.bl, h.bb⟩
  obtain ⟨a1, q1, rfl⟩ := VT.repC_slice hrx.v
  obtain ⟨a2, q2, rfl⟩ := Rp.S_slice hrx.w
  obtain ⟨a3, q3, rfl⟩ := Rp.S_slice hrx.c
  refine enterWQ ty tyok Tryd.func41 rfl Tryd.ntmps41 [.v (.pointer (some ⟨bf, 0, none⟩))] (by simp) (mh := 1) rfl ?_
  intro C hP hQ hnt hty hmb hmh hro hG0 hmub; have hQp := qp_body hQ; refine st_ ?_
  simp only [enumO, fzO]
  refine rn_ ?_; intros
  refine go_q (v := .pointer (some ⟨b, 0, none⟩)) (by rw [hnt]; rfl) ((quiet_load (vs := fzD b) (by rw [hty]; rfl) rfl (by simp [TK.agg]) hbf rfl).cast (by rfl)) ?_
  refine go_slot 4 (.p 0 b 0) rfl rfl ?_
  refine st_ ?_
  refine rn_ ?_; intros
  refine go_q (by rw [hnt]; rfl) (quiet_index (by rw [hty]; rfl) (by rw [hty]; rfl) rfl rfl rfl (by omega) (by omega)) ?_
  refine rn_ ?_; intros
  refine go_q (v := .agg (itL x (.slice a1 x.v.l.length q1) (.slice a2 x.w.length q2) (.slice a3 x.c.length q3)).toArray) (by rw [hnt]; rfl) ((quiet_load (by rw [hty]; rfl) rfl (fun q => by cases q) (by simpa using hat) rfl).cast (by simp only [ldV]; rfl)) ?_
  simp only [itL]
  refine rn_ ?_; intros
  rename_i bp
  refine go_keep [0, 1] [0, 1] ?_
  refine st_ ?_
  refine x_held [(1, bp, .c 79 [.v (.int .i64 x.v.k), .v (.int .i64 x.v.n), .v (.slice a1 x.v.l.length q1), .v (.slice a2 x.w.length q2), .v (.slice a3 x.c.length q3)])] rfl (by rw [hP]; kernel_rfl) rfl rfl rfl ?_; refine st_ ?_
  refine h_take 1 rfl (by kernel_rfl) (by kernel_rfl) (by kernel_rfl) hQp (by rw [hnt]; rfl) (allIn (by repeat (first | exact trivial | refine ⟨rfl, ?_⟩))) (by first | exact Le.refl _ | assumption) (quiet_op (by rw [hty]; first | rfl | (refine st_ ?_; rfl))) ?_; refine st_ ?_
  refine h_take 2 rfl (by kernel_rfl) (by kernel_rfl) (by kernel_rfl) hQp (by rw [hnt]; rfl) (allIn (by repeat (first | exact trivial | refine ⟨rfl, ?_⟩))) (by first | exact Le.refl _ | assumption) (quiet_op (by rw [hty]; first | rfl | (refine st_ ?_; rfl))) ?_; refine st_ ?_
  refine h_take 3 rfl (by kernel_rfl) (by kernel_rfl) (by kernel_rfl) hQp (by rw [hnt]; rfl) (allIn (by repeat (first | exact trivial | refine ⟨rfl, ?_⟩))) (by first | exact Le.refl _ | assumption) (quiet_op (by rw [hty]; first | rfl | (refine st_ ?_; rfl))) ?_; refine st_ ?_
  refine h_one 0 rfl (by kernel_rfl) ?_
  refine go_call (by rw [hnt]; rfl) (by rw [hP]; kernel_rfl) rfl (hP ▸ steps_ok G) ?_
  rintro v G1 (hle : Le G G1) ⟨mp, rfl, hmp⟩
  refine rn_ ?_; intros
  refine h_hs (allIn (by repeat (first | exact trivial | refine ⟨rfl, ?_⟩))) (by first | exact Le.refl _ | assumption) ?_
  rcases arm_of x.v.k with ⟨hg, hk0, hk9, hk10, hk11, hk12⟩ | ⟨fid, hg, hcall, harm2⟩
  · have hsf : stepF f = (wrF, 0) := by rw [stepF, if_neg (by simp [hst]), hh]; simp [hk0, hk9, hk10, hk11, hk12]
    refine h_one 4 rfl (by kernel_rfl) ?_
    refine go_q (v := .tuple #[.nilFunc, .bool false]) (by rw [hnt]; rfl) ((quiet_lookupG (ok := true) (z := .nilFunc) (by rw [hty]; rfl) (by rw [hty]; rfl) (by rw [hP]; exact ⟨_, (by kernel_rfl : Tryd.prog.info? 89 = some Tryd.t89), rfl⟩) rfl rfl hmp).cast (by rw [hg]; rfl)) ?_
    simp only [fnV]
    refine rn_ ?_; intros
    refine h_hs (allIn (by repeat (first | exact trivial | refine ⟨rfl, ?_⟩))) (by first | exact Le.refl _ | assumption) ?_
    refine h_take 5 rfl (by kernel_rfl) (by kernel_rfl) (by kernel_rfl) hQp (by rw [hnt]; rfl) (allIn (by repeat (first | exact trivial | refine ⟨rfl, ?_⟩))) (by first | exact Le.refl _ | assumption) (quiet_op (by rw [hty]; first | rfl | (refine st_ ?_; rfl))) ?_; refine st_ ?_
    refine h_take 6 rfl (by kernel_rfl) (by kernel_rfl) (by kernel_rfl) hQp (by rw [hnt]; rfl) (allIn (by repeat (first | exact trivial | refine ⟨rfl, ?_⟩))) (by first | exact Le.refl _ | assumption) (quiet_op (by rw [hty]; first | rfl | (refine st_ ?_; rfl))) ?_; refine st_ ?_
    refine h_take 7 rfl (by kernel_rfl) (by kernel_rfl) (by kernel_rfl) hQp (by rw [hnt]; rfl) (allIn (by repeat (first | exact trivial | refine ⟨rfl, ?_⟩))) (by first | exact Le.refl _ | assumption) (quiet_op (by rw [hty]; first | rfl | (refine st_ ?_; rfl))) ?_; refine st_ ?_
    refine h_one 8 rfl (by kernel_rfl) ?_
    refine rn_ ?_; intros
    refine h_hs (allIn (by repeat (first | exact trivial | refine ⟨rfl, ?_⟩))) (by first | exact Le.refl _ | assumption) ?_
    refine h_one 9 rfl (by kernel_rfl) ?_
    refine rn_ ?_; intros
    refine h_hs (allIn (by repeat (first | exact trivial | refine ⟨rfl, ?_⟩))) (by first | exact Le.refl _ | assumption) ?_
    refine h_end (by kernel_rfl) ?_
    refine rn_ ?_; intros
    (refine x_split rfl rfl rfl (fun _ => ?_) (fun hc => absurd hc (by first | decide +kernel | (simp; first | done | fail))); refine st_ ?_; (refine ru_ ?_; intros))
    refine rn_ ?_; intros
    refine go_panic rfl rfl rfl ?_
    refine x_panWQ hQ hmb hmh hG0 hmub rfl rfl rfl (by simp only [enumO]; exact (by repeat (first | exact plain_nil | refine plain_cons (fun _ h => h) ?_))) ?_
    rw [hsf]
    exact ⟨rfl, rfl, _, _, _, _, rfl⟩
  · refine h_one 4 rfl (by kernel_rfl) ?_
    refine go_q (v := .tuple #[fnV fid, .bool true]) (by rw [hnt]; rfl) ((quiet_lookupG (ok := true) (z := .nilFunc) (by rw [hty]; rfl) (by rw [hty]; rfl) (by rw [hP]; exact ⟨_, (by kernel_rfl : Tryd.prog.info? 89 = some Tryd.t89), rfl⟩) rfl rfl hmp).cast (by rw [hg]; rfl)) ?_
    simp only [fnV]
    refine rn_ ?_; intros
    refine h_hs (allIn (by repeat (first | exact trivial | refine ⟨rfl, ?_⟩))) (by first | exact Le.refl _ | assumption) ?_
    refine h_take 5 rfl (by kernel_rfl) (by kernel_rfl) (by kernel_rfl) hQp (by rw [hnt]; rfl) (allIn (by repeat (first | exact trivial | refine ⟨rfl, ?_⟩))) (by first | exact Le.refl _ | assumption) (quiet_op (by rw [hty]; first | rfl | (refine st_ ?_; rfl))) ?_; refine st_ ?_
    refine h_take 6 rfl (by kernel_rfl) (by kernel_rfl) (by kernel_rfl) hQp (by rw [hnt]; rfl) (allIn (by repeat (first | exact trivial | refine ⟨rfl, ?_⟩))) (by first | exact Le.refl _ | assumption) (quiet_op (by rw [hty]; first | rfl | (refine st_ ?_; rfl))) ?_; refine st_ ?_
    refine h_take 7 rfl (by kernel_rfl) (by kernel_rfl) (by kernel_rfl) hQp (by rw [hnt]; rfl) (allIn (by repeat (first | exact trivial | refine ⟨rfl, ?_⟩))) (by first | exact Le.refl _ | assumption) (quiet_op (by rw [hty]; first | rfl | (refine st_ ?_; rfl))) ?_; refine st_ ?_
    refine h_one 8 rfl (by kernel_rfl) ?_
    refine rn_ ?_; intros
    refine h_hs (allIn (by repeat (first | exact trivial | refine ⟨rfl, ?_⟩))) (by first | exact Le.refl _ | assumption) ?_
    refine h_one 9 rfl (by kernel_rfl) ?_
    refine rn_ ?_; intros
    refine h_hs (allIn (by repeat (first | exact trivial | refine ⟨rfl, ?_⟩))) (by first | exact Le.refl _ | assumption) ?_
    refine h_end (by kernel_rfl) ?_
    refine rn_ ?_; intros
    (refine x_split rfl rfl rfl (fun hc => absurd hc (by first | decide +kernel | (simp; first | done | fail))) (fun _ => ?_); refine st_ ?_; (refine ru_ ?_; intros))
    refine rn_ ?_; intros
    refine go_q (v := .pointer (some ⟨b, 0, none⟩)) (by rw [hnt]; rfl) ((quiet_load (vs := fzD b) (by rw [hty]; rfl) rfl (by simp [TK.agg]) (hbf.mono hle) rfl).cast (by rfl)) ?_
    refine rn_ ?_; intros
    have harm1 : ArmH f x r G1 (.slice (some ⟨c0, o0, none⟩) f.l.length cl) sb sc (.slice a1 x.v.l.length q1) (.slice a2 x.w.length q2) (.slice a3 x.c.length q3) := ⟨h.B.mono hle, hst, hfl, h.cl, h.cb, h.cc, Rp.S_mono hle h.l, Rp.S_mono hle h.b, Rp.S_mono hle h.c, hrx.mono hle, h.v, h.w, h.bl, h.bb⟩
    refine go_callWQv [0] (ow := fzO b f.st (.slice (some ⟨c0, o0, none⟩) f.l.length cl) sb sc) (by rw [hnt]; rfl) rfl (by rw [hP]; exact hcall) rfl rfl rfl rfl rfl (.inr (by intro k hk; simp at hk; subst hk; rw [hmh]; omega)) (by rw [hP]; exact harm2 f x r G1 b _ _ _ _ _ _ rfl harm1) ?_ ?_
    · rintro v G2 ow (hle2 : Le G1 G2) ⟨sl', sb', sc', h1, h2, h3, h4, h5, h6, rfl⟩
      simp only [setO, fzO]
      refine st_ ?_
      refine rn_ ?_; intros
      refine x_endWQ hQ hmb hmh hG0 hmub rfl rfl rfl rfl (by simp only [enumO]; exact (by repeat (first | exact plain_nil | refine plain_cons (fun _ h => h) ?_))) ?_
      intro _
      exact ⟨sl', sb', sc', h1, h2, h3, h4, h5, h6, rfl⟩
    · rintro v G2 ow (hle2 : Le G1 G2) ⟨rfl, hwr, st', sl', sb', sc', rfl⟩
      simp only [setO, fzO]
      refine st_ ?_
      refine x_panWQ hQ hmb hmh hG0 hmub rfl rfl rfl (by simp only [enumO]; exact (by repeat (first | exact plain_nil | refine plain_cons (fun _ h => h) ?_))) ?_
      exact ⟨rfl, hwr, _, _, _, _, rfl⟩
theorem fstep_ok (f : Fc) (b : Nat) (sl sb sc : Value) (G : Hp) (h : FzH f G sl sb sc) :
    PureW Tryd.prog 17 [.pointer (some ⟨b, 0, none⟩)] G (fzO b f.st sl sb sc) (fun v G' ow => v = .int .i64 (stepF f).2 ∧ FzR G' (stepF f).1 b ow) := by
  refine enterW ty tyok Tryd.func17 rfl Tryd.ntmps17 [.p 0 b 0] (by simp) (mh := 1) rfl ?_
  intro C hP hQ hnt hty hmb hmh hro hG0 hmub; have hQp := qp_body hQ; refine st_ ?_
  simp only [enumO, fzO]
  refine rn_ ?_; intros
  rename_i bf
  refine go_callW [0] (ow := fzO b f.st sl sb sc) (by rw [hnt]; rfl) (by rw [hP]; kernel_rfl) rfl rfl rfl (.inr (by intro k hk; simp at hk; subst hk; rw [hmh]; omega)) (hP ▸ none_ok b f.st sl sb sc G) ?_
  rintro v G1 ow (hle1 : Le G G1) ⟨rfl, rfl⟩
  simp only [setO, fzO]
  refine st_ ?_
  refine rn_ ?_; intros
  (refine x_split rfl rfl rfl (fun hc => absurd hc (by simpa using h.z)) (fun _ => ?_); refine st_ ?_; (refine ru_ ?_; intros))
  refine rn_ ?_; intros
  by_cases hst : f.st = 1
  rotate_left
  · (refine x_split rfl rfl rfl (fun _ => ?_) (fun hc => absurd hc (by simpa using hst)); refine st_ ?_; (refine ru_ ?_; intros))
    refine rn_ ?_; intros
    refine x_retW rfl hQ hmb hmh hG0 hmub rfl rfl (by rw [hty]; simp only [so, sq, zy, zz, tyE, SO', SQ', opQ, opStore, opAlloc, ev, putS, dOk, cv, SV.cs, SV.one, SV.bool?, eqB, Value.oneCell', ldOwn, binInt, binConst, binBool, binStr, isC, TK.agg, rv, rv1, ldV, resOne, resV, Nat.reduceAdd, Nat.reduceMul, Nat.reduceSub, Nat.reduceLT, Nat.reduceLeDiff, Nat.reduceEqDiff, Nat.reduceBEq, reduceIte, reduceCtorEq, eq_self]; try rfl) rfl rfl (by simp only [enumO]; exact (by repeat (first | exact plain_nil | refine plain_cons (fun _ h => h) ?_))) ?_; simp only [SV.den, resV, dens]
    rw [stepF, if_pos hst]
    exact ⟨rfl, sl, sb, sc, h.cl, h.cb, h.cc, Rp.S_mono hle1 h.l, Rp.S_mono hle1 h.b, Rp.S_mono hle1 h.c, rfl⟩
  (refine x_split rfl rfl rfl (fun hc => absurd hc (by simpa using hst)) (fun _ => ?_); refine st_ ?_; (refine ru_ ?_; intros))
  refine rn_ ?_; intros
  refine go_pub 1 rfl (by omega) ?_
  intro G2 (hle2 : Le G1 G2) hbf0
  have hbf : At G2 bf 0 (fzD b) := at_cellsG hbf0
  have hle := hle1.trans hle2
  refine go_slot 11 (.v (.func (.func 41) #[] #[.pointer (some ⟨bf, 0, none⟩)])) rfl rfl ?_
  refine st_ ?_
  refine go_callW [0] (ow := fzO b f.st sl sb sc) (by rw [hnt]; rfl) (by rw [hP]; kernel_rfl) rfl rfl rfl (.inr (by intro k hk; simp at hk; subst hk; rw [hmh]; omega))
    (hP ▸ perform_ok (stepF f).1 41 [.pointer (some ⟨bf, 0, none⟩)] b f.st sl sb sc G2 (by kernel_rfl) fun G3 hle3 => step1_ok f bf b sl sb sc G3 (hbf.mono hle3) (h.mono (hle.trans hle3)) hst) ?_
  rintro v G3 ow (hle3 : Le G2 G3) ⟨sl', sb', sc', h1, h2, h3, h4, h5, h6, rfl⟩
  simp only [setO, fzO]
  refine st_ ?_
  refine rn_ ?_; intros
  refine x_retW rfl hQ hmb hmh hG0 hmub rfl rfl (by rw [hty]; simp only [so, sq, zy, zz, tyE, SO', SQ', opQ, opStore, opAlloc, ev, putS, dOk, cv, SV.cs, SV.one, SV.bool?, eqB, Value.oneCell', ldOwn, binInt, binConst, binBool, binStr, isC, TK.agg, rv, rv1, ldV, resOne, resV, Nat.reduceAdd, Nat.reduceMul, Nat.reduceSub, Nat.reduceLT, Nat.reduceLeDiff, Nat.reduceEqDiff, Nat.reduceBEq, reduceIte, reduceCtorEq, eq_self]; try rfl) rfl rfl (by simp only [enumO]; exact (by repeat (first | exact plain_nil | refine plain_cons (fun _ h => h) ?_))) ?_; simp only [SV.den, resV, dens]
  have e2 : (stepF f).2 = 0 := by
    have hl1 := h.s (.inl hst)
    obtain ⟨x, r, hfl⟩ : ∃ x r, f.l = x :: r := by
      cases hl : f.l with
      | nil => rw [hl] at hl1; simp at hl1
      | cons x r => exact ⟨x, r, rfl⟩
    rw [stepF, if_neg (by simp [hst]), hfl]
    simp only [List.head?_cons]
    repeat' split
    all_goals rfl
  rw [e2]
  exact ⟨rfl, sl', sb', sc', h1, h2, h3, h4, h5, h6, rfl⟩
end Go.Proofs.YthocgjchmpkhoaaDoor
