/-
  A symbolic walk over the model's code: panics, deferred closures. Names no program.
-/
import Derived.Test.YtpmmbjcgabnloaaZ2
import Derived.RecoverIn
import Derived.DefersIn
import Derived.ArgAppend
import Derived.Laws.BytesArg
import Derived.Laws.IdiomStrings
import Derived.WideLaws
set_option linter.unusedSimpArgs false
set_option linter.unusedVariables false
namespace Go.Sx
set_option linter.unusedSimpArgs false
set_option linter.unusedVariables false
open Go.RowKit
section
variable {P : Program} {ro : Option Nat} {Q : Exit → Act → World → Prop}
theorem wpK_pan (ch : List PanicEntry) : ∀ (K : List KI) (a : Act) (w : World), noBr K = true → Q (.panic ch) a w → wpK P ro Q K (.panic ch) a w
  | [], _, _, _, h => h
  | .code _ :: K, a, w, hn, h => wpK_pan ch K a w hn h
  | .loop _ :: K, a, w, hn, h => wpK_pan ch K a w hn h
  | .ops _ _ :: K, a, w, hn, h => wpK_pan ch K a w hn h
  | .q _ _ _ :: K, a, w, hn, h => wpK_pan ch K a w hn h
  | .h _ _ _ _ :: K, a, w, hn, h => wpK_pan ch K a w hn h
  | .hs _ :: K, a, w, hn, h => wpK_pan ch K a w hn h
  | .hu _ _ _ _ _ :: K, a, w, hn, h => wpK_pan ch K a w hn h
  | .blk _ :: K, a, w, hn, h => wpK_pan ch K a w hn h
  | .br _ :: _, _, _, hn, _ => by simp [noBr] at hn
def pE (v : Value) : PanicEntry := { v := v, recovered := false }
def RetP (w : World) (ow : Lds) (v : Value) : Ending → World → Prop := fun e w' =>
  e = .panicked [pE v] ∧ Fr w w' ∧ ∀ g, g < w.heap.size → ¬ mutOf ow g → w'.heap[g]? = w.heap[g]?
def rmAll : List Nat → Owns → Owns
  | [], own => own
  | k :: ks, own => rmAll ks (rmk k own)
theorem lk_rmAll : ∀ (ks : List Nat) (own : Owns) (k : Nat), lk k (rmAll ks own) = if k ∈ ks then none else lk k own
  | [], own, k => by simp [rmAll]
  | j :: ks, own, k => by
    rw [rmAll, lk_rmAll ks, lk_rmk]
    by_cases h : k ∈ ks <;> by_cases h' : k = j <;> simp [h, h']
variable {C : Ctx} {K : List KI} {s : St} {R : Array Oper} {l : List Oper} {d : Option Tmp} {t : TypeId} {pos : String} {aft : Array Edge}
theorem Mem.panicked {own : Owns} {G : Hp} {w w' : World} (h : Mem C own G w) {ks : List Nat} {ow : Lds} (hk : lkAll own ks = some ow) (hn : noDup ks = true) (hf : Fr w w') (hs : ∀ g, g < w.heap.size → ¬ mutOf ow g → w'.heap[g]? = w.heap[g]?) : Mem C (rmAll ks own) G w' := by
  obtain ⟨hl, hget⟩ := lkAll_get hk
  have hmut : ∀ g, mutOf ow g → ∃ k b o, k ∈ ks ∧ lk k own = some (b, o) ∧ o.mut b g := by
    rintro g ⟨i, b, o, hi, hm⟩
    have hlt : i < ks.length := by rw [← hl]; exact (List.getElem?_eq_some_iff.1 hi).1
    obtain ⟨x, hx, hxk⟩ := hget i ks[i] (List.getElem?_eq_getElem hlt)
    rw [hi] at hx; cases hx
    exact ⟨ks[i], b, o, List.getElem_mem hlt, hxk, hm⟩
  refine ⟨fun k b o e => ?_, fun k k' b b' o o' g e e' f f' => ?_, ?_⟩
  · rw [lk_rmAll] at e
    split at e
    · cases e
    · rename_i hkk
      obtain ⟨f1, f2⟩ := h.own _ _ _ e
      refine ⟨OO.holds_same f1 hf fun g hg => hs g (h.lt e hg) fun hm => ?_, f2⟩
      obtain ⟨j, b', o', hj, hjk, hjm⟩ := hmut g hm
      have := h.inj _ _ _ _ _ _ g e hjk hg (OO.mut_blks (h.own _ _ _ hjk).1 hjm)
      subst this; exact hkk hj
  · rw [lk_rmAll] at e e'
    split at e
    · cases e
    · split at e'
      · cases e'
      · exact h.inj _ _ _ _ _ _ _ e e' f f'
  · have hg := h.grow
    have hno : ∀ g, mutOf ow g → G g = none ∧ (C.w0.heap.size ≤ g ∨ g ∈ C.mb) := by
      intro g hm
      obtain ⟨j, b', o', hj, hjk, hjm⟩ := hmut g hm
      obtain ⟨q1, q2, q3⟩ := (h.own _ _ _ hjk).2 g hjm
      refine ⟨q1, ?_⟩
      rcases Nat.lt_or_ge j C.mh with r | r
      · exact (q3 r).symm
      · exact .inl (q2 r)
    refine ⟨hf.os.trans hg.os, hf.tape.trans hg.tape, hf.output.trans hg.output, Nat.le_trans hg.size hf.size, fun j hj hm => ?_, fun j x e => ?_, hg.old⟩
    · rw [hs j (by have := hg.size; omega) fun q => ?_]
      · exact hg.blk j hj hm
      · rcases (hno j q).2 with r | r
        · omega
        · exact hm r
    · have hlt := lt_of_heap (hg.has j x e)
      rw [hs j hlt fun q => by rw [(hno j q).1] at e; cases e]
      exact hg.has j x e
def SPan (C : Ctx) (v : Value) (s : St) : Prop := ∀ a w, Sat C s a w → C.Q (.panic [pE v]) a w
theorem Lent.of {own : Owns} {G : Hp} {w : World} (h : Mem C own G w) {ks : List Nat} {ow : Lds} (hk : lkAll own ks = some ow) (hn : noDup ks = true) : Lent ow G w := by
  obtain ⟨hl, hget⟩ := lkAll_get hk
  have hat : ∀ (i b : Nat) (o : OO), ow[i]? = some (b, o) → ∃ k, ks[i]? = some k ∧ lk k own = some (b, o) := by
    intro i b o hi
    have hlt : i < ks.length := by rw [← hl]; exact (List.getElem?_eq_some_iff.1 hi).1
    obtain ⟨x, hx, hxk⟩ := hget i ks[i] (List.getElem?_eq_getElem hlt)
    rw [hi] at hx; cases hx
    exact ⟨ks[i], List.getElem?_eq_getElem hlt, hxk⟩
  have hnd : ∀ (ks : List Nat), noDup ks = true → ∀ (i j k : Nat), ks[i]? = some k → ks[j]? = some k → i = j := by
    intro ks
    induction ks with
    | nil => intro _ i j k h; simp at h
    | cons x ks ih =>
      intro h i j k hi hj
      simp only [noDup, Bool.and_eq_true, Bool.not_eq_true', List.contains_eq_mem, decide_eq_false_iff_not] at h
      cases i <;> cases j
      · rfl
      · simp at hi hj; subst hi; exact absurd (List.mem_of_getElem? hj) h.1
      · simp at hi hj; subst hj; exact absurd (List.mem_of_getElem? hi) h.1
      · simp at hi hj; rw [ih h.2 _ _ k hi hj]
  refine ⟨fun i b o hi => ?_, fun i j b b' o o' g hi hj f f' => ?_⟩
  · obtain ⟨k, _, hk2⟩ := hat i b o hi
    obtain ⟨f1, f2⟩ := h.own _ _ _ hk2
    refine ⟨?_, fun g hg => (f2 g hg).1⟩
    cases o <;> exact f1
  · obtain ⟨k, hk1, hk2⟩ := hat i b o hi
    obtain ⟨k', hk1', hk2'⟩ := hat j b' o' hj
    have e := h.inj _ _ _ _ _ _ g hk2 hk2' f f'
    subst e
    exact hnd ks hn i j k hk1 hk1'
def RetWP (w : World) (G : Hp) (ow : Lds) (φ : Value → Hp → Lds → Prop) (ψ : Value → Prop) : Ending → World → Prop := fun e w' => RetW w G ow φ e w' ∨ ∃ v, ψ v ∧ RetP w ow v e w'
def PureWP (P : Program) (f : FuncId) (args : List Value) (G : Hp) (ow : Lds) (φ : Value → Hp → Lds → Prop) (ψ : Value → Prop) : Prop :=
  ∀ w, Has w G → Lent ow G w → Calls P f args.toArray w (RetWP w G ow φ ψ)
theorem op_enterP {o : Oper} {a : Act} {w w' : World} {f : FuncId} {args : Array Value} (hrun : (execOp a.eval o).run P w = .ok (.enter f args) w') {Q : Exit → Act → World → Prop} {next : Act → World → Prop}
    (h : Calls P f args w' fun e w'' => (∃ v, e = .returned v ∧ next (a.put o.dst v) w'') ∨ ∃ ch, e = .panicked ch ∧ Q (.panic ch) a w'') : o.wpIn (FR ro) 0 P a w next Q := by
  refine ⟨fun _ _ => trivial, ?_⟩
  have := semAt_run (ro := ro) hrun (by simp)
  show o.uponIn _ _ _ _ _ _ ((o.semAt ro a.eval).run P w)
  rw [this]
  refine ⟨FR_depth _ _, callsFR.2 (h.mono ?_)⟩
  rintro e w'' (⟨v, rfl, hv⟩ | ⟨ch, rfl, hv⟩)
  · exact hv
  · exact hv
theorem go_callWP (ks : List Nat) {f : FuncId} {args : Array Operand} {tys : Array TypeId} {vs : List SV} {ow : Lds} {φ : Value → Hp → Lds → Prop} {ψ : Value → Prop} (hd : dOk C.nt d = true) (hnb : noBr K = true) (hf : canCall C.P f = true) (ha : evs s.sl args.toList = some vs)
    (hk : lkAll s.own ks = some ow) (hn : noDup ks = true) (hks : (∀ k ∈ ks, C.mh ≤ k) ∨ (∀ k ∈ ks, k < C.mh)) (hc : PureWP C.P f (dens vs) s.G ow φ ψ)
    (h : ∀ v G' ow', Le s.G G' → φ v G' ow' → SGo C (.ops R l :: K) ⟨putS d (rv v) s.sl, setO ks ow' s.own, G', s.df⟩)
    (h' : ∀ v, ψ v → SPan C v ⟨s.sl, rmAll ks s.own, s.G, s.df⟩) : SGo C (.ops R (⟨d, .call ⟨.value (.func f), args, tys⟩, t, pos, aft, none⟩ :: l) :: K) s := by
  intro a w hS
  have hargs : args.map a.eval = (dens vs).toArray := by apply Array.ext'; rw [Array.toList_map]; exact evs_ok hS.sl ha
  have hrun : (execOp a.eval ⟨d, .call ⟨.value (.func f), args, tys⟩, t, pos, aft, none⟩).run C.P w = .ok (.enter f (dens vs).toArray) w := by
    simp only [execOp, resolve, hargs, Act.eval, Deferred.ofValue, Sem.run_bind, Sem.run_pure, Result.andThen_ok, invoke]
    simp [callFunc_ok hf]
  refine K_op rfl (op_enterP hrun ((hc w hS.mem.has (Lent.of hS.mem hk hn)).mono ?_))
  rintro e w' (⟨v, G', ow', rfl, q1, q2, q3, q4, q5, q6, q7, q8, q9⟩ | ⟨v, hv, rfl, hf', hs'⟩)
  · refine .inl ⟨v, rfl, ?_⟩
    have hm := hS.mem.lentM hk hn hks q1 q2 q3 q4 q5 q6 q7 q8
    have hle : Le s.G G' := fun b o e => by
      rw [q4 b (lt_of_heap (hS.mem.has b o e))]; exact e
    have hS' := hS.put hd (rv v) hm
    rw [rv_den] at hS'
    exact h v G' ow' hle q9 _ _ hS'
  · refine .inr ⟨_, rfl, wpK_pan _ (.ops R l :: K) a w' hnb (h' v hv a w' ⟨hS.sl, hS.nt, hS.df, hS.mem.panicked hk hn hf' hs'⟩)⟩
theorem go_panic {x : Operand} {y : SV} {T : TypeId} {v : Value} (hnb : noBr K = true) (hx : ev s.sl x = some y) (hy : y.den = .iface T v) (h : SPan C (.iface T v) s) : SGo C (.ops R (⟨d, .panic x, t, pos, aft, none⟩ :: l) :: K) s := by
  intro a w hS
  have hxv := ev_ok hS.sl hx
  rw [hy] at hxv
  refine K_op rfl ⟨fun _ _ => trivial, ?_⟩
  have hp : (Instr.panic (.iface T v)).run C.P w = .halt (.panic (.iface T v)) w := rfl
  have hrun : ∀ ro, ((⟨d, .panic x, t, pos, aft, none⟩ : Oper).semAt ro a.eval).run C.P w = .halt (.panic (.iface T v)) w := by
    intro ro
    cases ro <;> simp [Oper.semAt, execOp, hxv, hp, Sem.run_bind]
  show Oper.uponIn _ _ _ _ _ _ _ _
  rw [hrun]
  exact wpK_pan _ (.ops R l :: K) a w hnb (h a w hS)
theorem x_panWP {fn : Func} {G : Hp} {ow : Lds} {φ : Value → Hp → Lds → Prop} {ψ : Value → Prop} {v : Value} (hQ : C.Q = bodyPost C.P fn (RetWP C.w0 G ow φ ψ)) (hmb : ∀ g, g ∈ C.mb → mutOf ow g) (hdf : s.df = []) (h : ψ v) : SPan C v s := by
  intro a w hS
  rw [hQ]
  have hg := hS.mem.grow
  exact ⟨by rw [hS.df, hdf], .inr ⟨v, h, rfl, hg.fr, fun g hg1 hg2 => hg.blk g hg1 fun q => hg2 (hmb g q)⟩⟩
theorem enterWP {P : Program} {f : FuncId} {fn : Func} {G : Hp} {ow : Lds} {φ : Value → Hp → Lds → Prop} {ψ : Value → Prop} (ty : TypeId → Option TI) (tyok : ∀ T i, ty T = some i → i.ok P T) {nt : Nat}
    (hf : P.funcs[f]? = some fn) (hb : fn.body.isSome = true) (hn : fn.ntmps = nt) (svs : List SV) (hargs : svs.length ≤ nt) {mh : Nat} (hmh : ow.length = mh)
    (h : ∀ C : Ctx, C.P = P → C.Q = bodyPost C.P fn (RetWP C.w0 G ow φ ψ) → C.nt = nt → C.ty = ty → (∀ g, g ∈ C.mb → mutOf ow g) → C.mh = mh → C.ro = none → C.G0 = G → (∀ g, mutOf ow g → blkOf ow g) → SGo C [.code (fn.body.getD .skip)] ⟨enumS 0 svs, enumO 0 ow, G, []⟩) : PureWP P f (dens svs) G ow φ ψ := by
  intro w hw hL
  classical
  refine calls_of_wp hf (body_eq hb) ((wpIn_wide (n := 0)).1 ?_)
  have hlt : ∀ g, blkOf ow g → g < w.heap.size := fun g ⟨i, b, o, e, hg⟩ => OO.holds_lt (hL.own i b o e).1 hg
  have hml : ∀ g, mutOf ow g → g < w.heap.size := fun g ⟨i, b, o, e, hg⟩ => hlt g ⟨i, b, o, e, OO.mut_blks (hL.own i b o e).1 hg⟩
  have hmem : ∀ g, g ∈ (List.range w.heap.size).filter (fun g => decide (mutOf ow g)) ↔ mutOf ow g := fun g => by
    simp only [List.mem_filter, List.mem_range, decide_eq_true_eq]
    exact ⟨fun q => q.2, fun q => ⟨hml g q, q⟩⟩
  have hlk : ∀ k b o, lk k (enumO 0 ow) = some (b, o) → ow[k]? = some (b, o) := fun k b o e => by
    rw [lk_enumO] at e; simpa using e
  have := h ⟨P, bodyPost P fn (RetWP w G ow φ ψ), nt, ty, tyok, w, G, (List.range w.heap.size).filter (fun g => decide (mutOf ow g)), mh, none⟩ rfl rfl rfl rfl (fun g hg => (hmem g).1 hg) rfl rfl rfl (fun g ⟨i, b, o, e, hg⟩ => ⟨i, b, o, e, OO.mut_blks (hL.own i b o e).1 hg⟩) { tmps := (dens svs).toArray ++ Array.replicate (fn.ntmps - (dens svs).toArray.size) undef, defers := [] } w
    ⟨slots_args _ _ _ (fun i x e => by have := (lk_enumS svs 0 i x e).2; simpa using this), by simp [hn, dens_eq]; omega, rfl, ⟨fun k b o e => ?_, fun k k' b b' o o' g e e' f f' => ?_, Grow.refl hw⟩⟩
  · simp only [wpK] at this
    exact this
  · have e' := hlk _ _ _ e
    obtain ⟨h1, h2⟩ := hL.own _ _ _ e'
    refine ⟨h1, fun g hg => ⟨h2 g hg, fun q => ?_, fun _ => .inl ((hmem g).2 ⟨_, _, _, e', hg⟩)⟩⟩
    have hk : k < ow.length := by
      rcases Nat.lt_or_ge k ow.length with q | q
      · exact q
      · rw [List.getElem?_eq_none q] at e'; cases e'
    have q : mh ≤ k := q
    omega
  · exact hL.inj _ _ _ _ _ _ g (hlk _ _ _ e) (hlk _ _ _ e') f f'
def CloD (P : Program) (f : FuncId) (args : List Value) (G : Hp) (ow : Lds) (u : FrameMode) (φ : FrameMode → Hp → Lds → Prop) : Prop :=
  ∀ w, Has w G → Lent ow G w → CallsDIn Fence.wide 0 P f args.toArray u w fun e u' w' => RetW w G ow (fun _ G' ow' => φ u' G' ow') e w'
def dfn (f : FuncId) (cap : List Value) : Deferred := { target := .fn (.func f) cap.toArray, args := #[] }
theorem enterDf {P : Program} {f : FuncId} {fn : Func} {G : Hp} {φ : Value → Hp → Prop} (ty : TypeId → Option TI) (tyok : ∀ T i, ty T = some i → i.ok P T) {nt : Nat}
    (hf : P.funcs[f]? = some fn) (hb : fn.body.isSome = true) (hn : fn.ntmps = nt) (svs : List SV) (hargs : svs.length ≤ nt)
    (h : ∀ C : Ctx, C.P = P → C.Q = bodyPostDIn Fence.wide 0 C.P fn (Ret [] C.w0 C.G0 φ) → C.nt = nt → C.ty = ty → C.mb = [] → C.mh = 0 → C.ro = none → SGo C [.code (fn.body.getD .skip)] ⟨enumS 0 svs, [], G, []⟩) : Pure P f (dens svs) G φ := by
  intro w hw
  refine callsIn_wide.1 (callsIn_of_wp_defers (F := Fence.wide) (n := 0) hf (body_eq hb) trivial ?_)
  have := h ⟨P, bodyPostDIn Fence.wide 0 P fn (Ret [] w G φ), nt, ty, tyok, w, G, [], 0, none⟩ rfl rfl rfl rfl rfl rfl rfl { tmps := (dens svs).toArray ++ Array.replicate (fn.ntmps - (dens svs).toArray.size) undef, defers := [] } w
    ⟨slots_args _ _ _ (fun i x e => by have := (lk_enumS svs 0 i x e).2; simpa using this), by simp [hn, dens_eq]; omega, rfl, ⟨fun k b o e => by simp [lk] at e, fun k k' b b' o o' g e e' f f' => by simp [lk] at e, Grow.refl hw⟩⟩
  simp only [wpK] at this
  exact this
theorem go_defer (hro : C.ro = none) {x : Operand} {tys : Array TypeId} {f : FuncId} {cap : List Value} {y : SV} (hd : dOk C.nt d = true) (hx : ev s.sl x = some y) (hy : y.den = .func (.func f) #[] cap.toArray)
    (h : SGo C (.ops R l :: K) ⟨putS d (.v undef) s.sl, s.own, s.G, dfn f cap :: s.df⟩) : SGo C (.ops R (⟨d, .defer ⟨.value x, #[], tys⟩, t, pos, aft, none⟩ :: l) :: K) s := by
  intro a w hS
  have hxv := ev_ok hS.sl hx
  rw [hy] at hxv
  refine K_op rfl ⟨fun _ _ => trivial, ?_⟩
  have hrun : ((⟨d, .defer ⟨.value x, #[], tys⟩, t, pos, aft, none⟩ : Oper).semAt none a.eval).run C.P w = .ok (.defer (dfn f cap)) w := by
    simp [Oper.semAt, execOp, resolve, hxv, Deferred.ofValue, dfn, Sem.run_bind]
  show Oper.uponIn _ _ _ _ _ _ _ _
  have hrun' : ((⟨d, .defer ⟨.value x, #[], tys⟩, t, pos, aft, none⟩ : Oper).semAt (FR C.ro).round a.eval).run C.P w = .ok (.defer (dfn f cap)) w := by
    rw [hro]; exact hrun
  rw [hrun']
  show wpK _ _ _ _ _ _ _
  have hS' := hS.put hd (.v undef) hS.mem
  have e : ({ a with defers := dfn f cap :: a.defers } : Act).put d undef = { a.put d undef with defers := dfn f cap :: a.defers } := by cases d <;> rfl
  rw [e]
  exact h _ w ⟨hS'.sl, hS'.nt, by simp only []; rw [hS.df], hS'.mem⟩
theorem leave_clo {fn : Func} {φ : Value → Hp → Prop} {a : Act} {w : World} (hS : Sat C s a w) (hmb : C.mb = []) {f : FuncId} {cap : List Value} (hdf : s.df = [dfn f cap]) {u : FrameMode} (hu : u ≠ .run) (hf : canCall C.P f = true) {ks : List Nat} {ow : Lds}
    (hk : lkAll s.own ks = some ow) (hn : noDup ks = true) (hks : (∀ k ∈ ks, C.mh ≤ k) ∨ (∀ k ∈ ks, k < C.mh)) {ψ : FrameMode → Hp → Lds → Prop} (hc : CloD C.P f cap s.G ow u ψ)
    (h : ∀ u' G' ow', Le s.G G' → ψ u' G' ow' → settle u' = .returning ∧ ∃ xs, resAll s.sl C.ty (setO ks ow' s.own) fn.results.toList = some xs ∧ φ (resV xs).den G') :
    LeavesIn Fence.wide 0 C.P fn a.tmps (Ret [] C.w0 C.G0 φ) a.defers u w := by
  rw [hS.df, hdf]
  refine leavesIn_cons (f := f) (args := cap.toArray) hu (by simp [Fence.wide]) (by simp [invoke, callFunc_ok hf]) (fun _ _ => trivial) ?_
  refine (hc w hS.mem.has (Lent.of hS.mem hk hn)).mono ?_
  rintro e u' w' ⟨v, G', ow', rfl, q1, q2, q3, q4, q5, q6, q7, q8, q9⟩
  have hle : Le s.G G' := fun b o e => by
    rw [q4 b (lt_of_heap (hS.mem.has b o e))]; exact e
  obtain ⟨h1, xs, h2, h3⟩ := h u' G' ow' hle q9
  have hm := hS.mem.lentM hk hn hks q1 q2 q3 q4 q5 q6 q7 q8
  have hS' : Sat C ⟨s.sl, setO ks ow' s.own, G', s.df⟩ a w' := ⟨hS.sl, hS.nt, hS.df, hm⟩
  simp only [h1]
  have hg := hm.grow
  rw [hmb] at hg
  exact ⟨_, results_ok hS' h2, _, _, rfl, hg, h3⟩
theorem x_retD {kc : Code} (ht : tag kc = 7) {fn : Func} {φ : Value → Hp → Prop} (hQ : C.Q = bodyPostDIn Fence.wide 0 C.P fn (Ret [] C.w0 C.G0 φ)) (hmb : C.mb = []) {f : FuncId} {cap : List Value} (hdf : s.df = [dfn f cap]) (hf : canCall C.P f = true) {ks : List Nat} {ow : Lds}
    (hk : lkAll s.own ks = some ow) (hn : noDup ks = true) (hks : (∀ k ∈ ks, C.mh ≤ k) ∨ (∀ k ∈ ks, k < C.mh)) {ψ : FrameMode → Hp → Lds → Prop} (hc : CloD C.P f cap s.G ow .returning ψ)
    (h : ∀ u' G' ow', Le s.G G' → ψ u' G' ow' → settle u' = .returning ∧ ∃ xs, resAll s.sl C.ty (setO ks ow' s.own) fn.results.toList = some xs ∧ φ (resV xs).den G') (hnb : noBr K = true := by rfl) : SGo C (.code kc :: K) s := by
  intro a w hS
  cases kc <;> simp [tag] at ht
  · rename_i a b c; cases c <;> simp at ht
  refine wpIn_ret ?_
  rw [wpK_ret _ _ _ hnb, hQ]
  exact leave_clo hS hmb hdf (by simp) hf hk hn hks hc h
theorem x_panD {fn : Func} {φ : Value → Hp → Prop} {v : Value} (hQ : C.Q = bodyPostDIn Fence.wide 0 C.P fn (Ret [] C.w0 C.G0 φ)) (hmb : C.mb = []) {f : FuncId} {cap : List Value} (hdf : s.df = [dfn f cap]) (hf : canCall C.P f = true) {ks : List Nat} {ow : Lds}
    (hk : lkAll s.own ks = some ow) (hn : noDup ks = true) (hks : (∀ k ∈ ks, C.mh ≤ k) ∨ (∀ k ∈ ks, k < C.mh)) {ψ : FrameMode → Hp → Lds → Prop} (hc : CloD C.P f cap s.G ow (.panicking [pE v]) ψ)
    (h : ∀ u' G' ow', Le s.G G' → ψ u' G' ow' → settle u' = .returning ∧ ∃ xs, resAll s.sl C.ty (setO ks ow' s.own) fn.results.toList = some xs ∧ φ (resV xs).den G') : SPan C v s := by
  intro a w hS
  rw [hQ]
  exact leave_clo hS hmb hdf (by simp) hf hk hn hks hc h
end
end Go.Sx
namespace Go.Sx
set_option linter.unusedSimpArgs false
set_option linter.unusedVariables false
open Go.RowKit
section
variable {C : Ctx} {K : List KI} {s : St} {R : Array Oper} {l : List Oper} {d : Option Tmp} {t : TypeId} {pos : String} {aft : Array Edge} {sl : List (Nat × SV)} {own : Owns} {G : Hp}
end
end Go.Sx
namespace Go.Sx
set_option linter.unusedSimpArgs false
set_option linter.unusedVariables false
open Go.RowKit
section
variable {C : Ctx} {K : List KI} {s : St} {R : Array Oper} {l : List Oper} {d : Option Tmp} {t : TypeId} {pos : String} {aft : Array Edge} {v : Value}
theorem go_lend2 (k k2 : Nat) {f : FuncId} {args : Array Operand} {tys : Array TypeId} {vs : List SV} {b b2 g n cap size : Nat} {e e2 : TypeId} {xs : List Value} {cells : List SV} (hd : dOk C.nt d = true) (hf : canCall C.P f = true) (ha : evs s.sl args.toList = some vs)
    (hk : lk k s.own = some (b, .row (.slice (some ⟨g, 0, none⟩) n cap) e size n xs)) (hk2 : lk k2 s.own = some (b2, .c e2 cells)) (hc : ∀ G1, Le s.G G1 → At G1 g 0 xs → At G1 b2 0 (dens cells) → Pure C.P f (dens vs) G1 (fun r _ => r = v))
    (h : SGo C (.ops R l :: K) ⟨putS d (rv v) s.sl, s.own, s.G, s.df⟩) : SGo C (.ops R (⟨d, .call ⟨.value (.func f), args, tys⟩, t, pos, aft, none⟩ :: l) :: K) s := by
  intro a w hS
  have hargs : args.map a.eval = (dens vs).toArray := by apply Array.ext'; rw [Array.toList_map]; exact evs_ok hS.sl ha
  have hrun : (execOp a.eval ⟨d, .call ⟨.value (.func f), args, tys⟩, t, pos, aft, none⟩).run C.P w = .ok (.enter f (dens vs).toArray) w := by
    simp only [execOp, resolve, hargs, Act.eval, Deferred.ofValue, Sem.run_bind, Sem.run_pure, Result.andThen_ok, invoke]
    simp [callFunc_ok hf]
  obtain ⟨x, hx, hat⟩ := row_block (hS.mem.own _ _ _ hk).1
  obtain ⟨c1, c2⟩ := hS.mem.own _ _ _ hk2
  simp only [OO.holds] at c1
  have g1 := ((hS.mem.own _ _ _ hk).2 g rfl).1
  have g2 := (c2 b2 rfl).1
  have l1 : Le s.G (fun j => if j = g then some x else if j = b2 then w.heap[b2]? else s.G j) := by
    intro j y e
    have n1 : j ≠ g := by intro q; subst q; rw [g1] at e; cases e
    have n2 : j ≠ b2 := by intro q; subst q; rw [g2] at e; cases e
    simp [n1, n2, e]
  have l2 : Has w (fun j => if j = g then some x else if j = b2 then w.heap[b2]? else s.G j) := by
    intro j y e
    simp only at e
    split at e
    · rename_i q; subst q; cases e; exact hx
    · split at e
      · rename_i q; subst q; exact e
      · exact hS.mem.has j y e
  have l3 : (fun j => if j = g then some x else if j = b2 then w.heap[b2]? else s.G j : Hp) b2 = w.heap[b2]? := by
    simp only
    split
    · rename_i q; subst q; exact hx.symm
    · simp
  refine K_enter rfl hrun ((hc _ l1 (hat _ (by simp)) ⟨_, _, _, l3.trans c1, by simp, fun i hi => by simp [hi]⟩ w l2).mono ?_)
  rintro e w' ⟨v', G', rfl, hg, rfl⟩
  have hS' := hS.put hd (rv v') (hS.mem.stay hg)
  rw [rv_den] at hS'
  have := h _ _ hS'
  exact ⟨_, rfl, this⟩
theorem quiet_bin {sl : List (Nat × SV)} {own : Owns} {G : Hp} {op : BinOp} {k k' : IntKind} {m n : Int} {x y : Operand} {T T' : TypeId} {r : Value} {vx vy : SV} (hx : ev sl x = some vx) (hvx : vx.den = .int k m) (hy : ev sl y = some vy) (hvy : vy.den = .int k' n) (h : binConst op k k' m n = some r) :
    Quiet C sl own G (.binOp op T x y T') r := by
  intro aa w dd t pos aft g hsl hh
  have hxv := ev_ok hsl hx
  rw [hvx] at hxv
  have hyv := ev_ok hsl hy
  rw [hvy] at hyv
  simp only [execOp, hxv, hyv]
  rw [Sem.run_bind, binConst_ok h]
  simp
theorem shl_ok {k k' : IntKind} {m n : Int} (h : 0 ≤ n) : binConst .shl k k' m n = some (.int k (k.wrap (m * 2 ^ (min n.toNat k.bits)))) := by
  simp only [binConst]; rw [if_neg (by omega)]
end
end Go.Sx
namespace Go.Sx
set_option linter.unusedSimpArgs false
set_option linter.unusedVariables false
open Go.RowKit
section
variable {C : Ctx} {K : List KI} {s : St} {R : Array Oper} {l : List Oper} {d : Option Tmp} {t : TypeId} {pos : String} {aft : Array Edge} {v : Value} {α : Type}
theorem go_rowC (k : Nat) {b n size : Nat} {e : TypeId} {v : Value} {xs : List Value} (hk : lk k s.own = some (b, .row v e size n xs)) (h : ∀ ad cap, v = .slice ad n cap → n ≤ cap → SGo C K s) : SGo C K s :=
  go_rowcases k hk (fun hv hn0 _ => h none 0 (by rw [hv, hn0]) (by omega)) (fun g cap hv hc _ => h _ cap hv hc)
end
end Go.Sx
namespace Go.Proofs.Ytpmmbjcgabnloaa
set_option linter.unusedSimpArgs false
set_option linter.unusedVariables false
open Go.Sx
structure Op where
  th : Int
  kd : Int
  arg : VT
  res : VT
  fr : Int
  to : Int
  dn : Bool
abbrev opC (x : Op) (sa sr : Value) : List SV := [.v (.int .i64 x.th), .v (.int .i64 x.kd), .v (.int .i64 x.arg.k), .v (.int .i64 x.arg.n), .v sa, .v (.int .i64 x.res.k), .v (.int .i64 x.res.n), .v sr, .v (.int .i64 x.fr), .v (.int .i64 x.to), .v (.bool x.dn)]
def opL (x : Op) (sa sr : Value) : List Value := [.int .i64 x.th, .int .i64 x.kd, .int .i64 x.arg.k, .int .i64 x.arg.n, sa, .int .i64 x.res.k, .int .i64 x.res.n, sr, .int .i64 x.fr, .int .i64 x.to, .bool x.dn]
structure Op.ok (x : Op) : Prop where
  th : isI64 x.th
  kd : isI64 x.kd
  fr : isI64 x.fr
  to : isI64 x.to
  ba : tsz x.arg ≤ 1048576
  br : tsz x.res ≤ 1048576
structure Op.rep (G : Hp) (x : Op) (sa sr : Value) : Prop where
  ok : x.ok
  a : x.arg.rep G sa
  r : x.res.rep G sr
theorem Op.rep.mono {G G' : Hp} {x : Op} {sa sr : Value} (h : x.rep G sa sr) (hl : Le G G') : x.rep G' sa sr := ⟨h.ok, VT.rep_mono hl h.a, VT.rep_mono hl h.r⟩
def rO : Rp Op where
  size := 11
  e G x cs := ∃ sa sr, cs = opL x sa sr ∧ x.rep G sa sr
  mono hl h := by obtain ⟨sa, sr, h1, h2⟩ := h; exact ⟨sa, sr, h1, h2.mono hl⟩
  len h := by obtain ⟨sa, sr, rfl, _⟩ := h; rfl
  one h u hu := by
    obtain ⟨sa, sr, rfl, h2⟩ := h
    obtain ⟨_, _, rfl⟩ := VT.rep_slice h2.a
    obtain ⟨_, _, rfl⟩ := VT.rep_slice h2.r
    simp [opL] at hu
    rcases hu with rfl | rfl | rfl | rfl | rfl | rfl | rfl | rfl | rfl | rfl | rfl <;> rfl
theorem rO_at {G : Hp} {l : List Op} {ad : Option Addr} {n cap : Nat} (h : rO.S G l (.slice ad n cap)) {i : Nat} (hi : i < l.length) : ∃ b off sa sr, ad = some ⟨b, off, none⟩ ∧ At G b (off + i * 11) (opL l[i] sa sr) ∧ l[i].rep G sa sr := by
  obtain ⟨b, off, cap', c, hv, hat, sa, sr, rfl, h1⟩ := Rp.S_get h hi
  cases hv
  exact ⟨b, off, sa, sr, rfl, by simpa [rO] using hat, h1⟩
def vsm (x y : VT) : Bool := sml x && sml y && veq x y
def opEq (a b : Op) : Bool := a.th == b.th && a.kd == b.kd && vsm a.arg b.arg && vsm a.res b.res && a.fr == b.fr && a.to == b.to && a.dn == b.dn
def ahd (a b : Op) : Bool := a.dn && decide (a.to < b.fr)
theorem zlen (L : List VT) : ((L.length : Int) == 0) = L.isEmpty := by
  cases L with
  | nil => simp
  | cons x r => simp; omega
def zer (x : VT) : Bool := x.k == 0 && x.n == 0 && x.l.isEmpty
set_option maxHeartbeats 8000000
set_option maxRecDepth 20000
theorem num_ok (n : Int) (G : Hp) : Pure Try.prog 13 [.int .i64 n] G (fun r _ => r = .int .i64 n) := by
  refine enterX ty tyok Try.func13 rfl Try.ntmps13 [.v (.int .i64 n)] (by simp) ?_
  intro C hP hQ hnt hty hmb hmh hro; have hQp := qp_body hQ; refine st_ ?_
  refine rn_ ?_; intros
  refine x_ret rfl hQ hmb (by rw [hty]; rfl) rfl ?_; simp only [SV.den, resV]
theorem ahead_ok (a b : Op) (sa sr ta tr : Value) (G : Hp) (ha : a.rep G sa sr) (hb : b.rep G ta tr) : Pure Try.prog 25 [.agg (opL a sa sr).toArray, .agg (opL b ta tr).toArray] G (fun r _ => r = .bool (ahd a b)) := by
  refine enterX ty tyok Try.func25 rfl Try.ntmps25 [.a (opC a sa sr), .a (opC b ta tr)] (by simp) ?_
  simp only [opC]
  intro C hP hQ hnt hty hmb hmh hro; have hQp := qp_body hQ; refine st_ ?_
  refine rn_ ?_; intros
  refine go_gsplit rfl rfl (fun h1 => ?_) (fun h1 => ?_) <;> (refine st_ ?_; (refine rn_ ?_; intros))
  · refine rn_ ?_; intros
    refine x_retc rfl hQ hmb rfl (by rw [hty]; simp only [so, sq, zy, zz, tyE, SO', SQ', opQ, opStore, opAlloc, ev, putS, dOk, cv, SV.cs, SV.one, SV.bool?, eqB, Value.oneCell', ldOwn, binInt, binConst, binBool, binStr, isC, TK.agg, rv, rv1, ldV, resOne, resV, Nat.reduceAdd, Nat.reduceMul, Nat.reduceSub, Nat.reduceLT, Nat.reduceLeDiff, Nat.reduceEqDiff, Nat.reduceBEq, reduceIte, reduceCtorEq, eq_self]; try rfl) rfl ?_; simp only [SV.den, resV, dens]
    simp [ahd, h1]
  · refine rn_ ?_; intros
    refine x_retc rfl hQ hmb rfl (by rw [hty]; simp only [so, sq, zy, zz, tyE, SO', SQ', opQ, opStore, opAlloc, ev, putS, dOk, cv, SV.cs, SV.one, SV.bool?, eqB, Value.oneCell', ldOwn, binInt, binConst, binBool, binStr, isC, TK.agg, rv, rv1, ldV, resOne, resV, Nat.reduceAdd, Nat.reduceMul, Nat.reduceSub, Nat.reduceLT, Nat.reduceLeDiff, Nat.reduceEqDiff, Nat.reduceBEq, reduceIte, reduceCtorEq, eq_self]; try rfl) rfl ?_; simp only [SV.den, resV, dens]
    simp [ahd, h1]
theorem zero_ok (x : VT) (sl : Value) (G : Hp) (hr : x.rep G sl) : Pure Try.prog 64 [.agg #[.int .i64 x.k, .int .i64 x.n, sl]] G (fun r _ => r = .bool (zer x)) := by
  obtain ⟨ad, cap, rfl⟩ := VT.rep_slice hr
  refine enterX ty tyok Try.func64 rfl Try.ntmps64 [.a [.v (.int .i64 x.k), .v (.int .i64 x.n), .v _]] (by simp) ?_
  intro C hP hQ hnt hty hmb hmh hro; have hQp := qp_body hQ; refine st_ ?_
  refine rn_ ?_; intros
  refine go_gsplit rfl rfl (fun h1 => ?_) (fun h1 => ?_) <;> (refine st_ ?_; (refine rn_ ?_; intros))
  · refine go_gsplit rfl rfl (fun h2 => ?_) (fun h2 => ?_) <;> (refine st_ ?_; (refine rn_ ?_; intros))
    · refine rn_ ?_; intros
      refine x_retc rfl hQ hmb rfl (by rw [hty]; simp only [so, sq, zy, zz, tyE, SO', SQ', opQ, opStore, opAlloc, ev, putS, dOk, cv, SV.cs, SV.one, SV.bool?, eqB, Value.oneCell', ldOwn, binInt, binConst, binBool, binStr, isC, TK.agg, rv, rv1, ldV, resOne, resV, Nat.reduceAdd, Nat.reduceMul, Nat.reduceSub, Nat.reduceLT, Nat.reduceLeDiff, Nat.reduceEqDiff, Nat.reduceBEq, reduceIte, reduceCtorEq, eq_self]; try rfl) rfl ?_; simp only [SV.den, resV, dens]
      simp at h1 h2
      simp [zer, h1, h2]
      try exact zlen _
    · refine rn_ ?_; intros
      refine x_retc rfl hQ hmb rfl (by rw [hty]; simp only [so, sq, zy, zz, tyE, SO', SQ', opQ, opStore, opAlloc, ev, putS, dOk, cv, SV.cs, SV.one, SV.bool?, eqB, Value.oneCell', ldOwn, binInt, binConst, binBool, binStr, isC, TK.agg, rv, rv1, ldV, resOne, resV, Nat.reduceAdd, Nat.reduceMul, Nat.reduceSub, Nat.reduceLT, Nat.reduceLeDiff, Nat.reduceEqDiff, Nat.reduceBEq, reduceIte, reduceCtorEq, eq_self]; try rfl) rfl ?_; simp only [SV.den, resV, dens]
      simp at h1 h2
      simp [zer, h1, h2]
      try exact zlen _
  · repeat (refine go_gundef rfl (by rw [hnt]; rfl) rfl ?_; (refine st_ ?_; (refine rn_ ?_; intros)))
    refine rn_ ?_; intros
    refine x_retc rfl hQ hmb rfl (by rw [hty]; simp only [so, sq, zy, zz, tyE, SO', SQ', opQ, opStore, opAlloc, ev, putS, dOk, cv, SV.cs, SV.one, SV.bool?, eqB, Value.oneCell', ldOwn, binInt, binConst, binBool, binStr, isC, TK.agg, rv, rv1, ldV, resOne, resV, Nat.reduceAdd, Nat.reduceMul, Nat.reduceSub, Nat.reduceLT, Nat.reduceLeDiff, Nat.reduceEqDiff, Nat.reduceBEq, reduceIte, reduceCtorEq, eq_self]; try rfl) rfl ?_; simp only [SV.den, resV, dens]
    simp at h1
    simp [zer, h1]
theorem rzero_ok (x : VT) (sl : Value) (G : Hp) (hr : x.rep G sl) : Pure Try.prog 67 [.agg #[.int .i64 x.k, .int .i64 x.n, sl]] G (fun r _ => r = .bool (zer x)) := by
  obtain ⟨ad, cap, rfl⟩ := VT.rep_slice hr
  refine enterX ty tyok Try.func67 rfl Try.ntmps67 [.a [.v (.int .i64 x.k), .v (.int .i64 x.n), .v _]] (by simp) ?_
  intro C hP hQ hnt hty hmb hmh hro; have hQp := qp_body hQ; refine st_ ?_
  refine rn_ ?_; intros
  refine go_gsplit rfl rfl (fun h1 => ?_) (fun h1 => ?_) <;> (refine st_ ?_; (refine rn_ ?_; intros))
  · refine go_gsplit rfl rfl (fun h2 => ?_) (fun h2 => ?_) <;> (refine st_ ?_; (refine rn_ ?_; intros))
    · refine rn_ ?_; intros
      refine x_retc rfl hQ hmb rfl (by rw [hty]; simp only [so, sq, zy, zz, tyE, SO', SQ', opQ, opStore, opAlloc, ev, putS, dOk, cv, SV.cs, SV.one, SV.bool?, eqB, Value.oneCell', ldOwn, binInt, binConst, binBool, binStr, isC, TK.agg, rv, rv1, ldV, resOne, resV, Nat.reduceAdd, Nat.reduceMul, Nat.reduceSub, Nat.reduceLT, Nat.reduceLeDiff, Nat.reduceEqDiff, Nat.reduceBEq, reduceIte, reduceCtorEq, eq_self]; try rfl) rfl ?_; simp only [SV.den, resV, dens]
      simp at h1 h2
      simp [zer, h1, h2]
      try exact zlen _
    · refine rn_ ?_; intros
      refine x_retc rfl hQ hmb rfl (by rw [hty]; simp only [so, sq, zy, zz, tyE, SO', SQ', opQ, opStore, opAlloc, ev, putS, dOk, cv, SV.cs, SV.one, SV.bool?, eqB, Value.oneCell', ldOwn, binInt, binConst, binBool, binStr, isC, TK.agg, rv, rv1, ldV, resOne, resV, Nat.reduceAdd, Nat.reduceMul, Nat.reduceSub, Nat.reduceLT, Nat.reduceLeDiff, Nat.reduceEqDiff, Nat.reduceBEq, reduceIte, reduceCtorEq, eq_self]; try rfl) rfl ?_; simp only [SV.den, resV, dens]
      simp at h1 h2
      simp [zer, h1, h2]
      try exact zlen _
  · repeat (refine go_gundef rfl (by rw [hnt]; rfl) rfl ?_; (refine st_ ?_; (refine rn_ ?_; intros)))
    refine rn_ ?_; intros
    refine x_retc rfl hQ hmb rfl (by rw [hty]; simp only [so, sq, zy, zz, tyE, SO', SQ', opQ, opStore, opAlloc, ev, putS, dOk, cv, SV.cs, SV.one, SV.bool?, eqB, Value.oneCell', ldOwn, binInt, binConst, binBool, binStr, isC, TK.agg, rv, rv1, ldV, resOne, resV, Nat.reduceAdd, Nat.reduceMul, Nat.reduceSub, Nat.reduceLT, Nat.reduceLeDiff, Nat.reduceEqDiff, Nat.reduceBEq, reduceIte, reduceCtorEq, eq_self]; try rfl) rfl ?_; simp only [SV.den, resV, dens]
    simp at h1
    simp [zer, h1]
theorem rsame_ok (a b : Op) (sa sr ta tr : Value) (G : Hp) (ha : a.rep G sa sr) (hb : b.rep G ta tr) : Pure Try.prog 14 [.agg (opL a sa sr).toArray, .agg (opL b ta tr).toArray] G (fun r _ => r = .bool (opEq a b)) := by
  have h1a := ha.ok.ba
  have h1b := ha.ok.br
  have h2a := hb.ok.ba
  have h2b := hb.ok.br
  refine enterX ty tyok Try.func14 rfl Try.ntmps14 [.a (opC a sa sr), .a (opC b ta tr)] (by simp) ?_
  simp only [opC]
  rw [opEq]
  intro C hP hQ hnt hty hmb hmh hro; have hQp := qp_body hQ; refine st_ ?_
  refine rn_ ?_; intros
  refine go_gsplit rfl rfl (fun h1 => ?_) (fun h1 => ?_) <;> (refine st_ ?_; (refine rn_ ?_; intros))
  · refine go_gsplit rfl rfl (fun h2 => ?_) (fun h2 => ?_) <;> (refine st_ ?_; (refine rn_ ?_; intros))
    · refine go_call (by rw [hnt]; rfl) (by rw [hP]; kernel_rfl) rfl (hP ▸ refSame_ok a.arg b.arg _ _ G ha.a hb.a (by omega) (by omega)) ?_
      rintro v G1 (hle1 : Le G G1) rfl
      refine rn_ ?_; intros
      refine go_gsplit rfl rfl (fun h3 => ?_) (fun h3 => ?_) <;> (refine st_ ?_; (refine rn_ ?_; intros))
      · refine go_call (by rw [hnt]; rfl) (by rw [hP]; kernel_rfl) rfl (hP ▸ refSame_ok a.res b.res _ _ G1 (VT.rep_mono hle1 ha.r) (VT.rep_mono hle1 hb.r) (by omega) (by omega)) ?_
        rintro v G2 (hle2 : Le G1 G2) rfl
        refine rn_ ?_; intros
        refine go_gsplit rfl rfl (fun h4 => ?_) (fun h4 => ?_) <;> (refine st_ ?_; (refine rn_ ?_; intros))
        · refine go_gsplit rfl rfl (fun h5 => ?_) (fun h5 => ?_) <;> (refine st_ ?_; (refine rn_ ?_; intros))
          · refine go_gsplit rfl rfl (fun h6 => ?_) (fun h6 => ?_) <;> (refine st_ ?_; (refine rn_ ?_; intros))
            · refine rn_ ?_; intros
              refine x_retc rfl hQ hmb rfl (by rw [hty]; simp only [so, sq, zy, zz, tyE, SO', SQ', opQ, opStore, opAlloc, ev, putS, dOk, cv, SV.cs, SV.one, SV.bool?, eqB, Value.oneCell', ldOwn, binInt, binConst, binBool, binStr, isC, TK.agg, rv, rv1, ldV, resOne, resV, Nat.reduceAdd, Nat.reduceMul, Nat.reduceSub, Nat.reduceLT, Nat.reduceLeDiff, Nat.reduceEqDiff, Nat.reduceBEq, reduceIte, reduceCtorEq, eq_self]; try rfl) rfl ?_; simp only [SV.den, resV, dens]
              simp only [beq_iff_eq] at h1 h2 h5 h6
              simp [vsm] at h3 h4 ⊢
              simp [h1, h2, h3, h4, h5, h6]
            · refine rn_ ?_; intros
              refine x_retc rfl hQ hmb rfl (by rw [hty]; simp only [so, sq, zy, zz, tyE, SO', SQ', opQ, opStore, opAlloc, ev, putS, dOk, cv, SV.cs, SV.one, SV.bool?, eqB, Value.oneCell', ldOwn, binInt, binConst, binBool, binStr, isC, TK.agg, rv, rv1, ldV, resOne, resV, Nat.reduceAdd, Nat.reduceMul, Nat.reduceSub, Nat.reduceLT, Nat.reduceLeDiff, Nat.reduceEqDiff, Nat.reduceBEq, reduceIte, reduceCtorEq, eq_self]; try rfl) rfl ?_; simp only [SV.den, resV, dens]
              simp [h1, h2, h6]
          · repeat (refine go_gundef rfl (by rw [hnt]; rfl) rfl ?_; (refine st_ ?_; (refine rn_ ?_; intros)))
            refine rn_ ?_; intros
            refine x_retc rfl hQ hmb rfl (by rw [hty]; simp only [so, sq, zy, zz, tyE, SO', SQ', opQ, opStore, opAlloc, ev, putS, dOk, cv, SV.cs, SV.one, SV.bool?, eqB, Value.oneCell', ldOwn, binInt, binConst, binBool, binStr, isC, TK.agg, rv, rv1, ldV, resOne, resV, Nat.reduceAdd, Nat.reduceMul, Nat.reduceSub, Nat.reduceLT, Nat.reduceLeDiff, Nat.reduceEqDiff, Nat.reduceBEq, reduceIte, reduceCtorEq, eq_self]; try rfl) rfl ?_; simp only [SV.den, resV, dens]
            simp [h1, h2, h5]
        · repeat (refine go_gundef rfl (by rw [hnt]; rfl) rfl ?_; (refine st_ ?_; (refine rn_ ?_; intros)))
          refine rn_ ?_; intros
          refine x_retc rfl hQ hmb rfl (by rw [hty]; simp only [so, sq, zy, zz, tyE, SO', SQ', opQ, opStore, opAlloc, ev, putS, dOk, cv, SV.cs, SV.one, SV.bool?, eqB, Value.oneCell', ldOwn, binInt, binConst, binBool, binStr, isC, TK.agg, rv, rv1, ldV, resOne, resV, Nat.reduceAdd, Nat.reduceMul, Nat.reduceSub, Nat.reduceLT, Nat.reduceLeDiff, Nat.reduceEqDiff, Nat.reduceBEq, reduceIte, reduceCtorEq, eq_self]; try rfl) rfl ?_; simp only [SV.den, resV, dens]
          simp [vsm, h1, h2, h4]
      · repeat (refine go_gundef rfl (by rw [hnt]; rfl) rfl ?_; (refine st_ ?_; (refine rn_ ?_; intros)))
        refine rn_ ?_; intros
        refine x_retc rfl hQ hmb rfl (by rw [hty]; simp only [so, sq, zy, zz, tyE, SO', SQ', opQ, opStore, opAlloc, ev, putS, dOk, cv, SV.cs, SV.one, SV.bool?, eqB, Value.oneCell', ldOwn, binInt, binConst, binBool, binStr, isC, TK.agg, rv, rv1, ldV, resOne, resV, Nat.reduceAdd, Nat.reduceMul, Nat.reduceSub, Nat.reduceLT, Nat.reduceLeDiff, Nat.reduceEqDiff, Nat.reduceBEq, reduceIte, reduceCtorEq, eq_self]; try rfl) rfl ?_; simp only [SV.den, resV, dens]
        simp [vsm, h1, h2, h3]
    · repeat (refine go_gundef rfl (by rw [hnt]; rfl) rfl ?_; (refine st_ ?_; (refine rn_ ?_; intros)))
      refine rn_ ?_; intros
      refine x_retc rfl hQ hmb rfl (by rw [hty]; simp only [so, sq, zy, zz, tyE, SO', SQ', opQ, opStore, opAlloc, ev, putS, dOk, cv, SV.cs, SV.one, SV.bool?, eqB, Value.oneCell', ldOwn, binInt, binConst, binBool, binStr, isC, TK.agg, rv, rv1, ldV, resOne, resV, Nat.reduceAdd, Nat.reduceMul, Nat.reduceSub, Nat.reduceLT, Nat.reduceLeDiff, Nat.reduceEqDiff, Nat.reduceBEq, reduceIte, reduceCtorEq, eq_self]; try rfl) rfl ?_; simp only [SV.den, resV, dens]
      simp [h1, h2]
  · repeat (refine go_gundef rfl (by rw [hnt]; rfl) rfl ?_; (refine st_ ?_; (refine rn_ ?_; intros)))
    refine rn_ ?_; intros
    refine x_retc rfl hQ hmb rfl (by rw [hty]; simp only [so, sq, zy, zz, tyE, SO', SQ', opQ, opStore, opAlloc, ev, putS, dOk, cv, SV.cs, SV.one, SV.bool?, eqB, Value.oneCell', ldOwn, binInt, binConst, binBool, binStr, isC, TK.agg, rv, rv1, ldV, resOne, resV, Nat.reduceAdd, Nat.reduceMul, Nat.reduceSub, Nat.reduceLT, Nat.reduceLeDiff, Nat.reduceEqDiff, Nat.reduceBEq, reduceIte, reduceCtorEq, eq_self]; try rfl) rfl ?_; simp only [SV.den, resV, dens]
    simp [h1]
end Go.Proofs.Ytpmmbjcgabnloaa
namespace Go.Proofs.Ytpmmbjcgabnloaa
set_option linter.unusedSimpArgs false
set_option linter.unusedVariables false
open Go.Sx
set_option maxHeartbeats 8000000
set_option maxRecDepth 20000
theorem pair_ok (a b : Int) (G : Hp) (ha : isI64 a) (hb : isI64 b) : Pure Try.prog 31 [.int .i64 a, .int .i64 b] G (fun v G' => ∃ sl, v = .agg #[.int .i64 3, .int .i64 0, sl] ∧ (VT.mk 3 0 [.mk 2 a [], .mk 2 b []]).rep G' sl) := by
  refine enterX ty tyok Try.func31 rfl Try.ntmps31 [.v (.int .i64 a), .v (.int .i64 b)] (by simp) ?_
  intro C hP hQ hnt hty hmb hmh hro; have hQp := qp_body hQ; refine st_ ?_
  refine rn_ ?_; intros
  refine go_callf (by rw [hnt]; rfl) (by rw [hP]; kernel_rfl) rfl (hP ▸ refint_ok a _) ?_; refine rn_ ?_; intros
  refine go_callf (by rw [hnt]; rfl) (by rw [hP]; kernel_rfl) rfl (hP ▸ refint_ok b _) ?_; refine rn_ ?_; intros
  rename_i b0 b1
  refine go_pub 1 rfl (by omega) ?_
  intro G1 (hle1 : Le G G1) hG1
  have hat := at_block hG1
  simp only [dens, SV.den] at hat
  refine x_retc rfl hQ hmb rfl (by rw [hty]; simp only [so, sq, zy, zz, tyE, SO', SQ', opQ, opStore, opAlloc, ev, putS, dOk, cv, SV.cs, SV.one, SV.bool?, eqB, Value.oneCell', ldOwn, binInt, binConst, binBool, binStr, isC, TK.agg, rv, rv1, ldV, resOne, resV, Nat.reduceAdd, Nat.reduceMul, Nat.reduceSub, Nat.reduceLT, Nat.reduceLeDiff, Nat.reduceEqDiff, Nat.reduceBEq, reduceIte, reduceCtorEq, eq_self]; try rfl) rfl ?_; simp only [SV.den, resV, dens]
  refine ⟨_, rfl, rep_iff.2 ⟨by simp [isI64], by simp [isI64], by simp, some ⟨b1, 0, none⟩, 2, rfl, .inr ⟨b1, 0, _, rfl, hat, ?_⟩⟩⟩
  simp only [repV]
  exact ⟨_, _, rfl, rep_leaf _ 2 a (by simp [isI64]) ha, _, _, rfl, rep_leaf _ 2 b (by simp [isI64]) hb, rfl⟩
theorem of_ok (k a r fr to : Int) (G : Hp) : Pure Try.prog 32 [.int .i64 k, .int .i64 a, .int .i64 r, .int .i64 fr, .int .i64 to] G (fun v _ => v = .agg (opL ⟨0, k, .mk 2 a [], .mk 2 r [], fr, to, true⟩ (.slice none 0 0) (.slice none 0 0)).toArray) := by
  refine enterX ty tyok Try.func32 rfl Try.ntmps32 [.v (.int .i64 k), .v (.int .i64 a), .v (.int .i64 r), .v (.int .i64 fr), .v (.int .i64 to)] (by simp) ?_
  intro C hP hQ hnt hty hmb hmh hro; have hQp := qp_body hQ; refine st_ ?_
  refine rn_ ?_; intros
  refine go_callf (by rw [hnt]; rfl) (by rw [hP]; kernel_rfl) rfl (hP ▸ refint_ok a _) ?_; refine rn_ ?_; intros
  refine go_callf (by rw [hnt]; rfl) (by rw [hP]; kernel_rfl) rfl (hP ▸ refint_ok r _) ?_; refine rn_ ?_; intros
  refine x_retc rfl hQ hmb rfl (by rw [hty]; simp only [so, sq, zy, zz, tyE, SO', SQ', opQ, opStore, opAlloc, ev, putS, dOk, cv, SV.cs, SV.one, SV.bool?, eqB, Value.oneCell', ldOwn, binInt, binConst, binBool, binStr, isC, TK.agg, rv, rv1, ldV, resOne, resV, Nat.reduceAdd, Nat.reduceMul, Nat.reduceSub, Nat.reduceLT, Nat.reduceLeDiff, Nat.reduceEqDiff, Nat.reduceBEq, reduceIte, reduceCtorEq, eq_self]; try rfl) rfl ?_; simp only [SV.den, resV, dens]
  rfl
def kns (m : Int) : Int := if m = 1 ∨ m = 2 ∨ m = 3 then 2 else if m = 4 then 3 else 0
theorem kinds_ok (m : Int) (G : Hp) : Pure Try.prog 55 [.int .i64 m] G (fun v _ => v = .int .i64 (kns m)) := by
  refine enterX ty tyok Try.func55 rfl Try.ntmps55 [.v (.int .i64 m)] (by simp) ?_
  intro C hP hQ hnt hty hmb hmh hro; have hQp := qp_body hQ; refine st_ ?_
  refine rn_ ?_; intros
  refine x_split rfl rfl rfl (fun h1 => ?_) (fun h1 => ?_) <;> (refine st_ ?_; (refine ru_ ?_; intros))
  · refine rn_ ?_; intros
    refine x_retc rfl hQ hmb rfl (by rw [hty]; simp only [so, sq, zy, zz, tyE, SO', SQ', opQ, opStore, opAlloc, ev, putS, dOk, cv, SV.cs, SV.one, SV.bool?, eqB, Value.oneCell', ldOwn, binInt, binConst, binBool, binStr, isC, TK.agg, rv, rv1, ldV, resOne, resV, Nat.reduceAdd, Nat.reduceMul, Nat.reduceSub, Nat.reduceLT, Nat.reduceLeDiff, Nat.reduceEqDiff, Nat.reduceBEq, reduceIte, reduceCtorEq, eq_self]; try rfl) rfl ?_; simp only [SV.den, resV, dens]
    simp at h1
    rw [kns, if_pos (by omega)]
  refine x_split rfl rfl rfl (fun h2 => ?_) (fun h2 => ?_) <;> (refine st_ ?_; (refine ru_ ?_; intros))
  · refine rn_ ?_; intros
    refine x_retc rfl hQ hmb rfl (by rw [hty]; simp only [so, sq, zy, zz, tyE, SO', SQ', opQ, opStore, opAlloc, ev, putS, dOk, cv, SV.cs, SV.one, SV.bool?, eqB, Value.oneCell', ldOwn, binInt, binConst, binBool, binStr, isC, TK.agg, rv, rv1, ldV, resOne, resV, Nat.reduceAdd, Nat.reduceMul, Nat.reduceSub, Nat.reduceLT, Nat.reduceLeDiff, Nat.reduceEqDiff, Nat.reduceBEq, reduceIte, reduceCtorEq, eq_self]; try rfl) rfl ?_; simp only [SV.den, resV, dens]
    simp at h1 h2
    rw [kns, if_pos (by omega)]
  refine x_split rfl rfl rfl (fun h3 => ?_) (fun h3 => ?_) <;> (refine st_ ?_; (refine ru_ ?_; intros))
  · refine rn_ ?_; intros
    refine x_retc rfl hQ hmb rfl (by rw [hty]; simp only [so, sq, zy, zz, tyE, SO', SQ', opQ, opStore, opAlloc, ev, putS, dOk, cv, SV.cs, SV.one, SV.bool?, eqB, Value.oneCell', ldOwn, binInt, binConst, binBool, binStr, isC, TK.agg, rv, rv1, ldV, resOne, resV, Nat.reduceAdd, Nat.reduceMul, Nat.reduceSub, Nat.reduceLT, Nat.reduceLeDiff, Nat.reduceEqDiff, Nat.reduceBEq, reduceIte, reduceCtorEq, eq_self]; try rfl) rfl ?_; simp only [SV.den, resV, dens]
    simp at h1 h2 h3
    rw [kns, if_pos (by omega)]
  refine x_split rfl rfl rfl (fun h4 => ?_) (fun h4 => ?_) <;> (refine st_ ?_; (refine ru_ ?_; intros))
  · refine rn_ ?_; intros
    refine x_retc rfl hQ hmb rfl (by rw [hty]; simp only [so, sq, zy, zz, tyE, SO', SQ', opQ, opStore, opAlloc, ev, putS, dOk, cv, SV.cs, SV.one, SV.bool?, eqB, Value.oneCell', ldOwn, binInt, binConst, binBool, binStr, isC, TK.agg, rv, rv1, ldV, resOne, resV, Nat.reduceAdd, Nat.reduceMul, Nat.reduceSub, Nat.reduceLT, Nat.reduceLeDiff, Nat.reduceEqDiff, Nat.reduceBEq, reduceIte, reduceCtorEq, eq_self]; try rfl) rfl ?_; simp only [SV.den, resV, dens]
    simp at h1 h2 h3 h4
    rw [kns, if_neg (by omega), if_pos (by omega)]
  · refine rn_ ?_; intros
    refine x_retc rfl hQ hmb rfl (by rw [hty]; simp only [so, sq, zy, zz, tyE, SO', SQ', opQ, opStore, opAlloc, ev, putS, dOk, cv, SV.cs, SV.one, SV.bool?, eqB, Value.oneCell', ldOwn, binInt, binConst, binBool, binStr, isC, TK.agg, rv, rv1, ldV, resOne, resV, Nat.reduceAdd, Nat.reduceMul, Nat.reduceSub, Nat.reduceLT, Nat.reduceLeDiff, Nat.reduceEqDiff, Nat.reduceBEq, reduceIte, reduceCtorEq, eq_self]; try rfl) rfl ?_; simp only [SV.den, resV, dens]
    simp at h1 h2 h3 h4
    rw [kns, if_neg (by omega), if_neg (by omega)]
end Go.Proofs.Ytpmmbjcgabnloaa
namespace Go.Proofs.Ytpmmbjcgabnloaa
set_option linter.unusedSimpArgs false
set_option linter.unusedVariables false
open Go.Sx
set_option maxHeartbeats 8000000
set_option maxRecDepth 20000
def rV : Rp VT where
  size := 3
  e G x cs := ∃ sl, cs = [.int .i64 x.k, .int .i64 x.n, sl] ∧ x.rep G sl ∧ tsz x ≤ 1048576
  mono hl h := by obtain ⟨sl, h1, h2, h3⟩ := h; exact ⟨sl, h1, VT.rep_mono hl h2, h3⟩
  len h := by obtain ⟨sl, rfl, _⟩ := h; rfl
  one h u hu := by
    obtain ⟨sl, rfl, h2, _⟩ := h
    obtain ⟨_, _, rfl⟩ := VT.rep_slice h2
    simp at hu
    rcases hu with rfl | rfl | rfl <;> rfl
theorem rV_at {G : Hp} {l : List VT} {ad : Option Addr} {n cap : Nat} (h : rV.S G l (.slice ad n cap)) {i : Nat} (hi : i < l.length) : ∃ b off sl, ad = some ⟨b, off, none⟩ ∧ At G b (off + i * 3) [.int .i64 l[i].k, .int .i64 l[i].n, sl] ∧ l[i].rep G sl ∧ tsz l[i] ≤ 1048576 := by
  obtain ⟨b, off, cap', c, hv, hat, sl, rfl, h1⟩ := Rp.S_get h hi
  cases hv
  exact ⟨b, off, sl, rfl, by simpa [rV] using hat, h1⟩
structure Po where
  nm : VT
  pt : Int
def rPo : Rp Po where
  size := 4
  e G x cs := ∃ sl, cs = [.int .i64 x.nm.k, .int .i64 x.nm.n, sl, .int .i64 x.pt] ∧ x.nm.rep G sl ∧ tsz x.nm ≤ 1048576 ∧ isI64 x.pt
  mono hl h := by obtain ⟨sl, h1, h2, h3⟩ := h; exact ⟨sl, h1, VT.rep_mono hl h2, h3⟩
  len h := by obtain ⟨sl, rfl, _⟩ := h; rfl
  one h u hu := by
    obtain ⟨sl, rfl, h2, _⟩ := h
    obtain ⟨_, _, rfl⟩ := VT.rep_slice h2
    simp at hu
    rcases hu with rfl | rfl | rfl | rfl <;> rfl
theorem rPo_at {G : Hp} {l : List Po} {ad : Option Addr} {n cap : Nat} (h : rPo.S G l (.slice ad n cap)) {i : Nat} (hi : i < l.length) : ∃ b off sl, ad = some ⟨b, off, none⟩ ∧ At G b (off + i * 4) [.int .i64 l[i].nm.k, .int .i64 l[i].nm.n, sl, .int .i64 l[i].pt] ∧ l[i].nm.rep G sl ∧ tsz l[i].nm ≤ 1048576 ∧ isI64 l[i].pt := by
  obtain ⟨b, off, cap', c, hv, hat, sl, rfl, h1⟩ := Rp.S_get h hi
  cases hv
  exact ⟨b, off, sl, rfl, by simpa [rPo] using hat, h1⟩
def rgtO (K : Int) (o : Op) : Bool := decide (0 ≤ o.th) && decide (0 ≤ o.kd) && decide (o.kd < K) && decide (0 ≤ o.fr) && vld o.arg && if o.dn then vld o.res && decide (o.fr ≤ o.to) else zer o.res && o.to == 0
theorem chk_eq0 (x : VT) : (chk x == 0) = vld x := by rw [chk]; cases vld x <;> rfl
theorem chk_ne0 (x : VT) : (chk x != 0) = !vld x := by rw [chk]; cases vld x <;> rfl
def fewO (l : List Op) (m : Int) : Bool := decide ((l.length : Int) ≤ m) && l.all fun o => decide (cnt o.arg 0 ≤ 40) && decide (cnt o.res 0 ≤ 40)
theorem opAt2 {G : Hp} {b off : Nat} {x : Op} {sa sr : Value} (h : At G b off (opL x sa sr)) : At G b (off + 2) [.int .i64 x.arg.k, .int .i64 x.arg.n, sa] := by simpa [opL] using h.sub 2 3 (by simp [opL])
theorem opAt5 {G : Hp} {b off : Nat} {x : Op} {sa sr : Value} (h : At G b off (opL x sa sr)) : At G b (off + 5) [.int .i64 x.res.k, .int .i64 x.res.n, sr] := by simpa [opL] using h.sub 5 3 (by simp [opL])
theorem few_ok (l : List Op) (s1 : Value) (m : Int) (G : Hp) (h1 : rO.S G l s1) : Pure Try.prog 16 [s1, .int .i64 m] G (fun r _ => r = .bool (fewO l m)) := by
  have h10 := h1
  obtain ⟨ad1, cap1, rfl⟩ := Rp.S_slice h1
  have h63 := Rp.S_len h1
  refine enterX ty tyok Try.func16 rfl Try.ntmps16 [.v (.slice ad1 l.length cap1), .v (.int .i64 m)] (by simp) ?_
  intro C hP hQ hnt hty hmb hmh hro; have hQp := qp_body hQ; refine st_ ?_
  refine rn_ ?_; intros
  refine x_split rfl rfl rfl (fun hm => ?_) (fun hm => ?_) <;> (refine st_ ?_; (refine ru_ ?_; intros))
  · refine rn_ ?_; intros
    refine x_retc rfl hQ hmb rfl (by rw [hty]; simp only [so, sq, zy, zz, tyE, SO', SQ', opQ, opStore, opAlloc, ev, putS, dOk, cv, SV.cs, SV.one, SV.bool?, eqB, Value.oneCell', ldOwn, binInt, binConst, binBool, binStr, isC, TK.agg, rv, rv1, ldV, resOne, resV, Nat.reduceAdd, Nat.reduceMul, Nat.reduceSub, Nat.reduceLT, Nat.reduceLeDiff, Nat.reduceEqDiff, Nat.reduceBEq, reduceIte, reduceCtorEq, eq_self]; try rfl) rfl ?_; simp only [SV.den, resV, dens]
    have := of_decide_eq_true hm
    rw [fewO, decide_eq_false (by omega)]; rfl
  have hm' := of_decide_eq_false hm
  have hfe : fewO l m = (l.all fun o => decide (cnt o.arg 0 ≤ 40) && decide (cnt o.res 0 ≤ 40)) := by rw [fewO, decide_eq_true (by omega), Bool.true_and]
  refine rn_ ?_; intros
  refine go_keep [0, 5] [] ?_
  refine st_ ?_
  refine x_loop rfl (fun q s => ∃ (k : Nat) (G' : Hp), k ≤ l.length ∧ q = l.length - k ∧ Le G G' ∧ (l.all fun o => decide (cnt o.arg 0 ≤ 40) && decide (cnt o.res 0 ≤ 40)) = ((l.drop k).all fun o => decide (cnt o.arg 0 ≤ 40) && decide (cnt o.res 0 ≤ 40)) ∧
    s = ⟨[(0, .v (.slice ad1 l.length cap1)), (5, .v (.int .i64 k))], [], G', []⟩) ⟨0, G, by omega, rfl, Le.refl _, rfl, rfl⟩ ?_
  rintro q s ⟨k, G1, hk, hq, hle, hinv, rfl⟩ ih
  refine rn_ ?_; intros
  refine x_if rfl rfl rfl rfl (fun hjl => ?_) (fun hjl => ?_)
  · have hlt : k < l.length := by simp at hjl; omega
    obtain ⟨c1, o1, sa, sr, rfl, hat, hrep⟩ := rO_at h10 (i := k) hlt
    rw [List.drop_eq_getElem_cons hlt, List.all_cons] at hinv
    have ba := hrep.ok.ba
    have br := hrep.ok.br
    refine rn_ ?_; intros
    refine go_q (by rw [hnt]; rfl) (quiet_index (by rw [hty]; rfl) (by rw [hty]; rfl) rfl rfl rfl (by omega) (by omega)) ?_
    refine rn_ ?_; intros
    refine go_q (by rw [hnt]; rfl) (quiet_load (by rw [hty]; rfl) rfl (by simp [TK.agg]) (opAt2 (hat.mono hle)) rfl) ?_
    refine rn_ ?_; intros
    refine go_call (by rw [hnt]; rfl) (by rw [hP]; kernel_rfl) rfl (hP ▸ refsize_ok l[k].arg sa G1 (VT.rep_mono hle hrep.a) (by omega)) ?_
    rintro v G2 (hle2 : Le G1 G2) rfl
    refine rn_ ?_; intros
    refine go_gsplit rfl rfl (fun ha => ?_) (fun ha => ?_) <;> (refine st_ ?_; (refine rn_ ?_; intros))
    · repeat (refine go_gundef rfl (by rw [hnt]; rfl) rfl ?_; (refine st_ ?_; (refine rn_ ?_; intros)))
      refine rn_ ?_; intros
      refine x_retc rfl hQ hmb rfl (by rw [hty]; simp only [so, sq, zy, zz, tyE, SO', SQ', opQ, opStore, opAlloc, ev, putS, dOk, cv, SV.cs, SV.one, SV.bool?, eqB, Value.oneCell', ldOwn, binInt, binConst, binBool, binStr, isC, TK.agg, rv, rv1, ldV, resOne, resV, Nat.reduceAdd, Nat.reduceMul, Nat.reduceSub, Nat.reduceLT, Nat.reduceLeDiff, Nat.reduceEqDiff, Nat.reduceBEq, reduceIte, reduceCtorEq, eq_self]; try rfl) rfl ?_; simp only [SV.den, resV, dens]
      have := of_decide_eq_true ha
      rw [hfe, hinv, decide_eq_false (by omega)]; rfl
    have ha' := of_decide_eq_false ha
    rw [decide_eq_true (by omega), Bool.true_and] at hinv
    refine go_q (by rw [hnt]; rfl) (quiet_index (by rw [hty]; rfl) (by rw [hty]; rfl) rfl rfl rfl (by omega) (by omega)) ?_
    refine rn_ ?_; intros
    refine go_q (by rw [hnt]; rfl) (quiet_load (by rw [hty]; rfl) rfl (by simp [TK.agg]) (opAt5 (hat.mono (hle.trans hle2))) rfl) ?_
    refine rn_ ?_; intros
    refine go_call (by rw [hnt]; rfl) (by rw [hP]; kernel_rfl) rfl (hP ▸ refsize_ok l[k].res sr G2 (VT.rep_mono (hle.trans hle2) hrep.r) (by omega)) ?_
    rintro v G3 (hle3 : Le G2 G3) rfl
    refine rn_ ?_; intros
    refine x_split rfl rfl rfl (fun hb => ?_) (fun hb => ?_) <;> (refine st_ ?_; (refine ru_ ?_; intros))
    · refine rn_ ?_; intros
      refine x_retc rfl hQ hmb rfl (by rw [hty]; simp only [so, sq, zy, zz, tyE, SO', SQ', opQ, opStore, opAlloc, ev, putS, dOk, cv, SV.cs, SV.one, SV.bool?, eqB, Value.oneCell', ldOwn, binInt, binConst, binBool, binStr, isC, TK.agg, rv, rv1, ldV, resOne, resV, Nat.reduceAdd, Nat.reduceMul, Nat.reduceSub, Nat.reduceLT, Nat.reduceLeDiff, Nat.reduceEqDiff, Nat.reduceBEq, reduceIte, reduceCtorEq, eq_self]; try rfl) rfl ?_; simp only [SV.den, resV, dens]
      have := of_decide_eq_true hb
      rw [hfe, hinv, decide_eq_false (by omega)]; rfl
    have hb' := of_decide_eq_false hb
    rw [decide_eq_true (by omega), Bool.true_and] at hinv
    refine rn_ ?_; intros
    rw [wr (n := (k : Int) + 1) (by omega) (by omega)]
    refine go_keep [0, 5] [] ?_
    refine st_ ?_
    exact ih (l.length - (k + 1)) _ (by omega) ⟨k + 1, G3, by omega, rfl, hle.trans (hle2.trans hle3), hinv, by simp⟩
  · have hge : k = l.length := by simp at hjl; omega
    subst hge
    refine rn_ ?_; intros
    refine x_retc rfl hQ hmb rfl (by rw [hty]; simp only [so, sq, zy, zz, tyE, SO', SQ', opQ, opStore, opAlloc, ev, putS, dOk, cv, SV.cs, SV.one, SV.bool?, eqB, Value.oneCell', ldOwn, binInt, binConst, binBool, binStr, isC, TK.agg, rv, rv1, ldV, resOne, resV, Nat.reduceAdd, Nat.reduceMul, Nat.reduceSub, Nat.reduceLT, Nat.reduceLeDiff, Nat.reduceEqDiff, Nat.reduceBEq, reduceIte, reduceCtorEq, eq_self]; try rfl) rfl ?_; simp only [SV.den, resV, dens]
    rw [hfe, hinv, List.drop_length]; rfl
theorem valid_ok2 (K mo : Int) (pt : Bool) (fn : Value) (o : Op) (sa sr : Value) (G : Hp) (hfn : fn.oneCell' = true) (ho : o.rep G sa sr) : Pure Try.prog 41 [.agg #[.int .i64 K, .int .i64 mo, .bool pt, fn], .agg (opL o sa sr).toArray] G (fun r _ => r = .bool (rgtO K o)) := by
  refine enterX ty tyok Try.func41 rfl Try.ntmps41 [.a [.v (.int .i64 K), .v (.int .i64 mo), .v (.bool pt), .v fn], .a (opC o sa sr)] (by simp) ?_
  simp only [opC]
  intro C hP hQ hnt hty hmb hmh hro; have hQp := qp_body hQ; refine st_ ?_
  refine rn_ ?_; intros
  refine go_gsplit rfl rfl (fun h1 => ?_) (fun h1 => ?_) <;> (refine st_ ?_; (refine rn_ ?_; intros))
  · repeat (refine go_gundef rfl (by rw [hnt]; rfl) rfl ?_; (refine st_ ?_; (refine rn_ ?_; intros)))
    refine rn_ ?_; intros
    refine x_retc rfl hQ hmb rfl (by rw [hty]; simp only [so, sq, zy, zz, tyE, SO', SQ', opQ, opStore, opAlloc, ev, putS, dOk, cv, SV.cs, SV.one, SV.bool?, eqB, Value.oneCell', ldOwn, binInt, binConst, binBool, binStr, isC, TK.agg, rv, rv1, ldV, resOne, resV, Nat.reduceAdd, Nat.reduceMul, Nat.reduceSub, Nat.reduceLT, Nat.reduceLeDiff, Nat.reduceEqDiff, Nat.reduceBEq, reduceIte, reduceCtorEq, eq_self]; try rfl) rfl ?_; simp only [SV.den, resV, dens]
    have := of_decide_eq_true h1
    simp [rgtO]
    intros
    omega
  refine go_gsplit rfl rfl (fun h2 => ?_) (fun h2 => ?_) <;> (refine st_ ?_; (refine rn_ ?_; intros))
  · repeat (refine go_gundef rfl (by rw [hnt]; rfl) rfl ?_; (refine st_ ?_; (refine rn_ ?_; intros)))
    refine rn_ ?_; intros
    refine x_retc rfl hQ hmb rfl (by rw [hty]; simp only [so, sq, zy, zz, tyE, SO', SQ', opQ, opStore, opAlloc, ev, putS, dOk, cv, SV.cs, SV.one, SV.bool?, eqB, Value.oneCell', ldOwn, binInt, binConst, binBool, binStr, isC, TK.agg, rv, rv1, ldV, resOne, resV, Nat.reduceAdd, Nat.reduceMul, Nat.reduceSub, Nat.reduceLT, Nat.reduceLeDiff, Nat.reduceEqDiff, Nat.reduceBEq, reduceIte, reduceCtorEq, eq_self]; try rfl) rfl ?_; simp only [SV.den, resV, dens]
    have := of_decide_eq_true h2
    simp [rgtO]
    intros
    omega
  refine go_gsplit rfl rfl (fun h3 => ?_) (fun h3 => ?_) <;> (refine st_ ?_; (refine rn_ ?_; intros))
  · repeat (refine go_gundef rfl (by rw [hnt]; rfl) rfl ?_; (refine st_ ?_; (refine rn_ ?_; intros)))
    refine rn_ ?_; intros
    refine x_retc rfl hQ hmb rfl (by rw [hty]; simp only [so, sq, zy, zz, tyE, SO', SQ', opQ, opStore, opAlloc, ev, putS, dOk, cv, SV.cs, SV.one, SV.bool?, eqB, Value.oneCell', ldOwn, binInt, binConst, binBool, binStr, isC, TK.agg, rv, rv1, ldV, resOne, resV, Nat.reduceAdd, Nat.reduceMul, Nat.reduceSub, Nat.reduceLT, Nat.reduceLeDiff, Nat.reduceEqDiff, Nat.reduceBEq, reduceIte, reduceCtorEq, eq_self]; try rfl) rfl ?_; simp only [SV.den, resV, dens]
    have := of_decide_eq_true h3
    simp [rgtO]
    intros
    omega
  refine go_gsplit rfl rfl (fun h4 => ?_) (fun h4 => ?_) <;> (refine st_ ?_; (refine rn_ ?_; intros))
  · repeat (refine go_gundef rfl (by rw [hnt]; rfl) rfl ?_; (refine st_ ?_; (refine rn_ ?_; intros)))
    refine rn_ ?_; intros
    refine x_retc rfl hQ hmb rfl (by rw [hty]; simp only [so, sq, zy, zz, tyE, SO', SQ', opQ, opStore, opAlloc, ev, putS, dOk, cv, SV.cs, SV.one, SV.bool?, eqB, Value.oneCell', ldOwn, binInt, binConst, binBool, binStr, isC, TK.agg, rv, rv1, ldV, resOne, resV, Nat.reduceAdd, Nat.reduceMul, Nat.reduceSub, Nat.reduceLT, Nat.reduceLeDiff, Nat.reduceEqDiff, Nat.reduceBEq, reduceIte, reduceCtorEq, eq_self]; try rfl) rfl ?_; simp only [SV.den, resV, dens]
    have := of_decide_eq_true h4
    simp [rgtO]
    intros
    omega
  have p1 := of_decide_eq_false h1
  have p2 := of_decide_eq_false h2
  have p3 := of_decide_eq_false h3
  have p4 := of_decide_eq_false h4
  have hrg : rgtO K o = (vld o.arg && if o.dn then vld o.res && decide (o.fr ≤ o.to) else zer o.res && o.to == 0) := by
    rw [rgtO, decide_eq_true (by omega), decide_eq_true (by omega), decide_eq_true (by omega), decide_eq_true (by omega)]; rfl
  refine go_callf (by rw [hnt]; rfl) (by rw [hP]; kernel_rfl) rfl (hP ▸ check_ok o.arg sa _ ho.a) ?_; refine rn_ ?_; intros
  refine x_split rfl rfl rfl (fun h5 => ?_) (fun h5 => ?_) <;> (refine st_ ?_; (refine ru_ ?_; intros))
  · refine rn_ ?_; intros
    refine x_retc rfl hQ hmb rfl (by rw [hty]; simp only [so, sq, zy, zz, tyE, SO', SQ', opQ, opStore, opAlloc, ev, putS, dOk, cv, SV.cs, SV.one, SV.bool?, eqB, Value.oneCell', ldOwn, binInt, binConst, binBool, binStr, isC, TK.agg, rv, rv1, ldV, resOne, resV, Nat.reduceAdd, Nat.reduceMul, Nat.reduceSub, Nat.reduceLT, Nat.reduceLeDiff, Nat.reduceEqDiff, Nat.reduceBEq, reduceIte, reduceCtorEq, eq_self]; try rfl) rfl ?_; simp only [SV.den, resV, dens]
    rw [hrg]
    have : (chk o.arg != 0) = true := h5
    rw [chk] at this
    split at this
    · simp at this
    · rename_i h; simp at h; rw [h]; rfl
  have hva : vld o.arg = true := by
    have : (chk o.arg != 0) = false := h5
    rw [chk] at this
    split at this
    · assumption
    · simp at this
  rw [hva, Bool.true_and] at hrg
  refine rn_ ?_; intros
  refine x_split rfl rfl rfl (fun hd => ?_) (fun hd => ?_) <;> (refine st_ ?_; (refine ru_ ?_; intros))
  · rw [if_pos hd] at hrg
    refine go_callf (by rw [hnt]; rfl) (by rw [hP]; kernel_rfl) rfl (hP ▸ check_ok o.res sr _ ho.r) ?_; refine rn_ ?_; intros
    rw [chk_eq0]
    refine go_gsplit rfl rfl (fun h6 => ?_) (fun h6 => ?_) <;> (refine st_ ?_; (refine rn_ ?_; intros))
    · refine rn_ ?_; intros
      refine x_retc rfl hQ hmb rfl (by rw [hty]; simp only [so, sq, zy, zz, tyE, SO', SQ', opQ, opStore, opAlloc, ev, putS, dOk, cv, SV.cs, SV.one, SV.bool?, eqB, Value.oneCell', ldOwn, binInt, binConst, binBool, binStr, isC, TK.agg, rv, rv1, ldV, resOne, resV, Nat.reduceAdd, Nat.reduceMul, Nat.reduceSub, Nat.reduceLT, Nat.reduceLeDiff, Nat.reduceEqDiff, Nat.reduceBEq, reduceIte, reduceCtorEq, eq_self]; try rfl) rfl ?_; simp only [SV.den, resV, dens]
      rw [hrg, h6, Bool.true_and]
    · refine rn_ ?_; intros
      refine x_retc rfl hQ hmb rfl (by rw [hty]; simp only [so, sq, zy, zz, tyE, SO', SQ', opQ, opStore, opAlloc, ev, putS, dOk, cv, SV.cs, SV.one, SV.bool?, eqB, Value.oneCell', ldOwn, binInt, binConst, binBool, binStr, isC, TK.agg, rv, rv1, ldV, resOne, resV, Nat.reduceAdd, Nat.reduceMul, Nat.reduceSub, Nat.reduceLT, Nat.reduceLeDiff, Nat.reduceEqDiff, Nat.reduceBEq, reduceIte, reduceCtorEq, eq_self]; try rfl) rfl ?_; simp only [SV.den, resV, dens]
      rw [hrg, h6, Bool.false_and]
  · rw [if_neg (by rw [hd]; decide)] at hrg
    refine go_callf (by rw [hnt]; rfl) (by rw [hP]; kernel_rfl) rfl (hP ▸ zero_ok o.res sr _ ho.r) ?_; refine rn_ ?_; intros
    refine go_gsplit rfl rfl (fun h6 => ?_) (fun h6 => ?_) <;> (refine st_ ?_; (refine rn_ ?_; intros))
    · refine rn_ ?_; intros
      refine x_retc rfl hQ hmb rfl (by rw [hty]; simp only [so, sq, zy, zz, tyE, SO', SQ', opQ, opStore, opAlloc, ev, putS, dOk, cv, SV.cs, SV.one, SV.bool?, eqB, Value.oneCell', ldOwn, binInt, binConst, binBool, binStr, isC, TK.agg, rv, rv1, ldV, resOne, resV, Nat.reduceAdd, Nat.reduceMul, Nat.reduceSub, Nat.reduceLT, Nat.reduceLeDiff, Nat.reduceEqDiff, Nat.reduceBEq, reduceIte, reduceCtorEq, eq_self]; try rfl) rfl ?_; simp only [SV.den, resV, dens]
      rw [hrg, h6, Bool.true_and]
    · refine rn_ ?_; intros
      refine x_retc rfl hQ hmb rfl (by rw [hty]; simp only [so, sq, zy, zz, tyE, SO', SQ', opQ, opStore, opAlloc, ev, putS, dOk, cv, SV.cs, SV.one, SV.bool?, eqB, Value.oneCell', ldOwn, binInt, binConst, binBool, binStr, isC, TK.agg, rv, rv1, ldV, resOne, resV, Nat.reduceAdd, Nat.reduceMul, Nat.reduceSub, Nat.reduceLT, Nat.reduceLeDiff, Nat.reduceEqDiff, Nat.reduceBEq, reduceIte, reduceCtorEq, eq_self]; try rfl) rfl ?_; simp only [SV.den, resV, dens]
      rw [hrg, h6, Bool.false_and]
theorem rright_ok2 (m : Int) (o : Op) (sa sr : Value) (G : Hp) (ho : o.rep G sa sr) : Pure Try.prog 45 [.int .i64 m, .agg (opL o sa sr).toArray] G (fun r _ => r = .bool (rgtO (kns m) o)) := by
  have ba := ho.ok.ba
  have br := ho.ok.br
  generalize hK : kns m = K
  refine enterX ty tyok Try.func45 rfl Try.ntmps45 [.v (.int .i64 m), .a (opC o sa sr)] (by simp) ?_
  simp only [opC]
  intro C hP hQ hnt hty hmb hmh hro; have hQp := qp_body hQ; refine st_ ?_
  refine rn_ ?_; intros
  refine x_draw rfl (by rw [hP]; kernel_rfl) rfl (by kernel_rfl) ?_
  refine runq 400 hty hnt ?_; refine st_ ?_
  refine go_qsplit rfl rfl (fun h1 => ?_) (fun h1 => ?_) <;> (refine st_ ?_; (try (refine runq 400 hty hnt ?_; refine st_ ?_)))
  · repeat (refine q_gundef rfl (by rw [hnt]; rfl) rfl ?_; (refine st_ ?_; (try (refine runq 400 hty hnt ?_; refine st_ ?_))))
    refine q_end ?_; refine rn_ ?_; intros
    refine rn_ ?_; intros
    refine x_retc rfl hQ hmb rfl (by rw [hty]; simp only [so, sq, zy, zz, tyE, SO', SQ', opQ, opStore, opAlloc, ev, putS, dOk, cv, SV.cs, SV.one, SV.bool?, eqB, Value.oneCell', ldOwn, binInt, binConst, binBool, binStr, isC, TK.agg, rv, rv1, ldV, resOne, resV, Nat.reduceAdd, Nat.reduceMul, Nat.reduceSub, Nat.reduceLT, Nat.reduceLeDiff, Nat.reduceEqDiff, Nat.reduceBEq, reduceIte, reduceCtorEq, eq_self]; try rfl) rfl ?_; simp only [SV.den, resV, dens]
    have := of_decide_eq_true h1
    simp [rgtO]
    intros
    omega
  refine go_qsplit rfl rfl (fun h2 => ?_) (fun h2 => ?_) <;> (refine st_ ?_; (try (refine runq 400 hty hnt ?_; refine st_ ?_)))
  · repeat (refine q_gundef rfl (by rw [hnt]; rfl) rfl ?_; (refine st_ ?_; (try (refine runq 400 hty hnt ?_; refine st_ ?_))))
    refine q_end ?_; refine rn_ ?_; intros
    refine rn_ ?_; intros
    refine x_retc rfl hQ hmb rfl (by rw [hty]; simp only [so, sq, zy, zz, tyE, SO', SQ', opQ, opStore, opAlloc, ev, putS, dOk, cv, SV.cs, SV.one, SV.bool?, eqB, Value.oneCell', ldOwn, binInt, binConst, binBool, binStr, isC, TK.agg, rv, rv1, ldV, resOne, resV, Nat.reduceAdd, Nat.reduceMul, Nat.reduceSub, Nat.reduceLT, Nat.reduceLeDiff, Nat.reduceEqDiff, Nat.reduceBEq, reduceIte, reduceCtorEq, eq_self]; try rfl) rfl ?_; simp only [SV.den, resV, dens]
    have := of_decide_eq_true h2
    simp [rgtO]
    intros
    omega
  refine go_qsplit rfl rfl (fun h4 => ?_) (fun h4 => ?_) <;> (refine st_ ?_; (try (refine runq 400 hty hnt ?_; refine st_ ?_)))
  · repeat (refine q_gundef rfl (by rw [hnt]; rfl) rfl ?_; (refine st_ ?_; (try (refine runq 400 hty hnt ?_; refine st_ ?_))))
    refine q_end ?_; refine rn_ ?_; intros
    refine rn_ ?_; intros
    refine x_retc rfl hQ hmb rfl (by rw [hty]; simp only [so, sq, zy, zz, tyE, SO', SQ', opQ, opStore, opAlloc, ev, putS, dOk, cv, SV.cs, SV.one, SV.bool?, eqB, Value.oneCell', ldOwn, binInt, binConst, binBool, binStr, isC, TK.agg, rv, rv1, ldV, resOne, resV, Nat.reduceAdd, Nat.reduceMul, Nat.reduceSub, Nat.reduceLT, Nat.reduceLeDiff, Nat.reduceEqDiff, Nat.reduceBEq, reduceIte, reduceCtorEq, eq_self]; try rfl) rfl ?_; simp only [SV.den, resV, dens]
    have := of_decide_eq_true h4
    simp [rgtO]
    intros
    omega
  refine q_callf (by rw [hnt]; rfl) (by rw [hP]; kernel_rfl) rfl (hP ▸ kinds_ok m _) ?_; refine runq 400 hty hnt ?_; refine st_ ?_
  rw [hK]
  refine go_qsplit rfl rfl (fun h3 => ?_) (fun h3 => ?_) <;> (refine st_ ?_; (try (refine runq 400 hty hnt ?_; refine st_ ?_)))
  · repeat (refine q_gundef rfl (by rw [hnt]; rfl) rfl ?_; (refine st_ ?_; (try (refine runq 400 hty hnt ?_; refine st_ ?_))))
    refine q_end ?_; refine rn_ ?_; intros
    refine rn_ ?_; intros
    refine x_retc rfl hQ hmb rfl (by rw [hty]; simp only [so, sq, zy, zz, tyE, SO', SQ', opQ, opStore, opAlloc, ev, putS, dOk, cv, SV.cs, SV.one, SV.bool?, eqB, Value.oneCell', ldOwn, binInt, binConst, binBool, binStr, isC, TK.agg, rv, rv1, ldV, resOne, resV, Nat.reduceAdd, Nat.reduceMul, Nat.reduceSub, Nat.reduceLT, Nat.reduceLeDiff, Nat.reduceEqDiff, Nat.reduceBEq, reduceIte, reduceCtorEq, eq_self]; try rfl) rfl ?_; simp only [SV.den, resV, dens]
    have := of_decide_eq_true h3
    simp [rgtO]
    intros
    omega
  have p1 := of_decide_eq_false h1
  have p2 := of_decide_eq_false h2
  have p3 := of_decide_eq_false h3
  have p4 := of_decide_eq_false h4
  have hrg : rgtO K o = (vld o.arg && if o.dn then vld o.res && decide (o.fr ≤ o.to) else zer o.res && o.to == 0) := by
    rw [rgtO, decide_eq_true (by omega), decide_eq_true (by omega), decide_eq_true (by omega), decide_eq_true (by omega)]; rfl
  refine q_callf (by rw [hnt]; rfl) (by rw [hP]; kernel_rfl) rfl (hP ▸ refright_ok o.arg sa _ ho.a (by omega)) ?_; refine runq 400 hty hnt ?_; refine st_ ?_
  refine q_end ?_; refine rn_ ?_; intros
  refine x_split rfl rfl rfl (fun h5 => ?_) (fun h5 => ?_) <;> (refine st_ ?_; (refine ru_ ?_; intros))
  · refine rn_ ?_; intros
    refine x_retc rfl hQ hmb rfl (by rw [hty]; simp only [so, sq, zy, zz, tyE, SO', SQ', opQ, opStore, opAlloc, ev, putS, dOk, cv, SV.cs, SV.one, SV.bool?, eqB, Value.oneCell', ldOwn, binInt, binConst, binBool, binStr, isC, TK.agg, rv, rv1, ldV, resOne, resV, Nat.reduceAdd, Nat.reduceMul, Nat.reduceSub, Nat.reduceLT, Nat.reduceLeDiff, Nat.reduceEqDiff, Nat.reduceBEq, reduceIte, reduceCtorEq, eq_self]; try rfl) rfl ?_; simp only [SV.den, resV, dens]
    simp at h5
    rw [hrg, h5]; rfl
  have hva : vld o.arg = true := by simpa using h5
  rw [hva, Bool.true_and] at hrg
  refine rn_ ?_; intros
  refine x_split rfl rfl rfl (fun hd => ?_) (fun hd => ?_) <;> (refine st_ ?_; (refine ru_ ?_; intros))
  · simp at hd
    rw [if_neg (by rw [hd]; decide)] at hrg
    refine go_callf (by rw [hnt]; rfl) (by rw [hP]; kernel_rfl) rfl (hP ▸ rzero_ok o.res sr _ ho.r) ?_; refine rn_ ?_; intros
    refine go_gsplit rfl rfl (fun h6 => ?_) (fun h6 => ?_) <;> (refine st_ ?_; (refine rn_ ?_; intros))
    · refine rn_ ?_; intros
      refine x_retc rfl hQ hmb rfl (by rw [hty]; simp only [so, sq, zy, zz, tyE, SO', SQ', opQ, opStore, opAlloc, ev, putS, dOk, cv, SV.cs, SV.one, SV.bool?, eqB, Value.oneCell', ldOwn, binInt, binConst, binBool, binStr, isC, TK.agg, rv, rv1, ldV, resOne, resV, Nat.reduceAdd, Nat.reduceMul, Nat.reduceSub, Nat.reduceLT, Nat.reduceLeDiff, Nat.reduceEqDiff, Nat.reduceBEq, reduceIte, reduceCtorEq, eq_self]; try rfl) rfl ?_; simp only [SV.den, resV, dens]
      rw [hrg, h6, Bool.true_and]
    · refine rn_ ?_; intros
      refine x_retc rfl hQ hmb rfl (by rw [hty]; simp only [so, sq, zy, zz, tyE, SO', SQ', opQ, opStore, opAlloc, ev, putS, dOk, cv, SV.cs, SV.one, SV.bool?, eqB, Value.oneCell', ldOwn, binInt, binConst, binBool, binStr, isC, TK.agg, rv, rv1, ldV, resOne, resV, Nat.reduceAdd, Nat.reduceMul, Nat.reduceSub, Nat.reduceLT, Nat.reduceLeDiff, Nat.reduceEqDiff, Nat.reduceBEq, reduceIte, reduceCtorEq, eq_self]; try rfl) rfl ?_; simp only [SV.den, resV, dens]
      rw [hrg, h6, Bool.false_and]
  · simp at hd
    rw [if_pos hd] at hrg
    refine go_call (by rw [hnt]; rfl) (by rw [hP]; kernel_rfl) rfl (hP ▸ refright_ok o.res sr _ ho.r (by omega)) ?_
    rintro v G1 (hle1 : Le G G1) rfl
    refine rn_ ?_; intros
    refine go_gsplit rfl rfl (fun h6 => ?_) (fun h6 => ?_) <;> (refine st_ ?_; (refine rn_ ?_; intros))
    · refine rn_ ?_; intros
      refine x_retc rfl hQ hmb rfl (by rw [hty]; simp only [so, sq, zy, zz, tyE, SO', SQ', opQ, opStore, opAlloc, ev, putS, dOk, cv, SV.cs, SV.one, SV.bool?, eqB, Value.oneCell', ldOwn, binInt, binConst, binBool, binStr, isC, TK.agg, rv, rv1, ldV, resOne, resV, Nat.reduceAdd, Nat.reduceMul, Nat.reduceSub, Nat.reduceLT, Nat.reduceLeDiff, Nat.reduceEqDiff, Nat.reduceBEq, reduceIte, reduceCtorEq, eq_self]; try rfl) rfl ?_; simp only [SV.den, resV, dens]
      rw [hrg, h6, Bool.true_and]
    · refine rn_ ?_; intros
      refine x_retc rfl hQ hmb rfl (by rw [hty]; simp only [so, sq, zy, zz, tyE, SO', SQ', opQ, opStore, opAlloc, ev, putS, dOk, cv, SV.cs, SV.one, SV.bool?, eqB, Value.oneCell', ldOwn, binInt, binConst, binBool, binStr, isC, TK.agg, rv, rv1, ldV, resOne, resV, Nat.reduceAdd, Nat.reduceMul, Nat.reduceSub, Nat.reduceLT, Nat.reduceLeDiff, Nat.reduceEqDiff, Nat.reduceBEq, reduceIte, reduceCtorEq, eq_self]; try rfl) rfl ?_; simp only [SV.den, resV, dens]
      rw [hrg, h6, Bool.false_and]
end Go.Proofs.Ytpmmbjcgabnloaa
namespace Go.Proofs.Ytpmmbjcgabnloaa
set_option linter.unusedSimpArgs false
set_option linter.unusedVariables false
open Go.Sx
set_option maxHeartbeats 8000000
set_option maxRecDepth 20000
structure MS where
  vals : List VT
  ps : List Po
structure MS.rep (G : Hp) (s : MS) (sv sp : Value) : Prop where
  v : rV.S G s.vals sv
  p : rPo.S G s.ps sp
theorem MS.rep.mono {G G' : Hp} {s : MS} {sv sp : Value} (h : s.rep G sv sp) (hl : Le G G') : s.rep G' sv sp := ⟨Rp.S_mono hl h.v, Rp.S_mono hl h.p⟩
end Go.Proofs.Ytpmmbjcgabnloaa
namespace Go.Proofs.Ytpmmbjcgabnloaa
set_option linter.unusedSimpArgs false
set_option linter.unusedVariables false
open Go.Sx
set_option maxHeartbeats 8000000
set_option maxRecDepth 20000
end Go.Proofs.Ytpmmbjcgabnloaa
namespace Go.Proofs.Ytpmmbjcgabnloaa
set_option linter.unusedSimpArgs false
set_option linter.unusedVariables false
open Go.Sx
set_option maxHeartbeats 8000000
set_option maxRecDepth 20000
def pix (v : VT) : List Po → Nat → Option Nat
  | [], _ => none
  | p :: r, i => if vsm p.nm v then some i else pix v r (i + 1)
theorem pix_lt {v : VT} : ∀ {l : List Po} {i j : Nat}, pix v l i = some j → i ≤ j ∧ j < i + l.length
  | [], _, _, h => by simp [pix] at h
  | p :: r, i, j, h => by
    rw [pix] at h
    split at h
    · cases h; simp
    · have := pix_lt h
      simp; omega
theorem port_ok (ps : List Po) (v : VT) (b : Nat) (sv sp sl : Value) (G : Hp) (hb : At G b 0 [sv, sp]) (hp : rPo.S G ps sp) (hv : v.rep G sl) : Pure Try.prog 76 [.pointer (some ⟨b, 0, none⟩), .agg #[.int .i64 v.k, .int .i64 v.n, sl]] G (fun r _ => r = .tuple #[.int .i64 ((pix v ps 0).getD 0 : Nat), .bool (pix v ps 0).isSome]) := by
  obtain ⟨ad2, cap2, rfl⟩ := Rp.S_slice hp
  have h64 := Rp.S_len hp
  have hb1 : At G b 1 [.slice ad2 ps.length cap2] := by simpa using hb.sub 1 1 (by simp)
  obtain ⟨adv, capv, rfl⟩ := VT.rep_slice hv
  refine enterX ty tyok Try.func76 rfl Try.ntmps76 [.v (.pointer (some ⟨b, 0, none⟩)), .a [.v (.int .i64 v.k), .v (.int .i64 v.n), .v (.slice adv v.l.length capv)]] (by simp) ?_
  intro C hP hQ hnt hty hmb hmh hro; have hQp := qp_body hQ; refine st_ ?_
  refine rn_ ?_; intros
  rename_i b3
  refine go_q (by rw [hnt]; rfl) (quiet_load (by rw [hty]; rfl) rfl (by simp [TK.agg]) hb1 rfl) ?_; refine rn_ ?_; intros
  refine go_keep [3, 11, 12, 13] [0] ?_
  refine st_ ?_
  refine x_loop rfl (fun q st => ∃ (k : Nat), k ≤ ps.length ∧ q = ps.length - k ∧ pix v ps 0 = pix v (ps.drop k) k ∧
    st = ⟨[(3, .p 0 b3 0), (11, .v (.slice ad2 ps.length cap2)), (12, .v (.int .i64 ps.length)), (13, .v (.int .i64 k))], [(0, b3, .c 28 [.v (.int .i64 v.k), .v (.int .i64 v.n), .v (.slice adv v.l.length capv)])], G, []⟩) ⟨0, by omega, rfl, rfl, rfl⟩ ?_
  rintro q st ⟨k, hk, hq, hinv, rfl⟩ ih
  refine rn_ ?_; intros
  refine x_if rfl rfl rfl rfl (fun hjl => ?_) (fun hjl => ?_)
  · have hlt : k < ps.length := by simp at hjl; omega
    obtain ⟨c1, o1, sl, rfl, hat, hrep, hbd, h64⟩ := rPo_at hp (i := k) hlt
    obtain ⟨asl, csl, rfl⟩ := VT.rep_slice hrep
    rw [List.drop_eq_getElem_cons hlt, pix] at hinv
    generalize ps[k] = p at *
    refine rn_ ?_; intros
    refine go_q (by rw [hnt]; rfl) (quiet_index (by rw [hty]; rfl) (by rw [hty]; rfl) rfl rfl rfl (by omega) (by omega)) ?_
    refine rn_ ?_; intros
    refine go_q (by rw [hnt]; rfl) (quiet_load (by rw [hty]; rfl) rfl (by simp [TK.agg]) hat rfl) ?_
    refine rn_ ?_; intros
    refine go_callf (by rw [hnt]; rfl) (by rw [hP]; kernel_rfl) rfl (hP ▸ same_ok p.nm v _ _ G hrep hv) ?_; refine rn_ ?_; intros
    rw [← vsm]
    refine x_split rfl rfl rfl (fun hs => ?_) (fun hs => ?_) <;> (refine st_ ?_; (refine ru_ ?_; intros))
    · refine rn_ ?_; intros
      refine x_retc rfl hQ hmb rfl (by rw [hty]; simp only [so, sq, zy, zz, tyE, SO', SQ', opQ, opStore, opAlloc, ev, putS, dOk, cv, SV.cs, SV.one, SV.bool?, eqB, Value.oneCell', ldOwn, binInt, binConst, binBool, binStr, isC, TK.agg, rv, rv1, ldV, resOne, resV, Nat.reduceAdd, Nat.reduceMul, Nat.reduceSub, Nat.reduceLT, Nat.reduceLeDiff, Nat.reduceEqDiff, Nat.reduceBEq, reduceIte, reduceCtorEq, eq_self]; try rfl) rfl ?_; simp only [SV.den, resV, dens]
      rw [hinv, if_pos hs]; rfl
    · rw [if_neg (by rw [hs]; decide)] at hinv
      rw [wr (n := (k : Int) + 1) (by omega) (by omega)]
      refine go_keep [3, 11, 12, 13] [0] ?_
      refine st_ ?_
      exact ih (ps.length - (k + 1)) _ (by omega) ⟨k + 1, by omega, rfl, hinv, by simp⟩
  · have hge : k = ps.length := by simp at hjl; omega
    rw [hge, List.drop_length, pix] at hinv
    refine rn_ ?_; intros
    refine x_retc rfl hQ hmb rfl (by rw [hty]; simp only [so, sq, zy, zz, tyE, SO', SQ', opQ, opStore, opAlloc, ev, putS, dOk, cv, SV.cs, SV.one, SV.bool?, eqB, Value.oneCell', ldOwn, binInt, binConst, binBool, binStr, isC, TK.agg, rv, rv1, ldV, resOne, resV, Nat.reduceAdd, Nat.reduceMul, Nat.reduceSub, Nat.reduceLT, Nat.reduceLeDiff, Nat.reduceEqDiff, Nat.reduceBEq, reduceIte, reduceCtorEq, eq_self]; try rfl) rfl ?_; simp only [SV.den, resV, dens]
    rw [hinv]; rfl
theorem rport_ok (ps : List Po) (v : VT) (sv sp sl : Value) (hsv : sv.oneCell' = true) (G : Hp) (hp : rPo.S G ps sp) (hv : v.rep G sl) (hbv : tsz v ≤ 1048576) : Pure Try.prog 69 [.agg #[sv, sp], .agg #[.int .i64 v.k, .int .i64 v.n, sl]] G (fun r _ => r = .int .i64 (match pix v ps 0 with | some i => (i : Int) | none => -1)) := by
  obtain ⟨ad2, cap2, rfl⟩ := Rp.S_slice hp
  have h64 := Rp.S_len hp
  obtain ⟨adv, capv, rfl⟩ := VT.rep_slice hv
  refine enterX ty tyok Try.func69 rfl Try.ntmps69 [.a [.v sv, .v (.slice ad2 ps.length cap2)], .a [.v (.int .i64 v.k), .v (.int .i64 v.n), .v (.slice adv v.l.length capv)]] (by simp) ?_
  intro C hP hQ hnt hty hmb hmh hro; have hQp := qp_body hQ; refine st_ ?_
  refine rn_ ?_; intros
  rename_i b2 b3
  refine go_keep [2, 3, 5] [0, 1] ?_
  refine st_ ?_
  refine x_loop rfl (fun q st => ∃ (k : Nat) (G' : Hp), k ≤ ps.length ∧ q = ps.length - k ∧ Le G G' ∧ pix v ps 0 = pix v (ps.drop k) k ∧
    st = ⟨[(2, .p 0 b2 0), (3, .p 1 b3 0), (5, .v (.int .i64 k))], [(0, b2, .c 44 [.v sv, .v (.slice ad2 ps.length cap2)]), (1, b3, .c 28 [.v (.int .i64 v.k), .v (.int .i64 v.n), .v (.slice adv v.l.length capv)])], G', []⟩) ⟨0, G, by omega, rfl, Le.refl _, rfl, rfl⟩ ?_
  rintro q st ⟨k, G1, hk, hq, hle, hinv, rfl⟩ ih
  refine rn_ ?_; intros
  refine x_if rfl rfl rfl rfl (fun hjl => ?_) (fun hjl => ?_)
  · have hlt : k < ps.length := by simp at hjl; omega
    obtain ⟨c1, o1, sl, rfl, hat, hrep, hbd, h64⟩ := rPo_at hp (i := k) hlt
    rw [List.drop_eq_getElem_cons hlt, pix] at hinv
    generalize ps[k] = p at *
    have hatA : At G c1 (o1 + k * 4) [.int .i64 p.nm.k, .int .i64 p.nm.n, sl] := by simpa using hat.sub 0 3 (by simp)
    refine rn_ ?_; intros
    refine x_draw rfl (by rw [hP]; kernel_rfl) rfl (by kernel_rfl) ?_
    refine runq 400 hty hnt ?_; refine st_ ?_
    refine q_q (by rw [hnt]; rfl) (quiet_index (by rw [hty]; rfl) (by rw [hty]; rfl) rfl rfl rfl (by omega) (by omega)) ?_; refine runq 400 hty hnt ?_; refine st_ ?_
    refine q_q (by rw [hnt]; rfl) (quiet_load (by rw [hty]; rfl) rfl (by simp [TK.agg]) (hatA.mono hle) rfl) ?_
    refine runq 400 hty hnt ?_; refine st_ ?_
    refine q_callf (by rw [hnt]; rfl) (by rw [hP]; kernel_rfl) rfl (hP ▸ refSame_ok p.nm v _ _ _ (VT.rep_mono hle hrep) (VT.rep_mono hle hv) (by omega) (by omega)) ?_; refine runq 400 hty hnt ?_; refine st_ ?_
    refine q_end ?_; refine rn_ ?_; intros
    rw [← vsm]
    refine x_split rfl rfl rfl (fun hs => ?_) (fun hs => ?_) <;> (refine st_ ?_; (refine ru_ ?_; intros))
    · refine rn_ ?_; intros
      refine x_retc rfl hQ hmb rfl (by rw [hty]; simp only [so, sq, zy, zz, tyE, SO', SQ', opQ, opStore, opAlloc, ev, putS, dOk, cv, SV.cs, SV.one, SV.bool?, eqB, Value.oneCell', ldOwn, binInt, binConst, binBool, binStr, isC, TK.agg, rv, rv1, ldV, resOne, resV, Nat.reduceAdd, Nat.reduceMul, Nat.reduceSub, Nat.reduceLT, Nat.reduceLeDiff, Nat.reduceEqDiff, Nat.reduceBEq, reduceIte, reduceCtorEq, eq_self]; try rfl) rfl ?_; simp only [SV.den, resV, dens]
      rw [hinv, if_pos hs]
    · rw [if_neg (by rw [hs]; decide)] at hinv
      rw [wr (n := (k : Int) + 1) (by omega) (by omega)]
      refine go_keep [2, 3, 5] [0, 1] ?_
      refine st_ ?_
      exact ih (ps.length - (k + 1)) _ (by omega) ⟨k + 1, G1, by omega, rfl, hle, hinv, by simp⟩
  · have hge : k = ps.length := by simp at hjl; omega
    rw [hge, List.drop_length, pix] at hinv
    refine rn_ ?_; intros
    refine x_retc rfl hQ hmb rfl (by rw [hty]; simp only [so, sq, zy, zz, tyE, SO', SQ', opQ, opStore, opAlloc, ev, putS, dOk, cv, SV.cs, SV.one, SV.bool?, eqB, Value.oneCell', ldOwn, binInt, binConst, binBool, binStr, isC, TK.agg, rv, rv1, ldV, resOne, resV, Nat.reduceAdd, Nat.reduceMul, Nat.reduceSub, Nat.reduceLT, Nat.reduceLeDiff, Nat.reduceEqDiff, Nat.reduceBEq, reduceIte, reduceCtorEq, eq_self]; try rfl) rfl ?_; simp only [SV.den, resV, dens]
    rw [hinv]
end Go.Proofs.Ytpmmbjcgabnloaa
namespace Go.Sx
set_option linter.unusedSimpArgs false
set_option linter.unusedVariables false
open Go.RowKit

section
variable {C : Ctx} {K : List KI} {s : St}
end

theorem retv_grow {w w' : World} {G G' : Hp} {rs : List Rw} {Z X : Nat → Prop} (hw : Has w G) (hg : Grow [] w G w' G') (hz : (ZR rs).A Z Z w') (hZ : ∀ g, Z g → G' g = none ∧ w.heap.size ≤ g) :
    ∃ G2, Grow [] w G w' G2 ∧ Le G' G2 ∧ (∀ g, Z g → X g → G2 g = none) ∧ ∀ (i : Nat) (r : Rw), rs[i]? = some r → (∀ g, r.v.ownBlock = some g → ¬ X g) → RowAt G2 r := by
  classical
  obtain ⟨z1, z2, z3, z4⟩ := hz
  refine ⟨fun g => if Z g ∧ ¬ X g then w'.heap[g]? else G' g, ⟨hg.os, hg.tape, hg.output, hg.size, hg.blk, fun g o e => ?_, fun g hlt => ?_⟩, fun g o e => ?_, fun g hz hx => ?_, fun i r e hr => row_at (z1 i r e) fun g hg' => ?_⟩
  · split at e
    · exact e
    · exact hg.has g o e
  · have : ¬ Z g := fun q => by have := (hZ g q).2; omega
    simp only [this, false_and, if_false]
    exact hg.old g hlt
  · have : ¬ Z g := fun q => by rw [(hZ g q).1] at e; cases e
    simp only [this, false_and, if_false]
    exact e
  · simp only [hx, not_true_eq_false, and_false, if_false]
    exact (hZ g hz).1
  · have h1 : Z g := (z3 g).2 ⟨i, r, e, hg'⟩
    simp only [h1, hr g hg', not_false_eq_true, and_self, if_true]
theorem PureV.pure {P : Program} {f : FuncId} {args : List Value} {G : Hp} {φ : Value → Hp → List Rw → Prop} {ψ : Value → Hp → Prop} (h : PureV P f args G φ)
    (hψ : ∀ v G1 G2 rs, Le G G1 → Le G1 G2 → φ v G1 rs → (∀ (i : Nat) (r : Rw), rs[i]? = some r → RowAt G2 r) → ψ v G2) : Pure P f args G ψ := by
  intro w hw
  refine (h w hw).mono ?_
  rintro e w' ⟨v, G', rs, Z, rfl, hg, hz, hZ, hφ⟩
  obtain ⟨G2, g1, g2, _, g3⟩ := retv_grow (X := fun _ => False) hw hg hz hZ
  exact ⟨v, G2, rfl, g1, hψ v G' G2 rs (fun b o e => hg.keep hw e) g2 hφ fun i r e => g3 i r e (fun _ _ q => q)⟩
section
variable {C : Ctx} {K : List KI} {s : St} {sl : List (Nat × SV)} {own : Owns} {G : Hp} {R : Array Oper} {l : List Oper} {d : Option Tmp} {t : TypeId} {pos : String} {aft : Array Edge}
theorem quiet_loadO (k : Nat) {T : TypeId} {x : Operand} {ti : TI} {b off : Nat} {e : TypeId} {cur : Array Value} {v : Value} {y : SV}
    (hT : C.ty T = some ti) (hag : ti.k.agg = false) (hx : ev sl x = some y) (hy : y.den = .pointer (some ⟨b, off, none⟩)) (hk : lk k own = some (b, .o (.cells cur e))) (hv : cur[off]? = some v) :
    Quiet C sl own G (.load T x) v := by
  intro a w d t pos aft g hs hh
  have hxv := ev_ok hs hx
  rw [hy] at hxv
  have hb := hh.1 _ _ _ hk
  simp only [OO.holds] at hb
  have hc : w.cell? ⟨b, off, none⟩ = some v := by rw [cell_at hb]; exact hv
  simp only [execOp, hxv, Instr.loadAt, Instr.sureAddr, Sem.run_bind, Sem.run_pure, Result.andThen_ok, loadVar, run_isAgg w (C.tyok _ _ hT), hag]
  simp [run_load, hc]
end
end Go.Sx
namespace Go.Proofs.Ytpmmbjcgabnloaa
set_option linter.unusedSimpArgs false
set_option linter.unusedVariables false
open Go.Sx
set_option maxHeartbeats 8000000
set_option maxRecDepth 20000
def stRows (v1 : Value) (n1 : Nat) (xs : List Value) (v2 : Value) (n2 : Nat) (ys : List Value) : List Rw := [⟨28, 3, v1, n1, xs⟩, ⟨55, 4, v2, n2, ys⟩]
def stOwn (s : MS) (v : Value) (G : Hp) (rs : List Rw) : Prop := ∃ v1 v2 xs ys, v = .agg #[v1, v2] ∧ rs = stRows v1 s.vals.length xs v2 s.ps.length ys ∧ rV.L G s.vals xs ∧ rPo.L G s.ps ys
theorem copied_cells {x : VT} {v : Value} {G : Hp} (h : Copied x v G) : ∃ sl, v = .agg #[.int .i64 x.k, .int .i64 x.n, sl] ∧ x.rep G sl := by
  obtain ⟨ad, cap, rfl, hr⟩ := h
  exact ⟨_, rfl, hr⟩
theorem copyState_ok (s : MS) (sv sp : Value) (G : Hp) (hs : s.rep G sv sp) (h1 : ∀ x ∈ s.vals, sml x = true) (h2 : ∀ p ∈ s.ps, sml p.nm = true) (hl1 : s.vals.length ≤ 1000000) (hl2 : s.ps.length ≤ 1000000) :
    PureV Try.prog 43 [.agg #[sv, sp]] G (stOwn s) := by
  have hv := hs.v
  have hp := hs.p
  obtain ⟨ad1, cap1, rfl⟩ := Rp.S_slice hv
  obtain ⟨ad2, cap2, rfl⟩ := Rp.S_slice hp
  refine enterV ty tyok Try.func43 rfl Try.ntmps43 [.a [.v (.slice ad1 s.vals.length cap1), .v (.slice ad2 s.ps.length cap2)]] (by simp) ?_
  intro C hP hQ hnt hty hmb hmh hro; have hQp := qp_body hQ; refine st_ ?_
  refine rn_ ?_; intros
  rename_i b1 b2 b3
  refine go_nilrow 41 28 3 rfl (by omega) ?_
  refine go_nilrow 42 55 4 rfl (by omega) ?_
  refine go_keep [1, 2, 3, 9, 10, 11] [0, 1, 2, 41, 42] ?_
  refine st_ ?_
  refine x_loop rfl (fun q st => ∃ (k : Nat) (G' : Hp) (xs : List Value) (ad3 : Option Addr) (cap3 : Nat), k ≤ s.vals.length ∧ q = s.vals.length - k ∧ Le G G' ∧ rV.L G' (s.vals.take k) xs ∧
    st = ⟨[(1, .p 0 b1 0), (2, .p 1 b2 0), (3, .p 2 b3 0), (9, .v (.slice ad1 s.vals.length cap1)), (10, .v (.int .i64 s.vals.length)), (11, .v (.int .i64 k))],
      [(0, b1, .c 44 [.v (.slice ad1 s.vals.length cap1), .v (.slice ad2 s.ps.length cap2)]), (1, b2, .c 44 [.v (.slice none 0 0), .v (.slice none 0 0)]), (2, b3, .c 44 [.v (.slice ad3 k cap3), .v (.slice none 0 0)]),
       (41, 0, .row (.slice ad3 k cap3) 28 3 k xs), (42, 0, .row (.slice none 0 0) 55 4 0 [])], G', []⟩) ⟨0, G, [], none, 0, by omega, rfl, Le.refl _, rfl, rfl⟩ ?_
  rintro q st ⟨k, G1, xs, ad3, cap3, hk, hq, hle, hL, rfl⟩ ih
  refine rn_ ?_; intros
  refine x_if rfl rfl rfl rfl (fun hjl => ?_) (fun hjl => ?_)
  · have hlt : k < s.vals.length := by simp at hjl; omega
    have htk : s.vals.take (k + 1) = s.vals.take k ++ [s.vals[k]] := (List.take_append_getElem hlt).symm
    obtain ⟨c1, o1, sl, rfl, hat, hrep, hb⟩ := rV_at hv (i := k) hlt
    obtain ⟨asl, csl, rfl⟩ := VT.rep_slice hrep
    refine rn_ ?_; intros
    refine go_q (by rw [hnt]; rfl) (quiet_index (by rw [hty]; rfl) (by rw [hty]; rfl) rfl rfl rfl (by omega) (by omega)) ?_
    refine rn_ ?_; intros
    refine go_q (by rw [hnt]; rfl) (quiet_load (by rw [hty]; rfl) rfl (by simp [TK.agg]) (hat.mono hle) rfl) ?_
    refine rn_ ?_; intros
    rename_i b5
    refine x_held [(43, b5, .c 28 [.v (.int .i64 s.vals[k].k), .v (.int .i64 s.vals[k].n), .v (.slice asl s.vals[k].l.length csl)])] rfl (by rw [hP]; kernel_rfl) rfl rfl rfl ?_; refine st_ ?_
    refine h_take 0 rfl (by kernel_rfl) (by kernel_rfl) (by kernel_rfl) hQp (by rw [hnt]; rfl) (allIn (by repeat (first | exact trivial | refine ⟨rfl, ?_⟩))) (by first | exact Le.refl _ | assumption) (quiet_op (by rw [hty]; first | rfl | (refine st_ ?_; rfl))) ?_; refine st_ ?_
    refine h_take 2 rfl (by kernel_rfl) (by kernel_rfl) (by kernel_rfl) hQp (by rw [hnt]; rfl) (allIn (by repeat (first | exact trivial | refine ⟨rfl, ?_⟩))) (by first | exact Le.refl _ | assumption) (quiet_op (by rw [hty]; first | rfl | (refine st_ ?_; rfl))) ?_; refine st_ ?_
    refine h_two 1 3 rfl rfl (by kernel_rfl) ?_ ?_
    · refine rn_ ?_; intros
      refine h_hs (allIn (by repeat (first | exact trivial | refine ⟨rfl, ?_⟩))) (by first | exact Le.refl _ | assumption) ?_
      refine h_one 3 rfl (by kernel_rfl) ?_
      refine go_call (by rw [hnt]; rfl) (by rw [hP]; kernel_rfl) rfl (hP ▸ copy_ok s.vals[k] _ _ (VT.rep_mono hle hrep) (by omega)) ?_
      rintro v G2 (hle2 : Le G1 G2) hv0
      obtain ⟨hsm, hv0⟩ | ⟨hsm, _⟩ := hv0
      rotate_left
      · rw [h1 _ (List.getElem_mem hlt)] at hsm; cases hsm
      obtain ⟨sl2, rfl, hr2⟩ := copied_cells hv0
      clear hv0
      obtain ⟨asl2, csl2, rfl⟩ := VT.rep_slice hr2
      refine rn_ ?_; intros
      refine h_hs (allIn (by repeat (first | exact trivial | refine ⟨rfl, ?_⟩))) (by first | exact Le.refl _ | assumption) ?_
      refine h_one 4 rfl (by kernel_rfl) ?_
      refine rn_ ?_; intros
      refine h_hs (allIn (by repeat (first | exact trivial | refine ⟨rfl, ?_⟩))) (by first | exact Le.refl _ | assumption) ?_
      refine h_one 5 rfl (by kernel_rfl) ?_
      refine go_append 41 (by rw [hnt]; rfl) (by rw [hty]; rfl) (by rw [hty]; rfl) (by decide) rfl rfl rfl (by omega) rfl (src_own 3 rfl rfl) rfl (by simp [dens, SV.den, Value.oneCell']) (by omega) (by simp only []; omega) ?_
      intro v'
      refine go_rowS 41 rfl ?_
      rintro ad4 cap4 rfl
      refine rn_ ?_; intros
      refine h_hs (allIn (by repeat (first | exact trivial | refine ⟨rfl, ?_⟩))) (by first | exact Le.refl _ | assumption) ?_
      refine h_take 6 rfl (by kernel_rfl) (by kernel_rfl) (by kernel_rfl) hQp (by rw [hnt]; rfl) (allIn (by repeat (first | exact trivial | refine ⟨rfl, ?_⟩))) (by first | exact Le.refl _ | assumption) (quiet_op (by rw [hty]; first | rfl | (refine st_ ?_; rfl))) ?_; refine st_ ?_
      refine h_one 7 rfl (by kernel_rfl) ?_
      refine rn_ ?_; intros
      refine h_hs (allIn (by repeat (first | exact trivial | refine ⟨rfl, ?_⟩))) (by first | exact Le.refl _ | assumption) ?_
      refine h_end (by kernel_rfl) ?_
      refine rn_ ?_; intros
      rw [wr (n := (k : Int) + 1) (by omega) (by omega)]
      refine go_keep [1, 2, 3, 9, 10, 11] [0, 1, 2, 41, 42] ?_
      refine st_ ?_
      exact ih (s.vals.length - (k + 1)) _ (by omega) ⟨k + 1, G2, _, ad4, cap4, by omega, rfl, hle.trans hle2, by rw [htk]; exact Rp.L_append (Rp.L_mono hle2 hL) (Rp.L_single ⟨_, rfl, hr2, hb⟩), by simp [dens, SV.den]⟩
    · refine go_call (by rw [hnt]; rfl) (by rw [hP]; kernel_rfl) rfl (hP ▸ copy_ok s.vals[k] _ _ (VT.rep_mono hle hrep) (by omega)) ?_
      rintro v G2 (hle2 : Le G1 G2) hv0
      obtain ⟨hsm, hv0⟩ | ⟨hsm, _⟩ := hv0
      rotate_left
      · rw [h1 _ (List.getElem_mem hlt)] at hsm; cases hsm
      obtain ⟨sl2, rfl, hr2⟩ := copied_cells hv0
      clear hv0
      obtain ⟨asl2, csl2, rfl⟩ := VT.rep_slice hr2
      refine rn_ ?_; intros
      refine h_hs (allIn (by repeat (first | exact trivial | refine ⟨rfl, ?_⟩))) (by first | exact Le.refl _ | assumption) ?_
      refine h_two 1 4 rfl rfl (by kernel_rfl) ?_ ?_
      · refine rn_ ?_; intros
        refine h_hs (allIn (by repeat (first | exact trivial | refine ⟨rfl, ?_⟩))) (by first | exact Le.refl _ | assumption) ?_
        refine h_one 4 rfl (by kernel_rfl) ?_
        refine rn_ ?_; intros
        refine h_hs (allIn (by repeat (first | exact trivial | refine ⟨rfl, ?_⟩))) (by first | exact Le.refl _ | assumption) ?_
        refine h_one 5 rfl (by kernel_rfl) ?_
        refine go_append 41 (by rw [hnt]; rfl) (by rw [hty]; rfl) (by rw [hty]; rfl) (by decide) rfl rfl rfl (by omega) rfl (src_own 3 rfl rfl) rfl (by simp [dens, SV.den, Value.oneCell']) (by omega) (by simp only []; omega) ?_
        intro v'
        refine go_rowS 41 rfl ?_
        rintro ad4 cap4 rfl
        refine rn_ ?_; intros
        refine h_hs (allIn (by repeat (first | exact trivial | refine ⟨rfl, ?_⟩))) (by first | exact Le.refl _ | assumption) ?_
        refine h_take 6 rfl (by kernel_rfl) (by kernel_rfl) (by kernel_rfl) hQp (by rw [hnt]; rfl) (allIn (by repeat (first | exact trivial | refine ⟨rfl, ?_⟩))) (by first | exact Le.refl _ | assumption) (quiet_op (by rw [hty]; first | rfl | (refine st_ ?_; rfl))) ?_; refine st_ ?_
        refine h_one 7 rfl (by kernel_rfl) ?_
        refine rn_ ?_; intros
        refine h_hs (allIn (by repeat (first | exact trivial | refine ⟨rfl, ?_⟩))) (by first | exact Le.refl _ | assumption) ?_
        refine h_end (by kernel_rfl) ?_
        refine rn_ ?_; intros
        rw [wr (n := (k : Int) + 1) (by omega) (by omega)]
        refine go_keep [1, 2, 3, 9, 10, 11] [0, 1, 2, 41, 42] ?_
        refine st_ ?_
        exact ih (s.vals.length - (k + 1)) _ (by omega) ⟨k + 1, G2, _, ad4, cap4, by omega, rfl, hle.trans hle2, by rw [htk]; exact Rp.L_append (Rp.L_mono hle2 hL) (Rp.L_single ⟨_, rfl, hr2, hb⟩), by simp [dens, SV.den]⟩
      · refine rn_ ?_; intros
        refine h_hs (allIn (by repeat (first | exact trivial | refine ⟨rfl, ?_⟩))) (by first | exact Le.refl _ | assumption) ?_
        refine h_one 1 rfl (by kernel_rfl) ?_
        refine rn_ ?_; intros
        refine h_hs (allIn (by repeat (first | exact trivial | refine ⟨rfl, ?_⟩))) (by first | exact Le.refl _ | assumption) ?_
        refine h_one 5 rfl (by kernel_rfl) ?_
        refine go_append 41 (by rw [hnt]; rfl) (by rw [hty]; rfl) (by rw [hty]; rfl) (by decide) rfl rfl rfl (by omega) rfl (src_own 3 rfl rfl) rfl (by simp [dens, SV.den, Value.oneCell']) (by omega) (by simp only []; omega) ?_
        intro v'
        refine go_rowS 41 rfl ?_
        rintro ad4 cap4 rfl
        refine rn_ ?_; intros
        refine h_hs (allIn (by repeat (first | exact trivial | refine ⟨rfl, ?_⟩))) (by first | exact Le.refl _ | assumption) ?_
        refine h_take 6 rfl (by kernel_rfl) (by kernel_rfl) (by kernel_rfl) hQp (by rw [hnt]; rfl) (allIn (by repeat (first | exact trivial | refine ⟨rfl, ?_⟩))) (by first | exact Le.refl _ | assumption) (quiet_op (by rw [hty]; first | rfl | (refine st_ ?_; rfl))) ?_; refine st_ ?_
        refine h_one 7 rfl (by kernel_rfl) ?_
        refine rn_ ?_; intros
        refine h_hs (allIn (by repeat (first | exact trivial | refine ⟨rfl, ?_⟩))) (by first | exact Le.refl _ | assumption) ?_
        refine h_end (by kernel_rfl) ?_
        refine rn_ ?_; intros
        rw [wr (n := (k : Int) + 1) (by omega) (by omega)]
        refine go_keep [1, 2, 3, 9, 10, 11] [0, 1, 2, 41, 42] ?_
        refine st_ ?_
        exact ih (s.vals.length - (k + 1)) _ (by omega) ⟨k + 1, G2, _, ad4, cap4, by omega, rfl, hle.trans hle2, by rw [htk]; exact Rp.L_append (Rp.L_mono hle2 hL) (Rp.L_single ⟨_, rfl, hr2, hb⟩), by simp [dens, SV.den]⟩
  have hge : k = s.vals.length := by simp at hjl; omega
  subst hge
  rw [List.take_length] at hL
  clear ih hjl hq hk
  refine rn_ ?_; intros
  refine go_keep [1, 2, 3, 24, 25, 26] [0, 1, 2, 41, 42] ?_
  refine st_ ?_
  refine x_loop rfl (fun q st => ∃ (k : Nat) (G' : Hp) (ys : List Value) (ad5 : Option Addr) (cap5 : Nat), k ≤ s.ps.length ∧ q = s.ps.length - k ∧ Le G1 G' ∧ rPo.L G' (s.ps.take k) ys ∧
    st = ⟨[(1, .p 0 b1 0), (2, .p 1 b2 0), (3, .p 2 b3 0), (24, .v (.slice ad2 s.ps.length cap2)), (25, .v (.int .i64 s.ps.length)), (26, .v (.int .i64 k))],
      [(0, b1, .c 44 [.v (.slice ad1 s.vals.length cap1), .v (.slice ad2 s.ps.length cap2)]), (1, b2, .c 44 [.v (.slice none 0 0), .v (.slice none 0 0)]), (2, b3, .c 44 [.v (.slice ad3 s.vals.length cap3), .v (.slice ad5 k cap5)]),
       (41, 0, .row (.slice ad3 s.vals.length cap3) 28 3 s.vals.length xs), (42, 0, .row (.slice ad5 k cap5) 55 4 k ys)], G', []⟩) ⟨0, G1, [], none, 0, by omega, rfl, Le.refl _, rfl, rfl⟩ ?_
  replace hle0 := hle
  clear hle
  rintro q st ⟨k, G3, ys, ad5, cap5, hk, hq, hle3, hM, rfl⟩ ih
  have hle := hle0.trans hle3
  refine rn_ ?_; intros
  refine x_if rfl rfl rfl rfl (fun hjl => ?_) (fun hjl => ?_)
  · have hlt : k < s.ps.length := by simp at hjl; omega
    have htk : s.ps.take (k + 1) = s.ps.take k ++ [s.ps[k]] := (List.take_append_getElem hlt).symm
    obtain ⟨c1, o1, sl, rfl, hat, hrep, hb, h64⟩ := rPo_at hp (i := k) hlt
    obtain ⟨asl, csl, rfl⟩ := VT.rep_slice hrep
    refine rn_ ?_; intros
    refine go_q (by rw [hnt]; rfl) (quiet_index (by rw [hty]; rfl) (by rw [hty]; rfl) rfl rfl rfl (by omega) (by omega)) ?_
    refine rn_ ?_; intros
    refine go_q (by rw [hnt]; rfl) (quiet_load (by rw [hty]; rfl) rfl (by simp [TK.agg]) (hat.mono hle) rfl) ?_
    refine rn_ ?_; intros
    rename_i b5
    refine x_held [(43, b5, .c 55 [.v (.int .i64 s.ps[k].nm.k), .v (.int .i64 s.ps[k].nm.n), .v (.slice asl s.ps[k].nm.l.length csl), .v (.int .i64 s.ps[k].pt)])] rfl (by rw [hP]; kernel_rfl) rfl rfl rfl ?_; refine st_ ?_
    refine h_take 0 rfl (by kernel_rfl) (by kernel_rfl) (by kernel_rfl) hQp (by rw [hnt]; rfl) (allIn (by repeat (first | exact trivial | refine ⟨rfl, ?_⟩))) (by first | exact Le.refl _ | assumption) (quiet_op (by rw [hty]; first | rfl | (refine st_ ?_; rfl))) ?_; refine st_ ?_
    refine h_take 2 rfl (by kernel_rfl) (by kernel_rfl) (by kernel_rfl) hQp (by rw [hnt]; rfl) (allIn (by repeat (first | exact trivial | refine ⟨rfl, ?_⟩))) (by first | exact Le.refl _ | assumption) (quiet_op (by rw [hty]; first | rfl | (refine st_ ?_; rfl))) ?_; refine st_ ?_
    refine h_take 3 rfl (by kernel_rfl) (by kernel_rfl) (by kernel_rfl) hQp (by rw [hnt]; rfl) (allIn (by repeat (first | exact trivial | refine ⟨rfl, ?_⟩))) (by first | exact Le.refl _ | assumption) (quiet_op (by rw [hty]; first | rfl | (refine st_ ?_; rfl))) ?_; refine st_ ?_
    refine h_take 5 rfl (by kernel_rfl) (by kernel_rfl) (by kernel_rfl) hQp (by rw [hnt]; rfl) (allIn (by repeat (first | exact trivial | refine ⟨rfl, ?_⟩))) (by first | exact Le.refl _ | assumption) (quiet_op (by rw [hty]; first | rfl | (refine st_ ?_; rfl))) ?_; refine st_ ?_
    refine h_take 6 rfl (by kernel_rfl) (by kernel_rfl) (by kernel_rfl) hQp (by rw [hnt]; rfl) (allIn (by repeat (first | exact trivial | refine ⟨rfl, ?_⟩))) (by first | exact Le.refl _ | assumption) (quiet_op (by rw [hty]; first | rfl | (refine st_ ?_; rfl))) ?_; refine st_ ?_
    refine h_two 1 4 rfl rfl (by kernel_rfl) ?_ ?_
    · refine rn_ ?_; intros
      refine h_hs (allIn (by repeat (first | exact trivial | refine ⟨rfl, ?_⟩))) (by first | exact Le.refl _ | assumption) ?_
      refine h_one 4 rfl (by kernel_rfl) ?_
      refine go_call (by rw [hnt]; rfl) (by rw [hP]; kernel_rfl) rfl (hP ▸ copy_ok s.ps[k].nm _ _ (VT.rep_mono hle hrep) (by omega)) ?_
      rintro v G4 (hle4 : Le G3 G4) hv0
      obtain ⟨hsm, hv0⟩ | ⟨hsm, _⟩ := hv0
      rotate_left
      · rw [h2 _ (List.getElem_mem hlt)] at hsm; cases hsm
      obtain ⟨sl2, rfl, hr2⟩ := copied_cells hv0
      clear hv0
      obtain ⟨asl2, csl2, rfl⟩ := VT.rep_slice hr2
      refine rn_ ?_; intros
      refine h_hs (allIn (by repeat (first | exact trivial | refine ⟨rfl, ?_⟩))) (by first | exact Le.refl _ | assumption) ?_
      refine h_take 7 rfl (by kernel_rfl) (by kernel_rfl) (by kernel_rfl) hQp (by rw [hnt]; rfl) (allIn (by repeat (first | exact trivial | refine ⟨rfl, ?_⟩))) (by first | exact Le.refl _ | assumption) (quiet_op (by rw [hty]; first | rfl | (refine st_ ?_; rfl))) ?_; refine st_ ?_
      refine h_one 8 rfl (by kernel_rfl) ?_
      refine rn_ ?_; intros
      refine h_hs (allIn (by repeat (first | exact trivial | refine ⟨rfl, ?_⟩))) (by first | exact Le.refl _ | assumption) ?_
      refine h_one 9 rfl (by kernel_rfl) ?_
      refine go_append 42 (by rw [hnt]; rfl) (by rw [hty]; rfl) (by rw [hty]; rfl) (by decide) rfl rfl rfl (by omega) rfl (src_own 4 rfl rfl) rfl (by simp [dens, SV.den, Value.oneCell']) (by omega) (by simp only []; omega) ?_
      intro v'
      refine go_rowS 42 rfl ?_
      rintro ad4 cap4 rfl
      refine rn_ ?_; intros
      refine h_hs (allIn (by repeat (first | exact trivial | refine ⟨rfl, ?_⟩))) (by first | exact Le.refl _ | assumption) ?_
      refine h_take 10 rfl (by kernel_rfl) (by kernel_rfl) (by kernel_rfl) hQp (by rw [hnt]; rfl) (allIn (by repeat (first | exact trivial | refine ⟨rfl, ?_⟩))) (by first | exact Le.refl _ | assumption) (quiet_op (by rw [hty]; first | rfl | (refine st_ ?_; rfl))) ?_; refine st_ ?_
      refine h_one 11 rfl (by kernel_rfl) ?_
      refine rn_ ?_; intros
      refine h_hs (allIn (by repeat (first | exact trivial | refine ⟨rfl, ?_⟩))) (by first | exact Le.refl _ | assumption) ?_
      refine h_end (by kernel_rfl) ?_
      refine rn_ ?_; intros
      rw [wr (n := (k : Int) + 1) (by omega) (by omega)]
      refine go_keep [1, 2, 3, 24, 25, 26] [0, 1, 2, 41, 42] ?_
      refine st_ ?_
      exact ih (s.ps.length - (k + 1)) _ (by omega) ⟨k + 1, G4, _, ad4, cap4, by omega, rfl, hle3.trans hle4, by rw [htk]; exact Rp.L_append (Rp.L_mono hle4 hM) (Rp.L_single ⟨_, rfl, hr2, hb, h64⟩), by simp [dens, SV.den]⟩
    · refine go_call (by rw [hnt]; rfl) (by rw [hP]; kernel_rfl) rfl (hP ▸ copy_ok s.ps[k].nm _ _ (VT.rep_mono hle hrep) (by omega)) ?_
      rintro v G4 (hle4 : Le G3 G4) hv0
      obtain ⟨hsm, hv0⟩ | ⟨hsm, _⟩ := hv0
      rotate_left
      · rw [h2 _ (List.getElem_mem hlt)] at hsm; cases hsm
      obtain ⟨sl2, rfl, hr2⟩ := copied_cells hv0
      clear hv0
      obtain ⟨asl2, csl2, rfl⟩ := VT.rep_slice hr2
      refine rn_ ?_; intros
      refine h_hs (allIn (by repeat (first | exact trivial | refine ⟨rfl, ?_⟩))) (by first | exact Le.refl _ | assumption) ?_
      refine h_take 7 rfl (by kernel_rfl) (by kernel_rfl) (by kernel_rfl) hQp (by rw [hnt]; rfl) (allIn (by repeat (first | exact trivial | refine ⟨rfl, ?_⟩))) (by first | exact Le.refl _ | assumption) (quiet_op (by rw [hty]; first | rfl | (refine st_ ?_; rfl))) ?_; refine st_ ?_
      refine h_two 1 8 rfl rfl (by kernel_rfl) ?_ ?_
      · refine rn_ ?_; intros
        refine h_hs (allIn (by repeat (first | exact trivial | refine ⟨rfl, ?_⟩))) (by first | exact Le.refl _ | assumption) ?_
        refine h_one 8 rfl (by kernel_rfl) ?_
        refine rn_ ?_; intros
        refine h_hs (allIn (by repeat (first | exact trivial | refine ⟨rfl, ?_⟩))) (by first | exact Le.refl _ | assumption) ?_
        refine h_one 9 rfl (by kernel_rfl) ?_
        refine go_append 42 (by rw [hnt]; rfl) (by rw [hty]; rfl) (by rw [hty]; rfl) (by decide) rfl rfl rfl (by omega) rfl (src_own 4 rfl rfl) rfl (by simp [dens, SV.den, Value.oneCell']) (by omega) (by simp only []; omega) ?_
        intro v'
        refine go_rowS 42 rfl ?_
        rintro ad4 cap4 rfl
        refine rn_ ?_; intros
        refine h_hs (allIn (by repeat (first | exact trivial | refine ⟨rfl, ?_⟩))) (by first | exact Le.refl _ | assumption) ?_
        refine h_take 10 rfl (by kernel_rfl) (by kernel_rfl) (by kernel_rfl) hQp (by rw [hnt]; rfl) (allIn (by repeat (first | exact trivial | refine ⟨rfl, ?_⟩))) (by first | exact Le.refl _ | assumption) (quiet_op (by rw [hty]; first | rfl | (refine st_ ?_; rfl))) ?_; refine st_ ?_
        refine h_one 11 rfl (by kernel_rfl) ?_
        refine rn_ ?_; intros
        refine h_hs (allIn (by repeat (first | exact trivial | refine ⟨rfl, ?_⟩))) (by first | exact Le.refl _ | assumption) ?_
        refine h_end (by kernel_rfl) ?_
        refine rn_ ?_; intros
        rw [wr (n := (k : Int) + 1) (by omega) (by omega)]
        refine go_keep [1, 2, 3, 24, 25, 26] [0, 1, 2, 41, 42] ?_
        refine st_ ?_
        exact ih (s.ps.length - (k + 1)) _ (by omega) ⟨k + 1, G4, _, ad4, cap4, by omega, rfl, hle3.trans hle4, by rw [htk]; exact Rp.L_append (Rp.L_mono hle4 hM) (Rp.L_single ⟨_, rfl, hr2, hb, h64⟩), by simp [dens, SV.den]⟩
      · refine rn_ ?_; intros
        refine h_hs (allIn (by repeat (first | exact trivial | refine ⟨rfl, ?_⟩))) (by first | exact Le.refl _ | assumption) ?_
        refine h_one 1 rfl (by kernel_rfl) ?_
        refine rn_ ?_; intros
        refine h_hs (allIn (by repeat (first | exact trivial | refine ⟨rfl, ?_⟩))) (by first | exact Le.refl _ | assumption) ?_
        refine h_one 9 rfl (by kernel_rfl) ?_
        refine go_append 42 (by rw [hnt]; rfl) (by rw [hty]; rfl) (by rw [hty]; rfl) (by decide) rfl rfl rfl (by omega) rfl (src_own 4 rfl rfl) rfl (by simp [dens, SV.den, Value.oneCell']) (by omega) (by simp only []; omega) ?_
        intro v'
        refine go_rowS 42 rfl ?_
        rintro ad4 cap4 rfl
        refine rn_ ?_; intros
        refine h_hs (allIn (by repeat (first | exact trivial | refine ⟨rfl, ?_⟩))) (by first | exact Le.refl _ | assumption) ?_
        refine h_take 10 rfl (by kernel_rfl) (by kernel_rfl) (by kernel_rfl) hQp (by rw [hnt]; rfl) (allIn (by repeat (first | exact trivial | refine ⟨rfl, ?_⟩))) (by first | exact Le.refl _ | assumption) (quiet_op (by rw [hty]; first | rfl | (refine st_ ?_; rfl))) ?_; refine st_ ?_
        refine h_one 11 rfl (by kernel_rfl) ?_
        refine rn_ ?_; intros
        refine h_hs (allIn (by repeat (first | exact trivial | refine ⟨rfl, ?_⟩))) (by first | exact Le.refl _ | assumption) ?_
        refine h_end (by kernel_rfl) ?_
        refine rn_ ?_; intros
        rw [wr (n := (k : Int) + 1) (by omega) (by omega)]
        refine go_keep [1, 2, 3, 24, 25, 26] [0, 1, 2, 41, 42] ?_
        refine st_ ?_
        exact ih (s.ps.length - (k + 1)) _ (by omega) ⟨k + 1, G4, _, ad4, cap4, by omega, rfl, hle3.trans hle4, by rw [htk]; exact Rp.L_append (Rp.L_mono hle4 hM) (Rp.L_single ⟨_, rfl, hr2, hb, h64⟩), by simp [dens, SV.den]⟩
  have hge : k = s.ps.length := by simp at hjl; omega
  subst hge
  rw [List.take_length] at hM
  clear ih hjl hq hk
  refine go_znil 40 rfl (by omega) ?_
  intro Z0
  refine go_zadd 40 41 rfl rfl (by omega) (by omega) (by omega) ?_
  intro Z1
  refine st_ ?_
  refine go_zadd 40 42 rfl rfl (by omega) (by omega) (by omega) ?_
  intro Z2
  refine st_ ?_
  refine rn_ ?_; intros
  refine x_retV 40 rfl hQ hmb hmh rfl (by rw [hty]; simp only [so, sq, zy, zz, tyE, SO', SQ', opQ, opStore, opAlloc, ev, putS, dOk, cv, SV.cs, SV.one, SV.bool?, eqB, Value.oneCell', ldOwn, binInt, binConst, binBool, binStr, isC, TK.agg, rv, rv1, ldV, resOne, resV, Nat.reduceAdd, Nat.reduceMul, Nat.reduceSub, Nat.reduceLT, Nat.reduceLeDiff, Nat.reduceEqDiff, Nat.reduceBEq, reduceIte, reduceCtorEq, eq_self]; try rfl) rfl rfl ?_
  exact ⟨_, _, xs, ys, by simp [resV, SV.den, dens], rfl, Rp.L_mono hle3 hL, hM⟩
end Go.Proofs.Ytpmmbjcgabnloaa
namespace Go.Sx
set_option linter.unusedSimpArgs false
set_option linter.unusedVariables false
open Go.RowKit
def QSz (cur : Array Value) (off cap size : Nat) (xs : List Value) : Prop := off + cap * size ≤ cur.size ∧ xs.length ≤ cap * size ∧ ∀ i, i < xs.length → cur[off + i]? = xs[i]?
def ZQ (G0 : Hp) (e : TypeId) (size : Nat) (v : Value) (n : Nat) (xs : List Value) : Zn where
  A Z M w := xs.length = n * size ∧ ∃ ad cap, v = .slice ad n cap ∧ n ≤ cap ∧ (∀ g, M g → Z g) ∧
    (((∀ g, ¬ Z g) ∧ cap = n ∧ (n = 0 ∨ ∃ b off, ad = some ⟨b, off, none⟩ ∧ At G0 b off xs)) ∨
     ∃ g off cur, ad = some ⟨g, off, none⟩ ∧ w.heap[g]? = some (.cells cur e) ∧ QSz cur off cap size xs ∧ (∀ j, Z j → j = g) ∧ M g)
  lt Z M w h g hg := by
    obtain ⟨_, ad, cap, _, _, _, h | ⟨g', off, cur, _, hb, _, hz, _⟩⟩ := h
    · exact absurd hg (h.1 g)
    · rw [hz g hg]; exact lt_of_heap hb
  sub Z M w h g hg := by
    obtain ⟨_, ad, cap, _, _, h, _⟩ := h
    exact h g hg
  st Z M w w' h _ hs := by
    obtain ⟨h1, ad, cap, h2, h3, h4, h | ⟨g, off, cur, e1, hb, h5, h6, h7⟩⟩ := h
    · exact ⟨h1, ad, cap, h2, h3, h4, .inl h⟩
    · exact ⟨h1, ad, cap, h2, h3, h4, .inr ⟨g, off, cur, e1, by rw [hs g (h4 g h7)]; exact hb, h5, h6, h7⟩⟩
theorem get_put {L c : List Value} {m k j : Nat} (hm : m ≤ L.length) : (L.take m ++ c ++ L.drop k)[j]? = if j < m then L[j]? else if j < m + c.length then c[j - m]? else (L.drop k)[j - m - c.length]? := by
  have hl : (L.take m).length = m := by simp; omega
  split
  · rename_i h
    rw [List.append_assoc, List.getElem?_append_left (by omega), List.getElem?_take, if_pos h]
  · rename_i h
    rw [List.append_assoc, List.getElem?_append_right (by omega), hl]
    split
    · rw [List.getElem?_append_left (by omega)]
    · rw [List.getElem?_append_right (by omega)]
theorem QSz.put {cur : Array Value} {off cap size m : Nat} {xs c : List Value} (h : QSz cur off cap size xs) (hm : m + c.length ≤ xs.length) :
    QSz (cur.toList.take (off + m) ++ c ++ cur.toList.drop (off + m + c.length)).toArray off cap size (xs.take m ++ c ++ xs.drop (m + c.length)) := by
  obtain ⟨h1, h2, h3⟩ := h
  have hlc : off + m + c.length ≤ cur.toList.length := by simp; omega
  refine ⟨by simp; omega, by simp; omega, fun i hi => ?_⟩
  simp only [List.length_append, List.length_take, List.length_drop] at hi
  rw [List.getElem?_toArray, get_put (by omega), get_put (by omega)]
  by_cases q1 : i < m
  · rw [if_pos (by omega), if_pos q1, Array.getElem?_toList, h3 i (by omega)]
  · rw [if_neg (by omega), if_neg q1]
    by_cases q2 : i < m + c.length
    · rw [if_pos (by omega), if_pos q2]; congr 1; omega
    · rw [if_neg (by omega), if_neg q2, List.getElem?_drop, List.getElem?_drop, Array.getElem?_toList]
      have := h3 i (by omega)
      rw [show off + m + c.length + (off + i - (off + m) - c.length) = off + i by omega, show m + c.length + (i - m - c.length) = i by omega]
      exact this
theorem QSz.app {cur : Array Value} {off cap size n : Nat} {xs c : List Value} (h : QSz cur off cap size xs) (hn : xs.length = n * size) (hc : c.length = size) (hr : n + 1 ≤ cap) :
    QSz (cur.toList.take (off + n * size) ++ c ++ cur.toList.drop (off + n * size + c.length)).toArray off cap size (xs ++ c) := by
  obtain ⟨h1, h2, h3⟩ := h
  have hq : (n + 1) * size ≤ cap * size := Nat.mul_le_mul_right _ hr
  rw [Nat.succ_mul] at hq
  refine ⟨by simp; omega, by simp; omega, fun i hi => ?_⟩
  simp only [List.length_append] at hi
  rw [List.getElem?_toArray, get_put (by simp; omega)]
  by_cases q1 : i < n * size
  · rw [if_pos (by omega), Array.getElem?_toList, h3 i (by omega), List.getElem?_append_left (by omega)]
  · rw [if_neg (by omega), if_pos (by omega), List.getElem?_append_right (by omega)]
    congr 1; omega
theorem QSz.at {w : World} {g : Nat} {e : TypeId} {cur : Array Value} {off cap size : Nat} {xs : List Value} (h : QSz cur off cap size xs) (hb : w.heap[g]? = some (.cells cur e)) : At (fun j => w.heap[j]?) g off xs :=
  ⟨cur, e, _, hb, by have := h.1; have := h.2.1; omega, h.2.2⟩
theorem run_append_roomQ {P : Program} {w : World} {T e : TypeId} {te : TI} (ty' : TypeId) (ht : P.underlying T = some (.slice e)) (he : te.ok P e) {g off n cap : Nat} {cur : Array Value} (hg : w.heap[g]? = some (.cells cur e))
    {a : Addr} {c : Nat} {news : List Value} (hnews : ∀ j u, news[j]? = some u → w.cell? (a.add j) = some u) (h1 : ∀ u ∈ news, u.oneCell' = true) (hl : news.length = te.size) (hroom : n + 1 ≤ cap) (hfit : off + n * te.size + news.length ≤ cur.size) :
    (Builtin.append_ #[T, T] ty' #[.slice (some ⟨g, off, none⟩) n cap, .slice (some a) 1 c]).run P w = .ok (.slice (some ⟨g, off, none⟩) (n + 1) cap) (setBlk w g (.cells (cur.toList.take (off + n * te.size) ++ news ++ cur.toList.drop (off + n * te.size + news.length)).toArray e)) := by
  obtain ⟨i, z, hi, hsz, hb, hz, hc⟩ := he.info
  have hf := run_firstCells_some (P := P) w i.size 1 a 1 c news (by rw [hsz]; omega) hnews
  have hlay : lay cur.toList (off + n * te.size + 0) news = some (cur.toList.take (off + n * te.size) ++ news ++ cur.toList.drop (off + n * te.size + news.length)) := by
    rw [Nat.add_zero]; exact lay_put (by simpa using hfit)
  have hst := run_storeCells (P := P) (b := g) (off := off + n * te.size) (e := e) news 0 w cur.toList _ (by simpa using hg) h1 hlay
  rw [hsz] at hf
  simp [Builtin.append_, run_underlying ht, sizeOf, typeInfo, hi, Builtin.lenOf, hroom, hf, hsz, add_none, hst]
section
variable {C : Ctx} {K : List KI} {s : St} {sl : List (Nat × SV)} {own : Owns} {G G0 : Hp} {R : Array Oper} {l : List Oper} {d : Option Tmp} {t : TypeId} {pos : String} {aft : Array Edge}
theorem go_qapp (k : Nat) {x y : Operand} {T e : TypeId} {te : TI} {sz by' : Nat} {ze : List Value} {fl : List (Nat × Nat × Bool)} {b n : Nat} {v : Value} {xs news : List Value} {z vx : SV} {Z : Nat → Prop}
    (hd : dOk C.nt d = true) (hT : C.ty T = some ⟨.slice e, sz, by', ze, fl⟩) (he : C.ty e = some te) (hsz : 0 < te.size) (hx : ev s.sl x = some vx) (hvx : vx.den = v) (hk : lk k s.own = some (b, .z (ZQ G0 e te.size v n xs) Z Z)) (hG0 : Le G0 s.G)
    (hy : ev s.sl y = some z) (hsrc : Src C s z 1 news) (hl : news.length = te.size) (h1 : ∀ u ∈ news, u.oneCell' = true) (h63 : n + 1 ≤ 9223372036854775807) (hbytes : (n + 1) * te.bytes ≤ 140737488355328)
    (h : ∀ g off cap cur, QSz cur off cap te.size (xs ++ news) → n + 1 ≤ cap → SGo C (.ops R l :: K) ⟨putS d (.v (.slice (some ⟨g, off, none⟩) (n + 1) cap)) s.sl, stk k (g, .o (.cells cur e)) s.own, s.G, s.df⟩) :
    SGo C (.ops R (⟨d, .call ⟨.builtin .append, #[x, y], #[T, T]⟩, t, pos, aft, none⟩ :: l) :: K) s := by
  intro a w hS
  have hxv := ev_ok hS.sl hx
  have hyv := ev_ok hS.sl hy
  rw [hvx] at hxv
  obtain ⟨ad, c, hz, hnews⟩ := hsrc w hS.mem
  rw [hz] at hyv
  have g1 := (C.tyok _ _ hT).k
  simp only [TK.fits] at g1
  have hA := (hS.mem.own _ _ _ hk).1
  simp only [OO.holds] at hA
  obtain ⟨q1, ad1, cap1, rfl, hnc, hMZ, hq⟩ := hA
  obtain ⟨i, z0, hi, hs, hb', hz0, hc⟩ := (C.tyok _ _ he).info
  have hzs : z0.cells.size = te.size := by rw [hc]; simpa using (C.tyok _ _ he).len
  -- a new block
  have grow : cap1 = n ∨ n + 1 > cap1 → (∀ (a1 : Addr), ad1 = some a1 → ∀ j u, xs[j]? = some u → w.cell? (a1.add j) = some u) → (ad1 = none → n = 0 ∧ cap1 = 0) →
      wpK C.P C.ro C.Q (.ops R (⟨d, .call ⟨.builtin .append, #[x, y], #[T, T]⟩, t, pos, aft, none⟩ :: l) :: K) .normal a w := by
    intro hfull holds hnil
    cases ad1 with
    | some a1 =>
      have hr := run_append_grow (P := C.P) w T t e i z0 g1 hi hz0 a1 n cap1 xs (by rw [hs]; exact q1) (holds a1 rfl) ad 1 c news (by rw [hs, hl]; omega) hnews (by omega) (by omega) (growslice_fits (by omega) (by rw [hb']; exact hbytes))
      have hrun : (execOp a.eval ⟨d, .call ⟨.builtin .append, #[x, y], #[T, T]⟩, t, pos, aft, none⟩).run C.P w = .ok (.value (.slice (some ⟨w.heap.size, 0, none⟩) (n + 1) (grownCap w (n + 1) cap1 e))) (w.drew.alloc (.cells (xs.toArray ++ news.toArray ++ Builtin.zeroCells z0.cells (grownCap w (n + 1) cap1 e - (n + 1))) e)) := by
        simp only [execOp, resolve, invoke, builtin, Sem.run_bind, Sem.run_pure, Result.andThen_ok, List.map_toArray, List.map_cons, List.map_nil, hxv, hyv, hr]
      refine K_value rfl hrun ?_
      have hge := grownCap_ge w (n + 1) cap1 e
      have hm : Mem C (stk k (w.heap.size, .o (.cells (xs.toArray ++ news.toArray ++ Builtin.zeroCells z0.cells (grownCap w (n + 1) cap1 e - (n + 1))) e)) s.own) s.G (w.drew.alloc (.cells (xs.toArray ++ news.toArray ++ Builtin.zeroCells z0.cells (grownCap w (n + 1) cap1 e - (n + 1))) e)) :=
        hS.mem.drew.put hk rfl rfl rfl (by simp) (fun j hj _ => alloc_old _ _ hj) (alloc_new _ _) (fun g' => ⟨fun q => .inr (by simp only [OO.blks] at q; show w.heap.size ≤ g'; omega), fun q => .inr (by simp only [OO.mut] at q; show w.heap.size ≤ g'; omega)⟩)
      have hq : (n + 1) * te.size ≤ grownCap w (n + 1) cap1 e * te.size := Nat.mul_le_mul_right _ hge
      have hcl : (xs.toArray ++ news.toArray ++ Builtin.zeroCells z0.cells (grownCap w (n + 1) cap1 e - (n + 1))).size = grownCap w (n + 1) cap1 e * te.size := by
        simp only [Array.size_append, List.size_toArray, size_zeroCells, hzs]
        rw [Nat.sub_mul, Nat.succ_mul, q1, hl]
        rw [Nat.succ_mul] at hq; omega
      have := h w.heap.size 0 (grownCap w (n + 1) cap1 e) (xs.toArray ++ news.toArray ++ Builtin.zeroCells z0.cells (grownCap w (n + 1) cap1 e - (n + 1))) ⟨by rw [hcl]; omega, by simp only [List.length_append, q1, hl]; rw [Nat.succ_mul] at hq; omega, fun j hj => by
        rw [Nat.zero_add, Array.getElem?_append_left (by simpa using hj)]
        simp⟩ (by omega) _ _ (hS.put hd (.v (.slice (some ⟨w.heap.size, 0, none⟩) (n + 1) (grownCap w (n + 1) cap1 e))) hm)
      simpa only [SV.den] using this
    | none =>
      obtain ⟨hn0, hc0⟩ := hnil rfl
      subst hn0 hc0
      have hx0 : xs = [] := List.eq_nil_of_length_eq_zero (by simpa using q1)
      subst hx0
      obtain ⟨v', w', hr, k1, k2, k3⟩ := append_row (P := C.P) (w := w) 0 T t e g1 (C.tyok _ _ he) hsz (.slice none 0 0) 0 [] (World.ownsRow_nil w 0 e te.size) ad 1 c news (by omega) hnews h1 h63 hbytes (Nat.zero_le _)
      have hrun : (execOp a.eval ⟨d, .call ⟨.builtin .append, #[x, y], #[T, T]⟩, t, pos, aft, none⟩).run C.P w = .ok (.value v') w' := by
        simp only [execOp, resolve, invoke, builtin, Sem.run_bind, Sem.run_pure, Result.andThen_ok, List.map_toArray, List.map_cons, List.map_nil, hxv, hyv, hr]
      refine K_value rfl hrun ?_
      rcases k1.2 with ⟨_, f2⟩ | ⟨g0, cap', cur, rfl, hbg, hgg, hnc', hcm, hcss, htake⟩
      · omega
      have hng : w.heap.size ≤ g0 := (k3 g0 rfl).elim (fun q => by cases q) id
      have hm : Mem C (stk k (g0, .o (.cells cur e)) s.own) s.G w' :=
        hS.mem.put hk k2.os k2.tape k2.output k2.size (fun j hj _ => k2.block j hj (fun q => by cases q)) hgg (fun g' => ⟨fun q => .inr (by simp only [OO.blks] at q; omega), fun q => .inr (by simp only [OO.mut] at q; omega)⟩)
      have hq : (0 + 1) * te.size ≤ cap' * te.size := Nat.mul_le_mul_right _ (by omega)
      have := h g0 0 cap' cur ⟨by omega, by simp only [List.nil_append, hl]; omega, fun j hj => by
        have h0 := congrArg (fun l => l[j]?) htake
        simp only [List.getElem?_take] at h0
        simp only [List.nil_append] at hj
        rw [if_pos (by omega)] at h0
        rw [Nat.zero_add, ← Array.getElem?_toList]; exact h0⟩ (by omega) _ _ (hS.put hd (.v (.slice (some ⟨g0, 0, none⟩) (0 + 1) cap')) hm)
      simpa only [SV.den] using this
  rcases hq with ⟨hZ0, hcn, hc0⟩ | ⟨g, off, cur, rfl, hb, hqs, hZg, hMg⟩
  · have hxs : n = 0 → xs = [] := fun h0 => List.eq_nil_of_length_eq_zero (by rw [q1, h0, Nat.zero_mul])
    refine grow (.inl hcn) (fun a1 ha1 j u hu => ?_) (fun h0 => ?_)
    · rcases hc0 with h0 | ⟨b0, off0, e0, hat⟩
      · rw [hxs h0] at hu; simp at hu
      · rw [ha1] at e0; cases e0
        obtain ⟨arr, e2, fz, f1, f2, f3⟩ := hat
        have hj := (List.getElem?_eq_some_iff.1 hu).1
        rw [add_none, cell_at (hS.mem.has _ _ (hG0 _ _ f1)), f3 j hj]; exact hu
    · rcases hc0 with h0' | ⟨b0, off0, e0, _⟩
      · exact ⟨h0', by omega⟩
      · rw [h0] at e0; cases e0
  · by_cases hroom : n + 1 ≤ cap1
    · have hfit : off + n * te.size + news.length ≤ cur.size := by
        have h0 := Nat.mul_le_mul_right te.size hroom
        rw [Nat.succ_mul] at h0
        have := hqs.1
        omega
      have hr := run_append_roomQ (P := C.P) t g1 (C.tyok _ _ he) hb (c := c) hnews h1 hl hroom hfit
      have hrun : (execOp a.eval ⟨d, .call ⟨.builtin .append, #[x, y], #[T, T]⟩, t, pos, aft, none⟩).run C.P w = .ok (.value (.slice (some ⟨g, off, none⟩) (n + 1) cap1)) (setBlk w g (.cells (cur.toList.take (off + n * te.size) ++ news ++ cur.toList.drop (off + n * te.size + news.length)).toArray e)) := by
        simp only [execOp, resolve, invoke, builtin, Sem.run_bind, Sem.run_pure, Result.andThen_ok, List.map_toArray, List.map_cons, List.map_nil, hxv, hyv, hr]
      refine K_value rfl hrun ?_
      have hlt := lt_of_heap hb
      have hm : Mem C (stk k (g, .o (.cells (cur.toList.take (off + n * te.size) ++ news ++ cur.toList.drop (off + n * te.size + news.length)).toArray e)) s.own) s.G (setBlk w g (.cells (cur.toList.take (off + n * te.size) ++ news ++ cur.toList.drop (off + n * te.size + news.length)).toArray e)) :=
        hS.mem.put hk rfl rfl rfl (by rw [setBlk_size]; exact Nat.le_refl _) (fun j _ hj => setBlk_ne (fun q => hj (by subst q; exact hMg)) _) (setBlk_same hlt _) (fun g' => ⟨fun q => .inl (by simp only [OO.blks] at q ⊢; subst q; exact hMZ _ hMg), fun q => .inl (by simp only [OO.mut] at q ⊢; subst q; exact hMg)⟩)
      have := h g off cap1 _ (hqs.app q1 hl hroom) hroom _ _ (hS.put hd (.v (.slice (some ⟨g, off, none⟩) (n + 1) cap1)) hm)
      simpa only [SV.den] using this
    · refine grow (.inr (by omega)) (fun a1 ha1 j u hu => ?_) (fun h0 => by cases h0)
      cases ha1
      have hj := (List.getElem?_eq_some_iff.1 hu).1
      rw [add_none, cell_at hb, hqs.2.2 j hj]; exact hu
theorem go_qthing (k : Nat) {g off n cap size : Nat} {e : TypeId} {cur : Array Value} {xs : List Value} (hk : lk k s.own = some (g, .o (.cells cur e))) (hq : QSz cur off cap size xs) (hn : xs.length = n * size) (hc : n ≤ cap)
    (h : ∀ Z b, SGo C K ⟨s.sl, stk k (b, .z (ZQ G0 e size (.slice (some ⟨g, off, none⟩) n cap) n xs) Z Z) s.own, s.G, s.df⟩) : SGo C K s := by
  intro a w hS
  have hb := (hS.mem.own _ _ _ hk).1
  simp only [OO.holds] at hb
  refine h (fun j => j = g) 0 a w ⟨hS.sl, hS.nt, hS.df, hS.mem.put hk rfl rfl rfl (Nat.le_refl _) (fun _ _ _ => rfl) ?_ (fun g' => ⟨.inl, .inl⟩)⟩
  exact ⟨hn, _, cap, rfl, hc, fun _ h => h, .inr ⟨g, off, cur, rfl, hb, hq, fun _ h => h, rfl⟩⟩
theorem go_qrow (k : Nat) {b n size : Nat} {e : TypeId} {v : Value} {xs : List Value} (hk : lk k s.own = some (b, .row v e size n xs)) (h : ∀ Z b, SGo C K ⟨s.sl, stk k (b, .z (ZQ G0 e size v n xs) Z Z) s.own, s.G, s.df⟩) : SGo C K s := by
  intro a w hS
  have hr := (hS.mem.own _ _ _ hk).1
  simp only [OO.holds] at hr
  rcases hr.2 with ⟨rfl, h0⟩ | ⟨g, cap, cur, rfl, hbg, hgg, hnc, hcm, hcss, htake⟩
  · refine h (fun _ => False) 0 a w ⟨hS.sl, hS.nt, hS.df, hS.mem.put hk rfl rfl rfl (Nat.le_refl _) (fun _ _ _ => rfl) ?_ (fun g' => ⟨fun q => q.elim, fun q => q.elim⟩)⟩
    exact ⟨hr.1, none, 0, by rw [h0], by omega, fun _ h => h, .inl ⟨fun _ h => h, h0.symm, .inl h0⟩⟩
  · refine h (fun j => j = g) 0 a w ⟨hS.sl, hS.nt, hS.df, hS.mem.put hk rfl rfl rfl (Nat.le_refl _) (fun _ _ _ => rfl) ?_ (fun g' => ⟨fun q => .inl (by simp only [OO.blks, Value.ownBlock] at q ⊢; rw [q]), fun q => .inl (by simp only [OO.mut, Value.ownBlock] at q ⊢; rw [q])⟩)⟩
    have hq : n * size ≤ cap * size := Nat.mul_le_mul_right _ hnc
    refine ⟨hr.1, _, cap, rfl, hnc, fun _ h => h, .inr ⟨g, 0, cur, rfl, hgg, ⟨by omega, by rw [hr.1]; exact hq, fun i hi => ?_⟩, fun _ h => h, rfl⟩⟩
    have h0 := congrArg (fun l => l[i]?) htake
    simp only [List.getElem?_take] at h0
    rw [if_pos (by rw [← hr.1]; exact hi)] at h0
    rw [Nat.zero_add, ← Array.getElem?_toList]; exact h0
theorem go_qnew (k : Nat) {α : Type} (r : Rp α) {e : TypeId} {v : Value} {xs : List α} (hk : lk k s.own = none) (hmh : C.mh ≤ k) {ad : Option Addr} (hv : v = .slice ad xs.length xs.length) (hS : r.S s.G xs v)
    (h : ∀ Z b cs, r.L s.G xs cs → SGo C K ⟨s.sl, stk k (b, .z (ZQ s.G e r.size v xs.length cs) Z Z) s.own, s.G, s.df⟩) : SGo C K s := by
  obtain ⟨h63, ad', cap', e', hc⟩ := hS
  rw [hv] at e'
  cases e'
  intro a w hSt
  rcases hc with h0 | ⟨b, off, cs, rfl, hat, hL⟩
  · subst h0
    refine h (fun _ => False) 0 [] rfl a w ⟨hSt.sl, hSt.nt, hSt.df, hSt.mem.new hk hmh rfl rfl rfl (Nat.le_refl _) (fun _ _ => rfl) ?_ (fun g' q => q.elim)⟩
    exact ⟨by simp, ad, 0, hv, by simp, fun _ h => h, .inl ⟨fun _ h => h, rfl, .inl rfl⟩⟩
  · refine h (fun _ => False) 0 cs hL a w ⟨hSt.sl, hSt.nt, hSt.df, hSt.mem.new hk hmh rfl rfl rfl (Nat.le_refl _) (fun _ _ => rfl) ?_ (fun g' q => q.elim)⟩
    exact ⟨Rp.L_len hL, _, xs.length, hv, Nat.le_refl _, fun _ h => h, .inl ⟨fun _ h => h, rfl, .inr ⟨b, off, rfl, hat⟩⟩⟩
theorem go_qval (k : Nat) {b n size : Nat} {e : TypeId} {v : Value} {xs : List Value} {Z : Nat → Prop} (hk : lk k s.own = some (b, .z (ZQ G0 e size v n xs) Z Z))
    (h : ∀ ad cap, v = .slice ad n cap → n ≤ cap → xs.length = n * size → (0 < n → ∃ b off, ad = some ⟨b, off, none⟩) → SGo C K s) : SGo C K s := by
  intro a w hS
  have hA := (hS.mem.own _ _ _ hk).1
  simp only [OO.holds] at hA
  obtain ⟨q1, ad1, cap1, hv, hnc, hMZ, hq⟩ := hA
  refine h ad1 cap1 hv hnc q1 (fun h0 => ?_) a w hS
  rcases hq with ⟨_, _, hc0⟩ | ⟨g, off, cur, rfl, _⟩
  · rcases hc0 with h0' | ⟨b, off, rfl, _⟩
    · omega
    · exact ⟨b, off, rfl⟩
  · exact ⟨g, off, rfl⟩
theorem quiet_loadQ (k : Nat) {T : TypeId} {x : Operand} {ti : TI} {b b' off o n cap size : Nat} {e : TypeId} {xs : List Value} {Z : Nat → Prop}
    (hT : C.ty T = some ti) (hx : ev sl x = some (.v (.pointer (some ⟨b, o, none⟩)))) (h1 : ti.k.agg = false → ti.size = 1) (hk : lk k own = some (b', .z (ZQ G0 e size (.slice (some ⟨b, off, none⟩) n cap) n xs) Z Z)) (hG0 : Le G0 G) {m : Nat} (ho : o = off + m) (hl : m + ti.size ≤ xs.length) (hne : 0 < ti.size) :
    Quiet C sl own G (.load T x) (ldV ti.k.agg ((xs.drop m).take ti.size)) := by
  intro a w d t pos aft g hs hh
  have hxv := ev_ok hs hx
  simp only [SV.den] at hxv
  have hA := hh.1 _ _ _ hk
  simp only [OO.holds] at hA
  obtain ⟨q1, ad1, cap1, hv, hnc, hMZ, hq⟩ := hA
  cases hv
  have hw : Has w (fun j => w.heap[j]?) := fun _ _ e => e
  have hat : ti.size = 0 ∨ At (fun j => w.heap[j]?) b off xs := by
    rcases hq with ⟨_, _, hc0⟩ | ⟨g, off', cur, e1, hb, hqs, _⟩
    · rcases hc0 with h0' | ⟨b0, off0, e0, hat⟩
      · subst h0'
        left; simp only [Nat.zero_mul] at q1; omega
      · cases e0
        right
        obtain ⟨arr, e2, fz, f1, f2, f3⟩ := hat
        exact ⟨arr, e2, fz, hh.2 _ _ (hG0 _ _ f1), f2, f3⟩
    · cases e1
      exact .inr (hqs.at hb)
  subst ho
  rcases hat with h0 | hat
  · omega
  · have hat2 := hat.sub m ti.size hl
    simp only [execOp, hxv, Instr.loadAt, Instr.sureAddr, Sem.run_bind, Sem.run_pure, Result.andThen_ok, at_load (C.tyok _ _ hT) (w := w) (G := fun j => w.heap[j]?) hw hat2 (by simp; omega) h1]
theorem go_storeQ (k : Nat) {T e : TypeId} {x y : Operand} {ti : TI} {g off m o cap size : Nat} {cur : Array Value} {xs : List Value} {z : SV} {vs : List SV}
    (hd : dOk C.nt d = true) (hT : C.ty T = some ti) (hx : ev s.sl x = some (.v (.pointer (some ⟨g, o, none⟩)))) (hy : ev s.sl y = some z) (hcs : z.cs = some vs) (hlen : vs.length = ti.size) (hone : vs.all SV.one = true)
    (hk : lk k s.own = some (g, .o (.cells cur e))) (hq : QSz cur off cap size xs) (ho : o = off + m) (hm : m + vs.length ≤ xs.length)
    (h : ∀ cur', QSz cur' off cap size (xs.take m ++ dens vs ++ xs.drop (m + (dens vs).length)) → SGo C (.ops R l :: K) ⟨putS d (.v undef) s.sl, stk k (g, .o (.cells cur' e)) s.own, s.G, s.df⟩) : SGo C (.ops R (⟨d, .store T x y, t, pos, aft, none⟩ :: l) :: K) s := by
  intro a w hS
  have hxv := ev_ok hS.sl hx
  have hyv := ev_ok hS.sl hy
  simp only [SV.den] at hxv
  have hc := SV.cs_ok hcs
  have hdl : (dens vs).length = vs.length := by simp [dens_eq]
  have hsz : (dens vs).toArray.size = ti.size := by simp [hdl, hlen]
  have hb := (hS.mem.own _ _ _ hk).1
  simp only [OO.holds] at hb
  have hqs := hq.put (c := dens vs) (m := m) (by omega)
  have hfit : off + m + (dens vs).length ≤ cur.toList.length := by have := hq.1; have := hq.2.1; simp; omega
  have hlay : lay cur.toList (o + 0) (dens vs) = some (cur.toList.take (off + m) ++ dens vs ++ cur.toList.drop (off + m + (dens vs).length)) := by
    rw [Nat.add_zero, ho]; exact lay_put hfit
  have hst := run_storeCells (P := C.P) (b := g) (off := o) (e := e) (dens vs) 0 w cur.toList _ (by simpa using hb) (fun u hu => by
    rw [dens_eq, List.mem_map] at hu
    obtain ⟨q, hq, rfl⟩ := hu
    exact SV.one_ok (List.all_eq_true.1 hone q hq)) hlay
  have hrun : (execOp a.eval ⟨d, .store T x y, t, pos, aft, none⟩).run C.P w = .ok .skip (setBlk w g (.cells (cur.toList.take (off + m) ++ dens vs ++ cur.toList.drop (off + m + (dens vs).length)).toArray e)) := by
    simp only [execOp, hxv, hyv, Instr.storeAt, Instr.sureAddr, storeVar, Sem.run_bind, Sem.run_pure, Result.andThen_ok, run_size w (C.tyok _ _ hT), hc, hsz]
    simp only [ne_eq, not_true_eq_false, if_false, Sem.run_pure, Result.andThen_ok]
    rw [hst]; simp
  have hlt := lt_of_heap hb
  have hm' := hS.mem.put hk (b' := g) (o' := .o (.cells (cur.toList.take (off + m) ++ dens vs ++ cur.toList.drop (off + m + (dens vs).length)).toArray e)) (w' := setBlk w g (.cells (cur.toList.take (off + m) ++ dens vs ++ cur.toList.drop (off + m + (dens vs).length)).toArray e)) rfl rfl rfl (by rw [setBlk_size]; exact Nat.le_refl _) (fun j _ hj => setBlk_ne (fun q => hj q) _) (setBlk_same hlt _) (fun g => ⟨.inl, .inl⟩)
  refine K_skip rfl hrun ?_
  have := h _ hqs _ _ (hS.put hd (.v undef) hm')
  simpa only [SV.den] using this
theorem go_qtail (k : Nat) {b n cap size : Nat} {e : TypeId} {ad : Option Addr} {xs : List Value} {Z : Nat → Prop} (hk : lk k s.own = some (b, .z (ZQ G0 e size (.slice ad (n + 1) cap) (n + 1) xs) Z Z))
    (h : ∀ Z b, SGo C K ⟨s.sl, stk k (b, .z (ZQ G0 e size (sliced ad cap 1 (n + 1) size) n (xs.drop size)) Z Z) s.own, s.G, s.df⟩) : SGo C K s := by
  intro a w hS
  have hA := (hS.mem.own _ _ _ hk).1
  simp only [OO.holds] at hA
  refine h Z b a w ⟨hS.sl, hS.nt, hS.df, hS.mem.put hk rfl rfl rfl (Nat.le_refl _) (fun _ _ _ => rfl) ?_ (fun g' => ⟨.inl, .inl⟩)⟩
  obtain ⟨q1, ad1, cap1, hv, hnc, hMZ, hq⟩ := hA
  cases hv
  have hsl : sliced ad cap 1 (n + 1) size = .slice (if cap = 1 then ad else ad.map (·.add (1 * size))) n (cap - 1) := by simp [sliced]
  rw [Nat.succ_mul] at q1
  refine ⟨by rw [List.length_drop, q1]; omega, _, _, hsl, by omega, hMZ, ?_⟩
  rcases hq with ⟨hZ0, hcn, hc0⟩ | ⟨g, off, cur, rfl, hb, hqs, hZg, hMg⟩
  · refine .inl ⟨hZ0, by omega, ?_⟩
    by_cases hn : n = 0
    · exact .inl hn
    · rcases hc0 with h0 | ⟨b0, off0, rfl, hat⟩
      · omega
      · refine .inr ⟨b0, off0 + size, ?_, hat.drop size (by omega)⟩
        rw [if_neg (by omega)]
        simp [add_none]
  · refine .inr ⟨g, if cap = 1 then off else off + size, cur, ?_, hb, ?_, hZg, hMg⟩
    · split
      · rfl
      · simp [add_none]
    · obtain ⟨f1, f2, f3⟩ := hqs
      by_cases hc1 : cap = 1
      · rw [if_pos hc1]
        have hn : n = 0 := by omega
        subst hc1 hn
        have : xs.drop size = [] := List.drop_eq_nil_of_le (by omega)
        rw [this]
        exact ⟨by simp; omega, by simp, fun i hi => by simp at hi⟩
      · rw [if_neg hc1]
        obtain ⟨c, rfl⟩ : ∃ c, cap = c + 1 := ⟨cap - 1, by omega⟩
        rw [Nat.succ_mul] at f1 f2
        refine ⟨by rw [Nat.add_sub_cancel]; omega, by rw [Nat.add_sub_cancel, List.length_drop]; omega, fun i hi => ?_⟩
        rw [List.length_drop] at hi
        rw [List.getElem?_drop, ← f3 (size + i) (by omega), Nat.add_assoc]
theorem rmk_stk {α : Type} (k : Nat) (x : α) : ∀ l : List (Nat × α), rmk k (stk k x l) = rmk k l
  | [] => by simp [stk, rmk]
  | y :: l => by
    simp only [stk]
    split
    · rename_i h; simp [rmk, h]
    · rename_i h; simp [rmk, h, rmk_stk k x l]
theorem go_qpub {α : Type} (r : Rp α) (k : Nat) {b n : Nat} {e : TypeId} {v : Value} {xs : List Value} {ts : List α} {Z : Nat → Prop} (hk : lk k s.own = some (b, .z (ZQ G0 e r.size v n xs) Z Z)) (hG0 : Le G0 s.G) (hmh : C.mh ≤ k) (hn : n = ts.length) (h63 : n ≤ 9223372036854775807) (hL : r.L s.G ts xs)
    (h : ∀ G', Le s.G G' → r.S G' ts v → SGo C K ⟨s.sl, rmk k s.own, G', s.df⟩) : SGo C K s := by
  intro a w hS
  have hA := (hS.mem.own _ _ _ hk).1
  simp only [OO.holds] at hA
  obtain ⟨q1, ad1, cap1, rfl, hnc, hMZ, hq⟩ := hA
  subst hn
  rcases hq with ⟨hZ0, hcn, hc0⟩ | ⟨g, off, cur, rfl, hb, hqs, hZg, hMg⟩
  · refine go_drop k (h s.G (Le.refl _) ⟨h63, _, _, rfl, ?_⟩) a w hS
    rcases hc0 with h0 | ⟨b0, off0, rfl, hat⟩
    · exact .inl (List.length_eq_zero_iff.1 h0)
    · exact .inr ⟨b0, off0, xs, rfl, hat.mono hG0, hL⟩
  · have hm' : Mem C (stk k (g, .o (.cells cur e)) s.own) s.G w := hS.mem.put hk rfl rfl rfl (Nat.le_refl _) (fun _ _ _ => rfl) hb (fun g' => ⟨fun q => .inl (by simp only [OO.blks] at q ⊢; subst q; exact hMZ _ hMg), fun q => .inl (by simp only [OO.mut] at q ⊢; subst q; exact hMg)⟩)
    refine go_pubx (s := ⟨s.sl, stk k (g, .o (.cells cur e)) s.own, s.G, s.df⟩) k (b := g) (g := g) (o := .o (.cells cur e)) (x := .cells cur e) (by rw [lk_stk, if_pos rfl]) hmh rfl (fun _ hw => hw) (fun G' hle hg' => ?_) a w ⟨hS.sl, hS.nt, hS.df, hm'⟩
    rw [rmk_stk]
    refine h G' hle ⟨h63, _, _, rfl, .inr ⟨g, off, xs, rfl, ⟨cur, e, _, hg', by have := hqs.1; have := hqs.2.1; omega, hqs.2.2⟩, Rp.L_mono hle hL⟩⟩
end
end Go.Sx
namespace Go.Proofs.Ytpmmbjcgabnloaa
set_option linter.unusedSimpArgs false
set_option linter.unusedVariables false
open Go.Sx
set_option maxHeartbeats 8000000
set_option maxRecDepth 20000
def noneV : VT := .mk 0 0 []
def unitV : VT := .mk 1 0 []
def intV (n : Int) : VT := .mk 2 n []
def StO (G0 : Hp) (b : Nat) (s : MS) (G : Hp) (ow : Lds) : Prop := ∃ (vv pv : Value) (bz : Nat) (Z : Nat → Prop) (b2 : Nat) (xs ys : List Value),
  ow = [(b, .c 44 [.v vv, .v pv]), (bz, .z (ZQ G0 28 3 vv s.vals.length xs) Z Z), (b2, .row pv 55 4 s.ps.length ys)] ∧
  rV.L G s.vals xs ∧ rPo.L G s.ps ys ∧ s.vals.length ≤ 1000000 ∧ s.ps.length ≤ 1000000
def boxP (s : MS) (o : Op) : MS × VT × Bool :=
  if o.kd = 0 then (⟨s.vals ++ [o.arg], s.ps⟩, unitV, true) else
  match s.vals with
  | [] => (s, noneV, false)
  | v :: r => (⟨r, s.ps⟩, v, true)
def doPost (G0 : Hp) (b : Nat) (r : MS × VT × Bool) (v : Value) (G : Hp) (ow : Lds) : Prop := ∃ sl, v = .tuple #[.agg #[.int .i64 r.2.1.k, .int .i64 r.2.1.n, sl], .bool r.2.2] ∧ r.2.1.rep G sl ∧ tsz r.2.1 ≤ 1048576 ∧ StO G0 b r.1 G ow
theorem doBox_ok (s : MS) (o : Op) (sa sr : Value) (b : Nat) (ow : Lds) (G0 G : Hp) (hGl : Le G0 G) (hs : StO G0 b s G ow) (ho : o.rep G sa sr) (hl : s.vals.length < 1000000) :
    PureW Try.prog 62 [.pointer (some ⟨b, 0, none⟩), .agg (opL o sa sr).toArray] G ow (doPost G0 b (boxP s o)) := by
  obtain ⟨vv, pv, bz, Z, b2, xs, ys, rfl, hL, hM, hl1, hl2⟩ := hs
  obtain ⟨ada, capa, rfl⟩ := VT.rep_slice ho.a
  refine enterW ty tyok Try.func62 rfl Try.ntmps62 [.p 0 b 0, .a (opC o (.slice ada o.arg.l.length capa) sr)] (by simp) (mh := 3) rfl ?_
  simp only [opC]
  intro C hP hQ hnt hty hmb hmh hro hG0 hmub; have hQp := qp_body hQ; refine st_ ?_
  simp only [enumO]
  refine go_rowC 2 rfl ?_
  rintro adp capp rfl hcp
  refine go_qval 1 rfl ?_
  rintro adv capv rfl hcv hxl hpos
  refine rn_ ?_; intros
  rename_i b3 b4
  refine x_split rfl rfl rfl (fun hk => ?_) (fun hk => ?_) <;> (refine st_ ?_; (refine ru_ ?_; intros))
  · refine rn_ ?_; intros
    refine x_held [(3, b3, .c 40 [.v (.int .i64 o.th), .v (.int .i64 o.kd), .v (.int .i64 o.arg.k), .v (.int .i64 o.arg.n), .v (.slice ada o.arg.l.length capa), .v (.int .i64 o.res.k), .v (.int .i64 o.res.n), .v sr, .v (.int .i64 o.fr), .v (.int .i64 o.to), .v (.bool o.dn)])] rfl (by rw [hP]; kernel_rfl) rfl rfl rfl ?_; refine st_ ?_
    refine h_take 0 rfl (by kernel_rfl) (by kernel_rfl) (by kernel_rfl) hQp (by rw [hnt]; rfl) (allIn (by repeat (first | exact trivial | refine ⟨rfl, ?_⟩))) (by first | exact Le.refl _ | assumption) (quiet_op (by rw [hty]; first | rfl | (refine st_ ?_; rfl))) ?_; refine st_ ?_
    refine h_take 1 rfl (by kernel_rfl) (by kernel_rfl) (by kernel_rfl) hQp (by rw [hnt]; rfl) (allIn (by repeat (first | exact trivial | refine ⟨rfl, ?_⟩))) (by first | exact Le.refl _ | assumption) (quiet_op (by rw [hty]; first | rfl | (refine st_ ?_; rfl))) ?_; refine st_ ?_
    refine h_take 2 rfl (by kernel_rfl) (by kernel_rfl) (by kernel_rfl) hQp (by rw [hnt]; rfl) (allIn (by repeat (first | exact trivial | refine ⟨rfl, ?_⟩))) (by first | exact Le.refl _ | assumption) (quiet_op (by rw [hty]; first | rfl | (refine st_ ?_; rfl))) ?_; refine st_ ?_
    refine h_take 4 rfl (by kernel_rfl) (by kernel_rfl) (by kernel_rfl) hQp (by rw [hnt]; rfl) (allIn (by repeat (first | exact trivial | refine ⟨rfl, ?_⟩))) (by first | exact Le.refl _ | assumption) (quiet_op (by rw [hty]; first | rfl | (refine st_ ?_; rfl))) ?_; refine st_ ?_
    refine h_take 5 rfl (by kernel_rfl) (by kernel_rfl) (by kernel_rfl) hQp (by rw [hnt]; rfl) (allIn (by repeat (first | exact trivial | refine ⟨rfl, ?_⟩))) (by first | exact Le.refl _ | assumption) (quiet_op (by rw [hty]; first | rfl | (refine st_ ?_; rfl))) ?_; refine st_ ?_
    have hfix : ∀ z c : List Value, z.length = 3 → c.length = 3 → (xs ++ z).take (s.vals.length * 3) ++ c ++ (xs ++ z).drop (s.vals.length * 3 + c.length) = xs ++ c := fun z c h1 h2 => by
      rw [← hxl, List.take_left, List.drop_eq_nil_of_le (by simp; omega), List.append_nil]
    refine h_two 3 7 rfl rfl (by kernel_rfl) ?_ ?_
    · refine rn_ ?_; intros
      refine h_hs (allIn (by repeat (first | exact trivial | refine ⟨rfl, ?_⟩))) (by first | exact Le.refl _ | assumption) ?_
      refine h_take 6 rfl (by kernel_rfl) (by kernel_rfl) (by kernel_rfl) hQp (by rw [hnt]; rfl) (allIn (by repeat (first | exact trivial | refine ⟨rfl, ?_⟩))) (by first | exact Le.refl _ | assumption) (quiet_op (by rw [hty]; first | rfl | (refine st_ ?_; rfl))) ?_; refine st_ ?_
      refine h_one 7 rfl (by kernel_rfl) ?_
      refine rn_ ?_; intros
      refine h_hs (allIn (by repeat (first | exact trivial | refine ⟨rfl, ?_⟩))) (by first | exact Le.refl _ | assumption) ?_
      refine h_one 8 rfl (by kernel_rfl) ?_
      refine go_qapp 1 (by rw [hnt]; rfl) (by rw [hty]; rfl) (by rw [hty]; rfl) (by decide) rfl rfl rfl hGl rfl (src_own 3 rfl rfl) rfl (by simp [dens, SV.den, Value.oneCell']) (by omega) (by simp only []; omega) ?_
      intro g off cap cur hqs hcap
      refine rn_ ?_; intros
      refine h_hs (allIn (by repeat (first | exact trivial | refine ⟨rfl, ?_⟩))) (by first | exact Le.refl _ | assumption) ?_
      refine h_take 9 rfl (by kernel_rfl) (by kernel_rfl) (by kernel_rfl) hQp (by rw [hnt]; rfl) (allIn (by repeat (first | exact trivial | refine ⟨rfl, ?_⟩))) (by first | exact Le.refl _ | assumption) (x := .v (.pointer (some ⟨g, off + s.vals.length * 3, none⟩))) ((quiet_index (by rw [hty]; rfl) (by rw [hty]; rfl) rfl rfl rfl (by omega) (by omega)).cast rfl) ?_
      refine st_ ?_
      refine h_take 11 rfl (by kernel_rfl) (by kernel_rfl) (by kernel_rfl) hQp (by rw [hnt]; rfl) (allIn (by repeat (first | exact trivial | refine ⟨rfl, ?_⟩))) (by first | exact Le.refl _ | assumption) (quiet_op (by rw [hty]; first | rfl | (refine st_ ?_; rfl))) ?_; refine st_ ?_
      refine h_take 12 rfl (by kernel_rfl) (by kernel_rfl) (by kernel_rfl) hQp (by rw [hnt]; rfl) (allIn (by repeat (first | exact trivial | refine ⟨rfl, ?_⟩))) (by first | exact Le.refl _ | assumption) (quiet_op (by rw [hty]; first | rfl | (refine st_ ?_; rfl))) ?_; refine st_ ?_
      refine h_two 10 13 rfl rfl (by kernel_rfl) ?_ ?_
      · refine go_storeQ 1 (m := s.vals.length * 3) (by rw [hnt]; rfl) (by rw [hty]; rfl) rfl rfl rfl rfl rfl rfl hqs rfl (by simp [dens]; omega) ?_
        intro cur' hqs'
        refine rn_ ?_; intros
        refine h_hs (allIn (by repeat (first | exact trivial | refine ⟨rfl, ?_⟩))) (by first | exact Le.refl _ | assumption) ?_
        refine h_one 13 rfl (by kernel_rfl) ?_
        refine rn_ ?_; intros
        refine h_hs (allIn (by repeat (first | exact trivial | refine ⟨rfl, ?_⟩))) (by first | exact Le.refl _ | assumption) ?_
        refine h_end (by kernel_rfl) ?_
        rw [hfix _ _ rfl rfl] at hqs'
        refine go_qthing (G0 := G0) (n := s.vals.length + 1) 1 rfl hqs' (by simp [dens]; omega) hcap ?_
        intro Z' bz'
        refine st_ ?_
        refine rn_ ?_; intros
        refine go_callf (by rw [hnt]; rfl) (by rw [hP]; kernel_rfl) rfl (hP ▸ unit_ok _) ?_; refine rn_ ?_; intros
        refine x_retW rfl hQ hmb hmh hG0 hmub rfl rfl (by rw [hty]; simp only [so, sq, zy, zz, tyE, SO', SQ', opQ, opStore, opAlloc, ev, putS, dOk, cv, SV.cs, SV.one, SV.bool?, eqB, Value.oneCell', ldOwn, binInt, binConst, binBool, binStr, isC, TK.agg, rv, rv1, ldV, resOne, resV, Nat.reduceAdd, Nat.reduceMul, Nat.reduceSub, Nat.reduceLT, Nat.reduceLeDiff, Nat.reduceEqDiff, Nat.reduceBEq, reduceIte, reduceCtorEq, eq_self]; try rfl) rfl rfl (by simp only [enumO]; exact (by repeat (first | exact plain_nil | refine plain_cons (fun _ h => h) ?_))) ?_; simp only [SV.den, resV, dens]
        have hk' : o.kd = 0 := by simpa using hk
        have e : boxP s o = (⟨s.vals ++ [o.arg], s.ps⟩, unitV, true) := by rw [boxP, if_pos hk']
        rw [e]
        have e2 : (s.vals ++ [o.arg]).length = s.vals.length + 1 := by simp
        exact ⟨_, rfl, rep_leaf _ 1 0 (by simp [isI64]) (by simp [isI64]), by simp [unitV, tsz, tszL], _, _, _, _, _, _, _, by rw [e2], Rp.L_append hL (Rp.L_single ⟨_, rfl, ho.a, ho.ok.ba⟩), hM, by rw [e2]; omega, hl2⟩
      · refine rn_ ?_; intros
        refine h_hs (allIn (by repeat (first | exact trivial | refine ⟨rfl, ?_⟩))) (by first | exact Le.refl _ | assumption) ?_
        refine h_one 10 rfl (by kernel_rfl) ?_
        refine go_storeQ 1 (m := s.vals.length * 3) (by rw [hnt]; rfl) (by rw [hty]; rfl) rfl rfl rfl rfl rfl rfl hqs rfl (by simp [dens]; omega) ?_
        intro cur' hqs'
        refine rn_ ?_; intros
        refine h_hs (allIn (by repeat (first | exact trivial | refine ⟨rfl, ?_⟩))) (by first | exact Le.refl _ | assumption) ?_
        refine h_end (by kernel_rfl) ?_
        rw [hfix _ _ rfl rfl] at hqs'
        refine go_qthing (G0 := G0) (n := s.vals.length + 1) 1 rfl hqs' (by simp [dens]; omega) hcap ?_
        intro Z' bz'
        refine st_ ?_
        refine rn_ ?_; intros
        refine go_callf (by rw [hnt]; rfl) (by rw [hP]; kernel_rfl) rfl (hP ▸ unit_ok _) ?_; refine rn_ ?_; intros
        refine x_retW rfl hQ hmb hmh hG0 hmub rfl rfl (by rw [hty]; simp only [so, sq, zy, zz, tyE, SO', SQ', opQ, opStore, opAlloc, ev, putS, dOk, cv, SV.cs, SV.one, SV.bool?, eqB, Value.oneCell', ldOwn, binInt, binConst, binBool, binStr, isC, TK.agg, rv, rv1, ldV, resOne, resV, Nat.reduceAdd, Nat.reduceMul, Nat.reduceSub, Nat.reduceLT, Nat.reduceLeDiff, Nat.reduceEqDiff, Nat.reduceBEq, reduceIte, reduceCtorEq, eq_self]; try rfl) rfl rfl (by simp only [enumO]; exact (by repeat (first | exact plain_nil | refine plain_cons (fun _ h => h) ?_))) ?_; simp only [SV.den, resV, dens]
        have hk' : o.kd = 0 := by simpa using hk
        have e : boxP s o = (⟨s.vals ++ [o.arg], s.ps⟩, unitV, true) := by rw [boxP, if_pos hk']
        rw [e]
        have e2 : (s.vals ++ [o.arg]).length = s.vals.length + 1 := by simp
        exact ⟨_, rfl, rep_leaf _ 1 0 (by simp [isI64]) (by simp [isI64]), by simp [unitV, tsz, tszL], _, _, _, _, _, _, _, by rw [e2], Rp.L_append hL (Rp.L_single ⟨_, rfl, ho.a, ho.ok.ba⟩), hM, by rw [e2]; omega, hl2⟩
    · refine rn_ ?_; intros
      refine h_hs (allIn (by repeat (first | exact trivial | refine ⟨rfl, ?_⟩))) (by first | exact Le.refl _ | assumption) ?_
      refine h_one 3 rfl (by kernel_rfl) ?_
      refine rn_ ?_; intros
      refine h_hs (allIn (by repeat (first | exact trivial | refine ⟨rfl, ?_⟩))) (by first | exact Le.refl _ | assumption) ?_
      refine h_take 6 rfl (by kernel_rfl) (by kernel_rfl) (by kernel_rfl) hQp (by rw [hnt]; rfl) (allIn (by repeat (first | exact trivial | refine ⟨rfl, ?_⟩))) (by first | exact Le.refl _ | assumption) (quiet_op (by rw [hty]; first | rfl | (refine st_ ?_; rfl))) ?_; refine st_ ?_
      refine h_one 8 rfl (by kernel_rfl) ?_
      refine go_qapp 1 (by rw [hnt]; rfl) (by rw [hty]; rfl) (by rw [hty]; rfl) (by decide) rfl rfl rfl hGl rfl (src_own 3 rfl rfl) rfl (by simp [dens, SV.den, Value.oneCell']) (by omega) (by simp only []; omega) ?_
      intro g off cap cur hqs hcap
      refine rn_ ?_; intros
      refine h_hs (allIn (by repeat (first | exact trivial | refine ⟨rfl, ?_⟩))) (by first | exact Le.refl _ | assumption) ?_
      refine h_take 9 rfl (by kernel_rfl) (by kernel_rfl) (by kernel_rfl) hQp (by rw [hnt]; rfl) (allIn (by repeat (first | exact trivial | refine ⟨rfl, ?_⟩))) (by first | exact Le.refl _ | assumption) (x := .v (.pointer (some ⟨g, off + s.vals.length * 3, none⟩))) ((quiet_index (by rw [hty]; rfl) (by rw [hty]; rfl) rfl rfl rfl (by omega) (by omega)).cast rfl) ?_
      refine st_ ?_
      refine h_take 11 rfl (by kernel_rfl) (by kernel_rfl) (by kernel_rfl) hQp (by rw [hnt]; rfl) (allIn (by repeat (first | exact trivial | refine ⟨rfl, ?_⟩))) (by first | exact Le.refl _ | assumption) (quiet_op (by rw [hty]; first | rfl | (refine st_ ?_; rfl))) ?_; refine st_ ?_
      refine h_take 12 rfl (by kernel_rfl) (by kernel_rfl) (by kernel_rfl) hQp (by rw [hnt]; rfl) (allIn (by repeat (first | exact trivial | refine ⟨rfl, ?_⟩))) (by first | exact Le.refl _ | assumption) (quiet_op (by rw [hty]; first | rfl | (refine st_ ?_; rfl))) ?_; refine st_ ?_
      refine h_two 10 13 rfl rfl (by kernel_rfl) ?_ ?_
      · refine go_storeQ 1 (m := s.vals.length * 3) (by rw [hnt]; rfl) (by rw [hty]; rfl) rfl rfl rfl rfl rfl rfl hqs rfl (by simp [dens]; omega) ?_
        intro cur' hqs'
        refine rn_ ?_; intros
        refine h_hs (allIn (by repeat (first | exact trivial | refine ⟨rfl, ?_⟩))) (by first | exact Le.refl _ | assumption) ?_
        refine h_one 13 rfl (by kernel_rfl) ?_
        refine rn_ ?_; intros
        refine h_hs (allIn (by repeat (first | exact trivial | refine ⟨rfl, ?_⟩))) (by first | exact Le.refl _ | assumption) ?_
        refine h_end (by kernel_rfl) ?_
        rw [hfix _ _ rfl rfl] at hqs'
        refine go_qthing (G0 := G0) (n := s.vals.length + 1) 1 rfl hqs' (by simp [dens]; omega) hcap ?_
        intro Z' bz'
        refine st_ ?_
        refine rn_ ?_; intros
        refine go_callf (by rw [hnt]; rfl) (by rw [hP]; kernel_rfl) rfl (hP ▸ unit_ok _) ?_; refine rn_ ?_; intros
        refine x_retW rfl hQ hmb hmh hG0 hmub rfl rfl (by rw [hty]; simp only [so, sq, zy, zz, tyE, SO', SQ', opQ, opStore, opAlloc, ev, putS, dOk, cv, SV.cs, SV.one, SV.bool?, eqB, Value.oneCell', ldOwn, binInt, binConst, binBool, binStr, isC, TK.agg, rv, rv1, ldV, resOne, resV, Nat.reduceAdd, Nat.reduceMul, Nat.reduceSub, Nat.reduceLT, Nat.reduceLeDiff, Nat.reduceEqDiff, Nat.reduceBEq, reduceIte, reduceCtorEq, eq_self]; try rfl) rfl rfl (by simp only [enumO]; exact (by repeat (first | exact plain_nil | refine plain_cons (fun _ h => h) ?_))) ?_; simp only [SV.den, resV, dens]
        have hk' : o.kd = 0 := by simpa using hk
        have e : boxP s o = (⟨s.vals ++ [o.arg], s.ps⟩, unitV, true) := by rw [boxP, if_pos hk']
        rw [e]
        have e2 : (s.vals ++ [o.arg]).length = s.vals.length + 1 := by simp
        exact ⟨_, rfl, rep_leaf _ 1 0 (by simp [isI64]) (by simp [isI64]), by simp [unitV, tsz, tszL], _, _, _, _, _, _, _, by rw [e2], Rp.L_append hL (Rp.L_single ⟨_, rfl, ho.a, ho.ok.ba⟩), hM, by rw [e2]; omega, hl2⟩
      · refine rn_ ?_; intros
        refine h_hs (allIn (by repeat (first | exact trivial | refine ⟨rfl, ?_⟩))) (by first | exact Le.refl _ | assumption) ?_
        refine h_one 10 rfl (by kernel_rfl) ?_
        refine go_storeQ 1 (m := s.vals.length * 3) (by rw [hnt]; rfl) (by rw [hty]; rfl) rfl rfl rfl rfl rfl rfl hqs rfl (by simp [dens]; omega) ?_
        intro cur' hqs'
        refine rn_ ?_; intros
        refine h_hs (allIn (by repeat (first | exact trivial | refine ⟨rfl, ?_⟩))) (by first | exact Le.refl _ | assumption) ?_
        refine h_end (by kernel_rfl) ?_
        rw [hfix _ _ rfl rfl] at hqs'
        refine go_qthing (G0 := G0) (n := s.vals.length + 1) 1 rfl hqs' (by simp [dens]; omega) hcap ?_
        intro Z' bz'
        refine st_ ?_
        refine rn_ ?_; intros
        refine go_callf (by rw [hnt]; rfl) (by rw [hP]; kernel_rfl) rfl (hP ▸ unit_ok _) ?_; refine rn_ ?_; intros
        refine x_retW rfl hQ hmb hmh hG0 hmub rfl rfl (by rw [hty]; simp only [so, sq, zy, zz, tyE, SO', SQ', opQ, opStore, opAlloc, ev, putS, dOk, cv, SV.cs, SV.one, SV.bool?, eqB, Value.oneCell', ldOwn, binInt, binConst, binBool, binStr, isC, TK.agg, rv, rv1, ldV, resOne, resV, Nat.reduceAdd, Nat.reduceMul, Nat.reduceSub, Nat.reduceLT, Nat.reduceLeDiff, Nat.reduceEqDiff, Nat.reduceBEq, reduceIte, reduceCtorEq, eq_self]; try rfl) rfl rfl (by simp only [enumO]; exact (by repeat (first | exact plain_nil | refine plain_cons (fun _ h => h) ?_))) ?_; simp only [SV.den, resV, dens]
        have hk' : o.kd = 0 := by simpa using hk
        have e : boxP s o = (⟨s.vals ++ [o.arg], s.ps⟩, unitV, true) := by rw [boxP, if_pos hk']
        rw [e]
        have e2 : (s.vals ++ [o.arg]).length = s.vals.length + 1 := by simp
        exact ⟨_, rfl, rep_leaf _ 1 0 (by simp [isI64]) (by simp [isI64]), by simp [unitV, tsz, tszL], _, _, _, _, _, _, _, by rw [e2], Rp.L_append hL (Rp.L_single ⟨_, rfl, ho.a, ho.ok.ba⟩), hM, by rw [e2]; omega, hl2⟩
  have hk' : ¬ o.kd = 0 := by simpa using hk
  refine rn_ ?_; intros
  refine x_split rfl rfl rfl (fun h0 => ?_) (fun h0 => ?_) <;> (refine st_ ?_; (refine ru_ ?_; intros))
  · have h0' : s.vals = [] := by
      have h : ((s.vals.length : Int) == 0) = true := h0
      rw [beq_iff_eq] at h
      exact List.length_eq_zero_iff.1 (by omega)
    refine rn_ ?_; intros
    refine x_retW rfl hQ hmb hmh hG0 hmub rfl rfl (by rw [hty]; simp only [so, sq, zy, zz, tyE, SO', SQ', opQ, opStore, opAlloc, ev, putS, dOk, cv, SV.cs, SV.one, SV.bool?, eqB, Value.oneCell', ldOwn, binInt, binConst, binBool, binStr, isC, TK.agg, rv, rv1, ldV, resOne, resV, Nat.reduceAdd, Nat.reduceMul, Nat.reduceSub, Nat.reduceLT, Nat.reduceLeDiff, Nat.reduceEqDiff, Nat.reduceBEq, reduceIte, reduceCtorEq, eq_self]; try rfl) rfl rfl (by simp only [enumO]; exact (by repeat (first | exact plain_nil | refine plain_cons (fun _ h => h) ?_))) ?_; simp only [SV.den, resV, dens]
    have e : boxP s o = (s, noneV, false) := by rw [boxP, if_neg hk', h0']
    rw [e]
    exact ⟨_, rfl, rep_leaf _ 0 0 (by simp [isI64]) (by simp [isI64]), by simp [noneV, tsz, tszL], _, _, _, _, _, _, _, rfl, hL, hM, hl1, hl2⟩
  obtain ⟨vals, ps⟩ := s
  cases vals with
  | nil => simp at h0
  | cons v r =>
    simp only [] at *
    obtain ⟨c1, xs', rfl, ⟨sl, rfl, hrep, hbd⟩, hL'⟩ := hL
    obtain ⟨asl, csl, rfl⟩ := VT.rep_slice hrep
    obtain ⟨c2, off, rfl⟩ := hpos (by simp)
    refine rn_ ?_; intros
    refine go_q (by rw [hnt]; rfl) (quiet_index (by rw [hty]; rfl) (by rw [hty]; rfl) rfl rfl rfl (by omega) (by omega)) ?_
    refine rn_ ?_; intros
    refine go_q (v := .agg #[.int .i64 v.k, .int .i64 v.n, .slice asl v.l.length csl]) (by rw [hnt]; rfl) ((quiet_loadQ 1 (m := 0) (by rw [hty]; rfl) rfl (by simp [TK.agg]) rfl hGl (by simp) (by simp) (by simp)).cast rfl) ?_
    refine rn_ ?_; intros
    obtain ⟨ad', c', hsl⟩ := sliced_eq (some ⟨c2, off, none⟩) capv 1 (r.length + 1) 3
    refine go_q (v := .slice ad' r.length c') (by rw [hnt]; rfl) ((quiet_sliceLo (k := .i64) (n := 1) (by rw [hty]; rfl) (by rw [hty]; rfl) rfl rfl rfl (by omega) (by simp; omega)).cast hsl) ?_
    refine rn_ ?_; intros
    refine go_qtail 1 rfl ?_
    intro Z' bz'
    rw [hsl]
    refine st_ ?_
    refine x_retW rfl hQ hmb hmh hG0 hmub rfl rfl (by rw [hty]; simp only [so, sq, zy, zz, tyE, SO', SQ', opQ, opStore, opAlloc, ev, putS, dOk, cv, SV.cs, SV.one, SV.bool?, eqB, Value.oneCell', ldOwn, binInt, binConst, binBool, binStr, isC, TK.agg, rv, rv1, ldV, resOne, resV, Nat.reduceAdd, Nat.reduceMul, Nat.reduceSub, Nat.reduceLT, Nat.reduceLeDiff, Nat.reduceEqDiff, Nat.reduceBEq, reduceIte, reduceCtorEq, eq_self]; try rfl) rfl rfl (by simp only [enumO]; exact (by repeat (first | exact plain_nil | refine plain_cons (fun _ h => h) ?_))) ?_; simp only [SV.den, resV, dens]
    have e : boxP ⟨v :: r, ps⟩ o = (⟨r, ps⟩, v, true) := by rw [boxP, if_neg hk']
    rw [e]
    exact ⟨_, rfl, hrep, hbd, _, _, _, _, _, _, _, rfl, hL', hM, (by have h : (v :: r).length ≤ 1000000 := hl1; simp only [List.length_cons] at h; show r.length ≤ 1000000; omega), hl2⟩
end Go.Proofs.Ytpmmbjcgabnloaa
namespace Go.Proofs.Ytpmmbjcgabnloaa
set_option linter.unusedSimpArgs false
set_option linter.unusedVariables false
open Go.Sx
set_option maxHeartbeats 8000000
set_option maxRecDepth 20000
def varP (s : MS) (o : Op) : MS × VT × Bool :=
  match s.vals with
  | [] => if o.kd = 0 then (⟨s.vals ++ [o.arg], s.ps⟩, intV 1, true) else (s, noneV, false)
  | v :: _ => if o.kd = 0 then (s, intV 0, true) else (s, v, true)
theorem doVar_ok (s : MS) (o : Op) (sa sr : Value) (b : Nat) (ow : Lds) (G0 G : Hp) (hGl : Le G0 G) (hs : StO G0 b s G ow) (ho : o.rep G sa sr) (hl : s.vals.length < 1000000) :
    PureW Try.prog 60 [.pointer (some ⟨b, 0, none⟩), .agg (opL o sa sr).toArray] G ow (doPost G0 b (varP s o)) := by
  obtain ⟨vv, pv, bz, Z, b2, xs, ys, rfl, hL, hM, hl1, hl2⟩ := hs
  obtain ⟨ada, capa, rfl⟩ := VT.rep_slice ho.a
  refine enterW ty tyok Try.func60 rfl Try.ntmps60 [.p 0 b 0, .a (opC o (.slice ada o.arg.l.length capa) sr)] (by simp) (mh := 3) rfl ?_
  simp only [opC]
  intro C hP hQ hnt hty hmb hmh hro hG0 hmub; have hQp := qp_body hQ; refine st_ ?_
  simp only [enumO]
  refine go_rowC 2 rfl ?_
  rintro adp capp rfl hcp
  refine go_qval 1 rfl ?_
  rintro adv capv rfl hcv hxl hpos
  refine rn_ ?_; intros
  rename_i b3 b4
  refine go_gsplit rfl rfl (fun hk => ?_) (fun hk => ?_) <;> (refine st_ ?_; (refine rn_ ?_; intros))
  · have hk' : o.kd = 0 := by simpa using hk
    refine x_split rfl rfl rfl (fun h0 => ?_) (fun h0 => ?_) <;> (refine st_ ?_; (refine ru_ ?_; intros))
    · refine rn_ ?_; intros
      refine go_callf (by rw [hnt]; rfl) (by rw [hP]; kernel_rfl) rfl (hP ▸ int_ok 0 _) ?_; refine rn_ ?_; intros
      refine x_retW rfl hQ hmb hmh hG0 hmub rfl rfl (by rw [hty]; simp only [so, sq, zy, zz, tyE, SO', SQ', opQ, opStore, opAlloc, ev, putS, dOk, cv, SV.cs, SV.one, SV.bool?, eqB, Value.oneCell', ldOwn, binInt, binConst, binBool, binStr, isC, TK.agg, rv, rv1, ldV, resOne, resV, Nat.reduceAdd, Nat.reduceMul, Nat.reduceSub, Nat.reduceLT, Nat.reduceLeDiff, Nat.reduceEqDiff, Nat.reduceBEq, reduceIte, reduceCtorEq, eq_self]; try rfl) rfl rfl (by simp only [enumO]; exact (by repeat (first | exact plain_nil | refine plain_cons (fun _ h => h) ?_))) ?_; simp only [SV.den, resV, dens]
      have h0' := of_decide_eq_true h0
      have e : varP s o = (s, intV 0, true) := by
        obtain ⟨vals, ps⟩ := s
        cases vals with
        | nil => simp at h0'
        | cons v r => simp only [varP]; rw [if_pos hk']
      rw [e]
      exact ⟨_, rfl, rep_leaf _ 2 0 (by simp [isI64]) (by simp [isI64]), by simp [intV, tsz, tszL], _, _, _, _, _, _, _, rfl, hL, hM, hl1, hl2⟩
    have h0' : s.vals = [] := by have := of_decide_eq_false h0; exact List.length_eq_zero_iff.1 (by omega)
    refine go_slot 19 (.b true) rfl (by simp [SV.den, hk]) ?_
    refine st_ ?_
    refine rn_ ?_; intros
    refine x_held [(3, b3, .c 40 [.v (.int .i64 o.th), .v (.int .i64 o.kd), .v (.int .i64 o.arg.k), .v (.int .i64 o.arg.n), .v (.slice ada o.arg.l.length capa), .v (.int .i64 o.res.k), .v (.int .i64 o.res.n), .v sr, .v (.int .i64 o.fr), .v (.int .i64 o.to), .v (.bool o.dn)])] rfl (by rw [hP]; kernel_rfl) rfl rfl rfl ?_; refine st_ ?_
    refine h_take 0 rfl (by kernel_rfl) (by kernel_rfl) (by kernel_rfl) hQp (by rw [hnt]; rfl) (allIn (by repeat (first | exact trivial | refine ⟨rfl, ?_⟩))) (by first | exact Le.refl _ | assumption) (quiet_op (by rw [hty]; first | rfl | (refine st_ ?_; rfl))) ?_; refine st_ ?_
    refine h_take 1 rfl (by kernel_rfl) (by kernel_rfl) (by kernel_rfl) hQp (by rw [hnt]; rfl) (allIn (by repeat (first | exact trivial | refine ⟨rfl, ?_⟩))) (by first | exact Le.refl _ | assumption) (quiet_op (by rw [hty]; first | rfl | (refine st_ ?_; rfl))) ?_; refine st_ ?_
    refine h_take 2 rfl (by kernel_rfl) (by kernel_rfl) (by kernel_rfl) hQp (by rw [hnt]; rfl) (allIn (by repeat (first | exact trivial | refine ⟨rfl, ?_⟩))) (by first | exact Le.refl _ | assumption) (quiet_op (by rw [hty]; first | rfl | (refine st_ ?_; rfl))) ?_; refine st_ ?_
    refine h_take 4 rfl (by kernel_rfl) (by kernel_rfl) (by kernel_rfl) hQp (by rw [hnt]; rfl) (allIn (by repeat (first | exact trivial | refine ⟨rfl, ?_⟩))) (by first | exact Le.refl _ | assumption) (quiet_op (by rw [hty]; first | rfl | (refine st_ ?_; rfl))) ?_; refine st_ ?_
    refine h_take 5 rfl (by kernel_rfl) (by kernel_rfl) (by kernel_rfl) hQp (by rw [hnt]; rfl) (allIn (by repeat (first | exact trivial | refine ⟨rfl, ?_⟩))) (by first | exact Le.refl _ | assumption) (quiet_op (by rw [hty]; first | rfl | (refine st_ ?_; rfl))) ?_; refine st_ ?_
    have hfix : ∀ z c : List Value, z.length = 3 → c.length = 3 → (xs ++ z).take (s.vals.length * 3) ++ c ++ (xs ++ z).drop (s.vals.length * 3 + c.length) = xs ++ c := fun z c h1 h2 => by
      rw [← hxl, List.take_left, List.drop_eq_nil_of_le (by simp; omega), List.append_nil]
    refine h_two 3 7 rfl rfl (by kernel_rfl) ?_ ?_
    · refine rn_ ?_; intros
      refine h_hs (allIn (by repeat (first | exact trivial | refine ⟨rfl, ?_⟩))) (by first | exact Le.refl _ | assumption) ?_
      refine h_take 6 rfl (by kernel_rfl) (by kernel_rfl) (by kernel_rfl) hQp (by rw [hnt]; rfl) (allIn (by repeat (first | exact trivial | refine ⟨rfl, ?_⟩))) (by first | exact Le.refl _ | assumption) (quiet_op (by rw [hty]; first | rfl | (refine st_ ?_; rfl))) ?_; refine st_ ?_
      refine h_one 7 rfl (by kernel_rfl) ?_
      refine rn_ ?_; intros
      refine h_hs (allIn (by repeat (first | exact trivial | refine ⟨rfl, ?_⟩))) (by first | exact Le.refl _ | assumption) ?_
      refine h_one 8 rfl (by kernel_rfl) ?_
      refine go_qapp 1 (by rw [hnt]; rfl) (by rw [hty]; rfl) (by rw [hty]; rfl) (by decide) rfl rfl rfl hGl rfl (src_own 3 rfl rfl) rfl (by simp [dens, SV.den, Value.oneCell']) (by omega) (by simp only []; omega) ?_
      intro g off cap cur hqs hcap
      refine rn_ ?_; intros
      refine h_hs (allIn (by repeat (first | exact trivial | refine ⟨rfl, ?_⟩))) (by first | exact Le.refl _ | assumption) ?_
      refine h_take 9 rfl (by kernel_rfl) (by kernel_rfl) (by kernel_rfl) hQp (by rw [hnt]; rfl) (allIn (by repeat (first | exact trivial | refine ⟨rfl, ?_⟩))) (by first | exact Le.refl _ | assumption) (x := .v (.pointer (some ⟨g, off + s.vals.length * 3, none⟩))) ((quiet_index (by rw [hty]; rfl) (by rw [hty]; rfl) rfl rfl rfl (by omega) (by omega)).cast rfl) ?_
      refine st_ ?_
      refine h_take 11 rfl (by kernel_rfl) (by kernel_rfl) (by kernel_rfl) hQp (by rw [hnt]; rfl) (allIn (by repeat (first | exact trivial | refine ⟨rfl, ?_⟩))) (by first | exact Le.refl _ | assumption) (quiet_op (by rw [hty]; first | rfl | (refine st_ ?_; rfl))) ?_; refine st_ ?_
      refine h_take 12 rfl (by kernel_rfl) (by kernel_rfl) (by kernel_rfl) hQp (by rw [hnt]; rfl) (allIn (by repeat (first | exact trivial | refine ⟨rfl, ?_⟩))) (by first | exact Le.refl _ | assumption) (quiet_op (by rw [hty]; first | rfl | (refine st_ ?_; rfl))) ?_; refine st_ ?_
      refine h_two 10 13 rfl rfl (by kernel_rfl) ?_ ?_
      · refine go_storeQ 1 (m := s.vals.length * 3) (by rw [hnt]; rfl) (by rw [hty]; rfl) rfl rfl rfl rfl rfl rfl hqs rfl (by simp [dens]; omega) ?_
        intro cur' hqs'
        refine rn_ ?_; intros
        refine h_hs (allIn (by repeat (first | exact trivial | refine ⟨rfl, ?_⟩))) (by first | exact Le.refl _ | assumption) ?_
        refine h_one 13 rfl (by kernel_rfl) ?_
        refine rn_ ?_; intros
        refine h_hs (allIn (by repeat (first | exact trivial | refine ⟨rfl, ?_⟩))) (by first | exact Le.refl _ | assumption) ?_
        refine h_end (by kernel_rfl) ?_
        rw [hfix _ _ rfl rfl] at hqs'
        refine go_qthing (G0 := G0) (n := s.vals.length + 1) 1 rfl hqs' (by simp [dens]; omega) hcap ?_
        intro Z' bz'
        refine st_ ?_
        refine rn_ ?_; intros
        refine go_callf (by rw [hnt]; rfl) (by rw [hP]; kernel_rfl) rfl (hP ▸ int_ok 1 _) ?_; refine rn_ ?_; intros
        refine x_retW rfl hQ hmb hmh hG0 hmub rfl rfl (by rw [hty]; simp only [so, sq, zy, zz, tyE, SO', SQ', opQ, opStore, opAlloc, ev, putS, dOk, cv, SV.cs, SV.one, SV.bool?, eqB, Value.oneCell', ldOwn, binInt, binConst, binBool, binStr, isC, TK.agg, rv, rv1, ldV, resOne, resV, Nat.reduceAdd, Nat.reduceMul, Nat.reduceSub, Nat.reduceLT, Nat.reduceLeDiff, Nat.reduceEqDiff, Nat.reduceBEq, reduceIte, reduceCtorEq, eq_self]; try rfl) rfl rfl (by simp only [enumO]; exact (by repeat (first | exact plain_nil | refine plain_cons (fun _ h => h) ?_))) ?_; simp only [SV.den, resV, dens]
        have hk' : o.kd = 0 := by simpa using hk
        have e : varP s o = (⟨s.vals ++ [o.arg], s.ps⟩, intV 1, true) := by rw [varP, h0', if_pos hk']
        rw [e]
        have e2 : (s.vals ++ [o.arg]).length = s.vals.length + 1 := by simp
        exact ⟨_, rfl, rep_leaf _ 2 1 (by simp [isI64]) (by simp [isI64]), by simp [intV, tsz, tszL], _, _, _, _, _, _, _, by rw [e2], Rp.L_append hL (Rp.L_single ⟨_, rfl, ho.a, ho.ok.ba⟩), hM, by rw [e2]; omega, hl2⟩
      · refine rn_ ?_; intros
        refine h_hs (allIn (by repeat (first | exact trivial | refine ⟨rfl, ?_⟩))) (by first | exact Le.refl _ | assumption) ?_
        refine h_one 10 rfl (by kernel_rfl) ?_
        refine go_storeQ 1 (m := s.vals.length * 3) (by rw [hnt]; rfl) (by rw [hty]; rfl) rfl rfl rfl rfl rfl rfl hqs rfl (by simp [dens]; omega) ?_
        intro cur' hqs'
        refine rn_ ?_; intros
        refine h_hs (allIn (by repeat (first | exact trivial | refine ⟨rfl, ?_⟩))) (by first | exact Le.refl _ | assumption) ?_
        refine h_end (by kernel_rfl) ?_
        rw [hfix _ _ rfl rfl] at hqs'
        refine go_qthing (G0 := G0) (n := s.vals.length + 1) 1 rfl hqs' (by simp [dens]; omega) hcap ?_
        intro Z' bz'
        refine st_ ?_
        refine rn_ ?_; intros
        refine go_callf (by rw [hnt]; rfl) (by rw [hP]; kernel_rfl) rfl (hP ▸ int_ok 1 _) ?_; refine rn_ ?_; intros
        refine x_retW rfl hQ hmb hmh hG0 hmub rfl rfl (by rw [hty]; simp only [so, sq, zy, zz, tyE, SO', SQ', opQ, opStore, opAlloc, ev, putS, dOk, cv, SV.cs, SV.one, SV.bool?, eqB, Value.oneCell', ldOwn, binInt, binConst, binBool, binStr, isC, TK.agg, rv, rv1, ldV, resOne, resV, Nat.reduceAdd, Nat.reduceMul, Nat.reduceSub, Nat.reduceLT, Nat.reduceLeDiff, Nat.reduceEqDiff, Nat.reduceBEq, reduceIte, reduceCtorEq, eq_self]; try rfl) rfl rfl (by simp only [enumO]; exact (by repeat (first | exact plain_nil | refine plain_cons (fun _ h => h) ?_))) ?_; simp only [SV.den, resV, dens]
        have hk' : o.kd = 0 := by simpa using hk
        have e : varP s o = (⟨s.vals ++ [o.arg], s.ps⟩, intV 1, true) := by rw [varP, h0', if_pos hk']
        rw [e]
        have e2 : (s.vals ++ [o.arg]).length = s.vals.length + 1 := by simp
        exact ⟨_, rfl, rep_leaf _ 2 1 (by simp [isI64]) (by simp [isI64]), by simp [intV, tsz, tszL], _, _, _, _, _, _, _, by rw [e2], Rp.L_append hL (Rp.L_single ⟨_, rfl, ho.a, ho.ok.ba⟩), hM, by rw [e2]; omega, hl2⟩
    · refine rn_ ?_; intros
      refine h_hs (allIn (by repeat (first | exact trivial | refine ⟨rfl, ?_⟩))) (by first | exact Le.refl _ | assumption) ?_
      refine h_one 3 rfl (by kernel_rfl) ?_
      refine rn_ ?_; intros
      refine h_hs (allIn (by repeat (first | exact trivial | refine ⟨rfl, ?_⟩))) (by first | exact Le.refl _ | assumption) ?_
      refine h_take 6 rfl (by kernel_rfl) (by kernel_rfl) (by kernel_rfl) hQp (by rw [hnt]; rfl) (allIn (by repeat (first | exact trivial | refine ⟨rfl, ?_⟩))) (by first | exact Le.refl _ | assumption) (quiet_op (by rw [hty]; first | rfl | (refine st_ ?_; rfl))) ?_; refine st_ ?_
      refine h_one 8 rfl (by kernel_rfl) ?_
      refine go_qapp 1 (by rw [hnt]; rfl) (by rw [hty]; rfl) (by rw [hty]; rfl) (by decide) rfl rfl rfl hGl rfl (src_own 3 rfl rfl) rfl (by simp [dens, SV.den, Value.oneCell']) (by omega) (by simp only []; omega) ?_
      intro g off cap cur hqs hcap
      refine rn_ ?_; intros
      refine h_hs (allIn (by repeat (first | exact trivial | refine ⟨rfl, ?_⟩))) (by first | exact Le.refl _ | assumption) ?_
      refine h_take 9 rfl (by kernel_rfl) (by kernel_rfl) (by kernel_rfl) hQp (by rw [hnt]; rfl) (allIn (by repeat (first | exact trivial | refine ⟨rfl, ?_⟩))) (by first | exact Le.refl _ | assumption) (x := .v (.pointer (some ⟨g, off + s.vals.length * 3, none⟩))) ((quiet_index (by rw [hty]; rfl) (by rw [hty]; rfl) rfl rfl rfl (by omega) (by omega)).cast rfl) ?_
      refine st_ ?_
      refine h_take 11 rfl (by kernel_rfl) (by kernel_rfl) (by kernel_rfl) hQp (by rw [hnt]; rfl) (allIn (by repeat (first | exact trivial | refine ⟨rfl, ?_⟩))) (by first | exact Le.refl _ | assumption) (quiet_op (by rw [hty]; first | rfl | (refine st_ ?_; rfl))) ?_; refine st_ ?_
      refine h_take 12 rfl (by kernel_rfl) (by kernel_rfl) (by kernel_rfl) hQp (by rw [hnt]; rfl) (allIn (by repeat (first | exact trivial | refine ⟨rfl, ?_⟩))) (by first | exact Le.refl _ | assumption) (quiet_op (by rw [hty]; first | rfl | (refine st_ ?_; rfl))) ?_; refine st_ ?_
      refine h_two 10 13 rfl rfl (by kernel_rfl) ?_ ?_
      · refine go_storeQ 1 (m := s.vals.length * 3) (by rw [hnt]; rfl) (by rw [hty]; rfl) rfl rfl rfl rfl rfl rfl hqs rfl (by simp [dens]; omega) ?_
        intro cur' hqs'
        refine rn_ ?_; intros
        refine h_hs (allIn (by repeat (first | exact trivial | refine ⟨rfl, ?_⟩))) (by first | exact Le.refl _ | assumption) ?_
        refine h_one 13 rfl (by kernel_rfl) ?_
        refine rn_ ?_; intros
        refine h_hs (allIn (by repeat (first | exact trivial | refine ⟨rfl, ?_⟩))) (by first | exact Le.refl _ | assumption) ?_
        refine h_end (by kernel_rfl) ?_
        rw [hfix _ _ rfl rfl] at hqs'
        refine go_qthing (G0 := G0) (n := s.vals.length + 1) 1 rfl hqs' (by simp [dens]; omega) hcap ?_
        intro Z' bz'
        refine st_ ?_
        refine rn_ ?_; intros
        refine go_callf (by rw [hnt]; rfl) (by rw [hP]; kernel_rfl) rfl (hP ▸ int_ok 1 _) ?_; refine rn_ ?_; intros
        refine x_retW rfl hQ hmb hmh hG0 hmub rfl rfl (by rw [hty]; simp only [so, sq, zy, zz, tyE, SO', SQ', opQ, opStore, opAlloc, ev, putS, dOk, cv, SV.cs, SV.one, SV.bool?, eqB, Value.oneCell', ldOwn, binInt, binConst, binBool, binStr, isC, TK.agg, rv, rv1, ldV, resOne, resV, Nat.reduceAdd, Nat.reduceMul, Nat.reduceSub, Nat.reduceLT, Nat.reduceLeDiff, Nat.reduceEqDiff, Nat.reduceBEq, reduceIte, reduceCtorEq, eq_self]; try rfl) rfl rfl (by simp only [enumO]; exact (by repeat (first | exact plain_nil | refine plain_cons (fun _ h => h) ?_))) ?_; simp only [SV.den, resV, dens]
        have hk' : o.kd = 0 := by simpa using hk
        have e : varP s o = (⟨s.vals ++ [o.arg], s.ps⟩, intV 1, true) := by rw [varP, h0', if_pos hk']
        rw [e]
        have e2 : (s.vals ++ [o.arg]).length = s.vals.length + 1 := by simp
        exact ⟨_, rfl, rep_leaf _ 2 1 (by simp [isI64]) (by simp [isI64]), by simp [intV, tsz, tszL], _, _, _, _, _, _, _, by rw [e2], Rp.L_append hL (Rp.L_single ⟨_, rfl, ho.a, ho.ok.ba⟩), hM, by rw [e2]; omega, hl2⟩
      · refine rn_ ?_; intros
        refine h_hs (allIn (by repeat (first | exact trivial | refine ⟨rfl, ?_⟩))) (by first | exact Le.refl _ | assumption) ?_
        refine h_one 10 rfl (by kernel_rfl) ?_
        refine go_storeQ 1 (m := s.vals.length * 3) (by rw [hnt]; rfl) (by rw [hty]; rfl) rfl rfl rfl rfl rfl rfl hqs rfl (by simp [dens]; omega) ?_
        intro cur' hqs'
        refine rn_ ?_; intros
        refine h_hs (allIn (by repeat (first | exact trivial | refine ⟨rfl, ?_⟩))) (by first | exact Le.refl _ | assumption) ?_
        refine h_end (by kernel_rfl) ?_
        rw [hfix _ _ rfl rfl] at hqs'
        refine go_qthing (G0 := G0) (n := s.vals.length + 1) 1 rfl hqs' (by simp [dens]; omega) hcap ?_
        intro Z' bz'
        refine st_ ?_
        refine rn_ ?_; intros
        refine go_callf (by rw [hnt]; rfl) (by rw [hP]; kernel_rfl) rfl (hP ▸ int_ok 1 _) ?_; refine rn_ ?_; intros
        refine x_retW rfl hQ hmb hmh hG0 hmub rfl rfl (by rw [hty]; simp only [so, sq, zy, zz, tyE, SO', SQ', opQ, opStore, opAlloc, ev, putS, dOk, cv, SV.cs, SV.one, SV.bool?, eqB, Value.oneCell', ldOwn, binInt, binConst, binBool, binStr, isC, TK.agg, rv, rv1, ldV, resOne, resV, Nat.reduceAdd, Nat.reduceMul, Nat.reduceSub, Nat.reduceLT, Nat.reduceLeDiff, Nat.reduceEqDiff, Nat.reduceBEq, reduceIte, reduceCtorEq, eq_self]; try rfl) rfl rfl (by simp only [enumO]; exact (by repeat (first | exact plain_nil | refine plain_cons (fun _ h => h) ?_))) ?_; simp only [SV.den, resV, dens]
        have hk' : o.kd = 0 := by simpa using hk
        have e : varP s o = (⟨s.vals ++ [o.arg], s.ps⟩, intV 1, true) := by rw [varP, h0', if_pos hk']
        rw [e]
        have e2 : (s.vals ++ [o.arg]).length = s.vals.length + 1 := by simp
        exact ⟨_, rfl, rep_leaf _ 2 1 (by simp [isI64]) (by simp [isI64]), by simp [intV, tsz, tszL], _, _, _, _, _, _, _, by rw [e2], Rp.L_append hL (Rp.L_single ⟨_, rfl, ho.a, ho.ok.ba⟩), hM, by rw [e2]; omega, hl2⟩
  · have hk' : ¬ o.kd = 0 := by simpa using hk
    refine go_slot 19 (.b false) rfl (by simp [SV.den, hk]) ?_
    refine st_ ?_
    refine rn_ ?_; intros
    refine x_split rfl rfl rfl (fun h0 => ?_) (fun h0 => ?_) <;> (refine st_ ?_; (refine ru_ ?_; intros))
    · have h0' := of_decide_eq_true h0
      obtain ⟨vals, ps⟩ := s
      cases vals with
      | nil => simp at h0'
      | cons v r =>
        simp only [] at *
        have hL0 := hL
        obtain ⟨c1, xs', rfl, ⟨sl, rfl, hrep, hbd⟩, hL'⟩ := hL
        obtain ⟨asl, csl, rfl⟩ := VT.rep_slice hrep
        obtain ⟨c2, off, rfl⟩ := hpos (by simp)
        refine rn_ ?_; intros
        refine go_q (by rw [hnt]; rfl) (quiet_index (by rw [hty]; rfl) (by rw [hty]; rfl) rfl rfl rfl (by omega) (by omega)) ?_
        refine rn_ ?_; intros
        refine go_q (v := .agg #[.int .i64 v.k, .int .i64 v.n, .slice asl v.l.length csl]) (by rw [hnt]; rfl) ((quiet_loadQ 1 (m := 0) (by rw [hty]; rfl) rfl (by simp [TK.agg]) rfl hGl (by simp) (by simp) (by simp)).cast rfl) ?_
        refine rn_ ?_; intros
        refine x_retW rfl hQ hmb hmh hG0 hmub rfl rfl (by rw [hty]; simp only [so, sq, zy, zz, tyE, SO', SQ', opQ, opStore, opAlloc, ev, putS, dOk, cv, SV.cs, SV.one, SV.bool?, eqB, Value.oneCell', ldOwn, binInt, binConst, binBool, binStr, isC, TK.agg, rv, rv1, ldV, resOne, resV, Nat.reduceAdd, Nat.reduceMul, Nat.reduceSub, Nat.reduceLT, Nat.reduceLeDiff, Nat.reduceEqDiff, Nat.reduceBEq, reduceIte, reduceCtorEq, eq_self]; try rfl) rfl rfl (by simp only [enumO]; exact (by repeat (first | exact plain_nil | refine plain_cons (fun _ h => h) ?_))) ?_; simp only [SV.den, resV, dens]
        have e : varP ⟨v :: r, ps⟩ o = (⟨v :: r, ps⟩, v, true) := by simp only [varP]; rw [if_neg hk']
        rw [e]
        exact ⟨_, rfl, hrep, hbd, _, _, _, _, _, _, _, rfl, hL0, hM, hl1, hl2⟩
    · have h0' : s.vals = [] := by have := of_decide_eq_false h0; exact List.length_eq_zero_iff.1 (by omega)
      refine rn_ ?_; intros
      refine x_retW rfl hQ hmb hmh hG0 hmub rfl rfl (by rw [hty]; simp only [so, sq, zy, zz, tyE, SO', SQ', opQ, opStore, opAlloc, ev, putS, dOk, cv, SV.cs, SV.one, SV.bool?, eqB, Value.oneCell', ldOwn, binInt, binConst, binBool, binStr, isC, TK.agg, rv, rv1, ldV, resOne, resV, Nat.reduceAdd, Nat.reduceMul, Nat.reduceSub, Nat.reduceLT, Nat.reduceLeDiff, Nat.reduceEqDiff, Nat.reduceBEq, reduceIte, reduceCtorEq, eq_self]; try rfl) rfl rfl (by simp only [enumO]; exact (by repeat (first | exact plain_nil | refine plain_cons (fun _ h => h) ?_))) ?_; simp only [SV.den, resV, dens]
      have e : varP s o = (s, noneV, false) := by rw [varP, h0']; exact if_neg hk'
      rw [e]
      exact ⟨_, rfl, rep_leaf _ 0 0 (by simp [isI64]) (by simp [isI64]), by simp [noneV, tsz, tszL], _, _, _, _, _, _, _, rfl, hL, hM, hl1, hl2⟩
def slotP (s : MS) (o : Op) : MS × VT × Bool := if o.kd = 0 ∧ 0 < s.vals.length then (s, noneV, false) else boxP s o
theorem doSlot_ok (s : MS) (o : Op) (sa sr : Value) (b : Nat) (ow : Lds) (G0 G : Hp) (hGl : Le G0 G) (hs : StO G0 b s G ow) (ho : o.rep G sa sr) (hl : s.vals.length < 1000000) :
    PureW Try.prog 61 [.pointer (some ⟨b, 0, none⟩), .agg (opL o sa sr).toArray] G ow (doPost G0 b (slotP s o)) := by
  have hs0 := hs
  have hbx := doBox_ok s o sa sr b ow G0 G hGl hs ho hl
  obtain ⟨vv, pv, bz, Z, b2, xs, ys, rfl, hL, hM, hl1, hl2⟩ := hs
  obtain ⟨ada, capa, rfl⟩ := VT.rep_slice ho.a
  obtain ⟨adr, capr, rfl⟩ := VT.rep_slice ho.r
  refine enterW ty tyok Try.func61 rfl Try.ntmps61 [.p 0 b 0, .a (opC o (.slice ada o.arg.l.length capa) (.slice adr o.res.l.length capr))] (by simp) (mh := 3) rfl ?_
  simp only [opC]
  intro C hP hQ hnt hty hmb hmh hro hG0 hmub; have hQp := qp_body hQ; refine st_ ?_
  simp only [enumO]
  refine go_rowC 2 rfl ?_
  rintro adp capp rfl hcp
  refine go_qval 1 rfl ?_
  rintro adv capv rfl hcv hxl hpos
  refine rn_ ?_; intros
  rename_i b3 b4
  refine cut_tail 2 (fun st => (¬ (o.kd = 0 ∧ 0 < s.vals.length)) ∧ st = ⟨[(0, .p 0 b 0), (3, .p 3 b3 0), (4, .p 4 b4 0), (5, .b false)], [(0, b, .c 44 [.v (.slice adv s.vals.length capv), .v (.slice adp s.ps.length capp)]),
      (1, bz, .z (ZQ G0 28 3 (.slice adv s.vals.length capv) s.vals.length xs) Z Z), (2, b2, .row (.slice adp s.ps.length capp) 55 4 s.ps.length ys),
      (3, b3, .c 40 [.v (.int .i64 o.th), .v (.int .i64 o.kd), .v (.int .i64 o.arg.k), .v (.int .i64 o.arg.n), .v (.slice ada o.arg.l.length capa), .v (.int .i64 o.res.k), .v (.int .i64 o.res.n), .v (.slice adr o.res.l.length capr), .v (.int .i64 o.fr), .v (.int .i64 o.to), .v (.bool o.dn)]),
      (4, b4, .c 28 [.v (.int .i64 0), .v (.int .i64 0), .v (.slice none 0 0)])], G, []⟩) ?_ (fun key => ?_)
  rotate_left
  · simp only [List.drop_succ_cons, List.drop_zero] at key
    refine go_gsplit rfl rfl (fun hk => ?_) (fun hk => ?_) <;> (refine st_ ?_; (try (refine runo0 400 hty hnt hmh ?_; refine st_ ?_)))
    · have hk' : o.kd = 0 := by simpa using hk
      refine go_ops ?_
      refine x_if rfl rfl rfl rfl (fun h0 => ?_) (fun h0 => ?_)
      · have h0' := of_decide_eq_true h0
        refine rn_ ?_; intros
        refine x_retW rfl hQ hmb hmh hG0 hmub rfl rfl (by rw [hty]; simp only [so, sq, zy, zz, tyE, SO', SQ', opQ, opStore, opAlloc, ev, putS, dOk, cv, SV.cs, SV.one, SV.bool?, eqB, Value.oneCell', ldOwn, binInt, binConst, binBool, binStr, isC, TK.agg, rv, rv1, ldV, resOne, resV, Nat.reduceAdd, Nat.reduceMul, Nat.reduceSub, Nat.reduceLT, Nat.reduceLeDiff, Nat.reduceEqDiff, Nat.reduceBEq, reduceIte, reduceCtorEq, eq_self]; try rfl) rfl rfl (by simp only [enumO]; exact (by repeat (first | exact plain_nil | refine plain_cons (fun _ h => h) ?_))) ?_; simp only [SV.den, resV, dens]
        have e : slotP s o = (s, noneV, false) := by rw [slotP, if_pos ⟨hk', by omega⟩]
        rw [e]
        exact ⟨_, rfl, rep_leaf _ 0 0 (by simp [isI64]) (by simp [isI64]), by simp [noneV, tsz, tszL], _, _, _, _, _, _, _, rfl, hL, hM, hl1, hl2⟩
      · have h0' := of_decide_eq_false h0
        refine x_skip rfl ?_
        refine go_keep [0, 3, 4, 5] [0, 1, 2, 3, 4] ?_
        refine st_ ?_
        exact key _ ⟨fun h => by omega, rfl⟩
    · have hk' : ¬ o.kd = 0 := by simpa using hk
      refine go_ops ?_
      refine x_iff rfl rfl rfl ?_
      refine x_skip rfl ?_
      refine go_keep [0, 3, 4, 5] [0, 1, 2, 3, 4] ?_
      refine st_ ?_
      exact key _ ⟨fun h => hk' h.1, rfl⟩
  rintro st ⟨hno, rfl⟩
  simp only [List.drop_succ_cons, List.drop_zero]
  refine rn_ ?_; intros
  refine go_callW [0, 1, 2] (by rw [hnt]; rfl) (by rw [hP]; kernel_rfl) rfl rfl rfl (.inr (by rw [hmh]; decide)) (by rw [hP]; exact hbx) ?_
  rintro v G1 ow1 (hle1 : Le G G1) hpost
  have e : slotP s o = boxP s o := by rw [slotP, if_neg hno]
  rw [← e] at hpost
  obtain ⟨sl, rfl, hr1, hr2, vv1, pv1, bz1, Z1, c2, xs1, ys1, rfl, r3, r4, r5, r6⟩ := hpost
  obtain ⟨asl, csl, rfl⟩ := VT.rep_slice hr1
  simp only [setO]
  refine st_ ?_
  refine rn_ ?_; intros
  refine x_retW rfl hQ hmb hmh hG0 hmub rfl rfl (by rw [hty]; simp only [so, sq, zy, zz, tyE, SO', SQ', opQ, opStore, opAlloc, ev, putS, dOk, cv, SV.cs, SV.one, SV.bool?, eqB, Value.oneCell', ldOwn, binInt, binConst, binBool, binStr, isC, TK.agg, rv, rv1, ldV, resOne, resV, Nat.reduceAdd, Nat.reduceMul, Nat.reduceSub, Nat.reduceLT, Nat.reduceLeDiff, Nat.reduceEqDiff, Nat.reduceBEq, reduceIte, reduceCtorEq, eq_self]; try rfl) rfl rfl (by simp only [enumO]; exact (by repeat (first | exact plain_nil | refine plain_cons (fun _ h => h) ?_))) ?_; simp only [SV.den, resV, dens]
  exact ⟨_, rfl, hr1, hr2, _, _, _, _, _, _, _, rfl, r3, r4, r5, r6⟩
end Go.Proofs.Ytpmmbjcgabnloaa
namespace Go.Sx
set_option linter.unusedSimpArgs false
set_option linter.unusedVariables false
open Go.RowKit
section
variable {C : Ctx} {K : List KI} {s : St} {R : Array Oper} {l : List Oper} {d : Option Tmp} {t : TypeId} {pos : String} {aft : Array Edge} {v : Value}
theorem go_lendC (k2 : Nat) {f : FuncId} {args : Array Operand} {tys : Array TypeId} {vs : List SV} {b2 : Nat} {e2 : TypeId} {cells : List SV} (hd : dOk C.nt d = true) (hf : canCall C.P f = true) (ha : evs s.sl args.toList = some vs)
    (hk2 : lk k2 s.own = some (b2, .c e2 cells)) (hc : ∀ G1, Le s.G G1 → At G1 b2 0 (dens cells) → Pure C.P f (dens vs) G1 (fun r _ => r = v))
    (h : SGo C (.ops R l :: K) ⟨putS d (rv v) s.sl, s.own, s.G, s.df⟩) : SGo C (.ops R (⟨d, .call ⟨.value (.func f), args, tys⟩, t, pos, aft, none⟩ :: l) :: K) s := by
  intro a w hS
  have hargs : args.map a.eval = (dens vs).toArray := by apply Array.ext'; rw [Array.toList_map]; exact evs_ok hS.sl ha
  have hrun : (execOp a.eval ⟨d, .call ⟨.value (.func f), args, tys⟩, t, pos, aft, none⟩).run C.P w = .ok (.enter f (dens vs).toArray) w := by
    simp only [execOp, resolve, hargs, Act.eval, Deferred.ofValue, Sem.run_bind, Sem.run_pure, Result.andThen_ok, invoke]
    simp [callFunc_ok hf]
  obtain ⟨c1, c2⟩ := hS.mem.own _ _ _ hk2
  simp only [OO.holds] at c1
  have g2 := (c2 b2 rfl).1
  have l1 : Le s.G (fun j => if j = b2 then w.heap[b2]? else s.G j) := by
    intro j y e
    have n2 : j ≠ b2 := by intro q; subst q; rw [g2] at e; cases e
    simp [n2, e]
  have l2 : Has w (fun j => if j = b2 then w.heap[b2]? else s.G j) := by
    intro j y e
    simp only at e
    split at e
    · rename_i q; subst q; exact e
    · exact hS.mem.has j y e
  have l3 : (fun j => if j = b2 then w.heap[b2]? else s.G j : Hp) b2 = w.heap[b2]? := by simp
  refine K_enter rfl hrun ((hc _ l1 ⟨_, _, _, l3.trans c1, by simp, fun i hi => by simp [hi]⟩ w l2).mono ?_)
  rintro e w' ⟨v', G', rfl, hg, rfl⟩
  have hS' := hS.put hd (rv v') (hS.mem.stay hg)
  rw [rv_den] at hS'
  have := h _ _ hS'
  exact ⟨_, rfl, this⟩
theorem go_lendRC {α : Type} (r : Rp α) (k k2 : Nat) {f : FuncId} {args : Array Operand} {tys : Array TypeId} {vs : List SV} {b b2 n : Nat} {e e2 : TypeId} {u : Value} {xs : List Value} {ts : List α} {cells : List SV} (hd : dOk C.nt d = true) (hf : canCall C.P f = true) (ha : evs s.sl args.toList = some vs)
    (hk : lk k s.own = some (b, .row u e r.size n xs)) (hn : n = ts.length) (h63 : n ≤ 9223372036854775807) (hL : r.L s.G ts xs) (hk2 : lk k2 s.own = some (b2, .c e2 cells)) (hc : ∀ G1, Le s.G G1 → r.S G1 ts u → At G1 b2 0 (dens cells) → Pure C.P f (dens vs) G1 (fun r _ => r = v))
    (h : SGo C (.ops R l :: K) ⟨putS d (rv v) s.sl, s.own, s.G, s.df⟩) : SGo C (.ops R (⟨d, .call ⟨.value (.func f), args, tys⟩, t, pos, aft, none⟩ :: l) :: K) s := by
  subst hn
  refine go_rowcases k hk (fun hv hn0 hx => ?_) (fun g cap hv hcap hl => ?_)
  · have h0 : ts = [] := List.length_eq_zero_iff.1 hn0
    refine go_lendC k2 hd hf ha hk2 (fun G1 hle hat => hc G1 hle ?_ hat) h
    rw [hv, h0]
    exact Rp.S_nil _ _
  · subst hv
    exact go_lend2 k k2 hd hf ha hk hk2 (fun G1 hle hat hat2 => hc G1 hle ⟨h63, _, _, rfl, .inr ⟨g, 0, xs, rfl, hat, Rp.L_mono hle hL⟩⟩ hat2) h
theorem go_rowE2 (k : Nat) {b n size : Nat} {e : TypeId} {v : Value} {xs : List Value} (hk : lk k s.own = some (b, .row v e size n xs)) (h : ∀ ad cap, v = .slice ad n cap → n ≤ cap → ((xs = [] ∧ ad = none) ∨ ∃ g, ad = some ⟨g, 0, none⟩) → SGo C K s) : SGo C K s :=
  go_rowcases k hk (fun hv hn0 hx => h none 0 (by rw [hv, hn0]) (by omega) (.inl ⟨hx, rfl⟩)) (fun g cap hv hc _ => h _ cap hv hc (.inr ⟨_, rfl⟩))
end
end Go.Sx
namespace Go.Proofs.Ytpmmbjcgabnloaa
set_option linter.unusedSimpArgs false
set_option linter.unusedVariables false
open Go.Sx
set_option maxHeartbeats 8000000
set_option maxRecDepth 20000
def castP (s : MS) (o : Op) : MS × VT × Bool :=
  if o.kd = 0 then (if ((pix o.res s.ps 0).isSome || !o.dn || o.res.k != 4) = true then (s, noneV, false) else (⟨s.vals, s.ps ++ [⟨o.res, s.vals.length⟩]⟩, o.res, true)) else
  if o.kd = 1 then (⟨s.vals ++ [o.arg], s.ps⟩, unitV, true) else
  match pix o.arg s.ps 0 with
  | none => (s, noneV, false)
  | some i => if (s.vals.length : Int) ≤ (s.ps.getD i ⟨noneV, 0⟩).pt then (s, noneV, false) else (⟨s.vals, s.ps.set i ⟨(s.ps.getD i ⟨noneV, 0⟩).nm, (s.ps.getD i ⟨noneV, 0⟩).pt + 1⟩⟩, s.vals.getD (s.ps.getD i ⟨noneV, 0⟩).pt.toNat noneV, true)
def MS.wf (s : MS) : Prop := ∀ p ∈ s.ps, 0 ≤ p.pt ∧ p.pt ≤ s.vals.length
theorem cut4 {ys : List Value} {m : Nat} {a b c d : Value} (h : (ys.drop m).take 4 = [a, b, c, d]) : (ys.drop (m + 3)).take 1 = [d] ∧ ys.take (m + 3) = ys.take m ++ [a, b, c] ∧ m + 4 ≤ ys.length := by
  have h4 : m + 4 ≤ ys.length := by
    have := congrArg List.length h
    simp at this
    omega
  refine ⟨?_, ?_, h4⟩
  · have := congrArg (fun l => l.drop 3) h
    simp only [List.drop_take, List.drop_drop] at this
    rw [show m + 3 = 3 + m by omega] at *
    simpa [Nat.add_comm] using this
  · have := congrArg (fun l => l.take 3) h
    simp only [List.take_take] at this
    rw [List.take_add]
    simp at this ⊢
    exact this
theorem doCast_ok (s : MS) (o : Op) (sa sr : Value) (b : Nat) (ow : Lds) (G0 G : Hp) (hGl : Le G0 G) (hs : StO G0 b s G ow) (ho : o.rep G sa sr) (hl : s.vals.length < 1000000) (hlp : s.ps.length < 1000000) (hwf : s.wf) :
    PureW Try.prog 63 [.pointer (some ⟨b, 0, none⟩), .agg (opL o sa sr).toArray] G ow (doPost G0 b (castP s o)) := by
  obtain ⟨vv, pv, bz, Z, b2, xs, ys, rfl, hL, hM, hl1, hl2⟩ := hs
  obtain ⟨ada, capa, rfl⟩ := VT.rep_slice ho.a
  obtain ⟨adr, capr, rfl⟩ := VT.rep_slice ho.r
  refine enterW ty tyok Try.func63 rfl Try.ntmps63 [.p 0 b 0, .a (opC o (.slice ada o.arg.l.length capa) (.slice adr o.res.l.length capr))] (by simp) (mh := 3) rfl ?_
  simp only [opC]
  intro C hP hQ hnt hty hmb hmh hro hG0 hmub; have hQp := qp_body hQ; refine st_ ?_
  simp only [enumO]
  refine go_rowE2 2 rfl ?_
  rintro adp capp rfl hcp0 hposp
  refine go_qval 1 rfl ?_
  rintro adv capv rfl hcv hxl hpos
  refine rn_ ?_; intros
  rename_i b3 b4
  refine x_split rfl rfl rfl (fun hk0 => ?_) (fun hk0 => ?_) <;> (refine st_ ?_; (refine ru_ ?_; intros))
  · have hk0' : o.kd = 0 := by simpa using hk0
    refine rn_ ?_; intros
    refine go_lendRC rPo 2 0 (by rw [hnt]; rfl) (by rw [hP]; kernel_rfl) rfl rfl rfl (by omega) hM rfl (fun G1 hle hS hat => by rw [hP]; exact port_ok s.ps o.res b _ _ _ G1 (by simpa [dens, SV.den] using hat) hS (VT.rep_mono hle ho.r)) ?_
    refine rn_ ?_; intros
    refine go_gsplit rfl rfl (fun his => ?_) (fun his => ?_) <;> (refine st_ ?_; (refine rn_ ?_; intros))
    · have e : castP s o = (s, noneV, false) := by rw [castP, if_pos hk0', if_pos (by rw [his]; rfl)]
      repeat (refine go_gundef rfl (by rw [hnt]; rfl) rfl ?_; (refine st_ ?_; (refine rn_ ?_; intros)))
      refine rn_ ?_; intros
      refine x_retW rfl hQ hmb hmh hG0 hmub rfl rfl (by rw [hty]; simp only [so, sq, zy, zz, tyE, SO', SQ', opQ, opStore, opAlloc, ev, putS, dOk, cv, SV.cs, SV.one, SV.bool?, eqB, Value.oneCell', ldOwn, binInt, binConst, binBool, binStr, isC, TK.agg, rv, rv1, ldV, resOne, resV, Nat.reduceAdd, Nat.reduceMul, Nat.reduceSub, Nat.reduceLT, Nat.reduceLeDiff, Nat.reduceEqDiff, Nat.reduceBEq, reduceIte, reduceCtorEq, eq_self]; try rfl) rfl rfl (by simp only [enumO]; exact (by repeat (first | exact plain_nil | refine plain_cons (fun _ h => h) ?_))) ?_; simp only [SV.den, resV, dens]
      rw [e]
      exact ⟨_, rfl, rep_leaf _ 0 0 (by simp [isI64]) (by simp [isI64]), by simp [noneV, tsz, tszL], _, _, _, _, _, _, _, rfl, hL, hM, hl1, hl2⟩
    refine go_gsplit rfl rfl (fun hdn => ?_) (fun hdn => ?_) <;> (refine st_ ?_; (refine rn_ ?_; intros))
    · have e : castP s o = (s, noneV, false) := by rw [castP, if_pos hk0', if_pos (by rw [hdn, Bool.or_true]; rfl)]
      repeat (refine go_gundef rfl (by rw [hnt]; rfl) rfl ?_; (refine st_ ?_; (refine rn_ ?_; intros)))
      refine rn_ ?_; intros
      refine x_retW rfl hQ hmb hmh hG0 hmub rfl rfl (by rw [hty]; simp only [so, sq, zy, zz, tyE, SO', SQ', opQ, opStore, opAlloc, ev, putS, dOk, cv, SV.cs, SV.one, SV.bool?, eqB, Value.oneCell', ldOwn, binInt, binConst, binBool, binStr, isC, TK.agg, rv, rv1, ldV, resOne, resV, Nat.reduceAdd, Nat.reduceMul, Nat.reduceSub, Nat.reduceLT, Nat.reduceLeDiff, Nat.reduceEqDiff, Nat.reduceBEq, reduceIte, reduceCtorEq, eq_self]; try rfl) rfl rfl (by simp only [enumO]; exact (by repeat (first | exact plain_nil | refine plain_cons (fun _ h => h) ?_))) ?_; simp only [SV.den, resV, dens]
      rw [e]
      exact ⟨_, rfl, rep_leaf _ 0 0 (by simp [isI64]) (by simp [isI64]), by simp [noneV, tsz, tszL], _, _, _, _, _, _, _, rfl, hL, hM, hl1, hl2⟩
    refine x_split rfl rfl rfl (fun hk4 => ?_) (fun hk4 => ?_) <;> (refine st_ ?_; (refine ru_ ?_; intros))
    · have e : castP s o = (s, noneV, false) := by rw [castP, if_pos hk0', if_pos (by rw [show (o.res.k != 4) = true from hk4, Bool.or_true])]
      refine rn_ ?_; intros
      refine x_retW rfl hQ hmb hmh hG0 hmub rfl rfl (by rw [hty]; simp only [so, sq, zy, zz, tyE, SO', SQ', opQ, opStore, opAlloc, ev, putS, dOk, cv, SV.cs, SV.one, SV.bool?, eqB, Value.oneCell', ldOwn, binInt, binConst, binBool, binStr, isC, TK.agg, rv, rv1, ldV, resOne, resV, Nat.reduceAdd, Nat.reduceMul, Nat.reduceSub, Nat.reduceLT, Nat.reduceLeDiff, Nat.reduceEqDiff, Nat.reduceBEq, reduceIte, reduceCtorEq, eq_self]; try rfl) rfl rfl (by simp only [enumO]; exact (by repeat (first | exact plain_nil | refine plain_cons (fun _ h => h) ?_))) ?_; simp only [SV.den, resV, dens]
      rw [e]
      exact ⟨_, rfl, rep_leaf _ 0 0 (by simp [isI64]) (by simp [isI64]), by simp [noneV, tsz, tszL], _, _, _, _, _, _, _, rfl, hL, hM, hl1, hl2⟩
    have hcp : castP s o = (⟨s.vals, s.ps ++ [⟨o.res, s.vals.length⟩]⟩, o.res, true) := by rw [castP, if_pos hk0', if_neg (by rw [his, hdn, show (o.res.k != 4) = false from hk4]; decide)]
    refine rn_ ?_; intros
    refine x_held [(3, b3, .c 40 [.v (.int .i64 o.th), .v (.int .i64 o.kd), .v (.int .i64 o.arg.k), .v (.int .i64 o.arg.n), .v (.slice ada o.arg.l.length capa), .v (.int .i64 o.res.k), .v (.int .i64 o.res.n), .v (.slice adr o.res.l.length capr), .v (.int .i64 o.fr), .v (.int .i64 o.to), .v (.bool o.dn)])] rfl (by rw [hP]; kernel_rfl) rfl rfl rfl ?_; refine st_ ?_
    refine h_take 0 rfl (by kernel_rfl) (by kernel_rfl) (by kernel_rfl) hQp (by rw [hnt]; rfl) (allIn (by repeat (first | exact trivial | refine ⟨rfl, ?_⟩))) (by first | exact Le.refl _ | assumption) (quiet_op (by rw [hty]; first | rfl | (refine st_ ?_; rfl))) ?_; refine st_ ?_
    refine h_take 1 rfl (by kernel_rfl) (by kernel_rfl) (by kernel_rfl) hQp (by rw [hnt]; rfl) (allIn (by repeat (first | exact trivial | refine ⟨rfl, ?_⟩))) (by first | exact Le.refl _ | assumption) (quiet_op (by rw [hty]; first | rfl | (refine st_ ?_; rfl))) ?_; refine st_ ?_
    refine h_take 2 rfl (by kernel_rfl) (by kernel_rfl) (by kernel_rfl) hQp (by rw [hnt]; rfl) (allIn (by repeat (first | exact trivial | refine ⟨rfl, ?_⟩))) (by first | exact Le.refl _ | assumption) (quiet_op (by rw [hty]; first | rfl | (refine st_ ?_; rfl))) ?_; refine st_ ?_
    refine h_take 3 rfl (by kernel_rfl) (by kernel_rfl) (by kernel_rfl) hQp (by rw [hnt]; rfl) (allIn (by repeat (first | exact trivial | refine ⟨rfl, ?_⟩))) (by first | exact Le.refl _ | assumption) (quiet_op (by rw [hty]; first | rfl | (refine st_ ?_; rfl))) ?_; refine st_ ?_
    refine h_take 5 rfl (by kernel_rfl) (by kernel_rfl) (by kernel_rfl) hQp (by rw [hnt]; rfl) (allIn (by repeat (first | exact trivial | refine ⟨rfl, ?_⟩))) (by first | exact Le.refl _ | assumption) (quiet_op (by rw [hty]; first | rfl | (refine st_ ?_; rfl))) ?_; refine st_ ?_
    refine h_take 6 rfl (by kernel_rfl) (by kernel_rfl) (by kernel_rfl) hQp (by rw [hnt]; rfl) (allIn (by repeat (first | exact trivial | refine ⟨rfl, ?_⟩))) (by first | exact Le.refl _ | assumption) (quiet_op (by rw [hty]; first | rfl | (refine st_ ?_; rfl))) ?_; refine st_ ?_
    refine h_take 7 rfl (by kernel_rfl) (by kernel_rfl) (by kernel_rfl) hQp (by rw [hnt]; rfl) (allIn (by repeat (first | exact trivial | refine ⟨rfl, ?_⟩))) (by first | exact Le.refl _ | assumption) (quiet_op (by rw [hty]; first | rfl | (refine st_ ?_; rfl))) ?_; refine st_ ?_
    refine h_take 8 rfl (by kernel_rfl) (by kernel_rfl) (by kernel_rfl) hQp (by rw [hnt]; rfl) (allIn (by repeat (first | exact trivial | refine ⟨rfl, ?_⟩))) (by first | exact Le.refl _ | assumption) (quiet_op (by rw [hty]; first | rfl | (refine st_ ?_; rfl))) ?_; refine st_ ?_
    refine h_take 9 rfl (by kernel_rfl) (by kernel_rfl) (by kernel_rfl) hQp (by rw [hnt]; rfl) (allIn (by repeat (first | exact trivial | refine ⟨rfl, ?_⟩))) (by first | exact Le.refl _ | assumption) (quiet_op (by rw [hty]; first | rfl | (refine st_ ?_; rfl))) ?_; refine st_ ?_
    refine h_two 4 10 rfl rfl (by kernel_rfl) ?_ ?_
    · refine rn_ ?_; intros
      refine h_hs (allIn (by repeat (first | exact trivial | refine ⟨rfl, ?_⟩))) (by first | exact Le.refl _ | assumption) ?_
      refine h_one 10 rfl (by kernel_rfl) ?_
      refine rn_ ?_; intros
      refine h_hs (allIn (by repeat (first | exact trivial | refine ⟨rfl, ?_⟩))) (by first | exact Le.refl _ | assumption) ?_
      refine h_take 11 rfl (by kernel_rfl) (by kernel_rfl) (by kernel_rfl) hQp (by rw [hnt]; rfl) (allIn (by repeat (first | exact trivial | refine ⟨rfl, ?_⟩))) (by first | exact Le.refl _ | assumption) (quiet_op (by rw [hty]; first | rfl | (refine st_ ?_; rfl))) ?_; refine st_ ?_
      refine h_take 12 rfl (by kernel_rfl) (by kernel_rfl) (by kernel_rfl) hQp (by rw [hnt]; rfl) (allIn (by repeat (first | exact trivial | refine ⟨rfl, ?_⟩))) (by first | exact Le.refl _ | assumption) (quiet_op (by rw [hty]; first | rfl | (refine st_ ?_; rfl))) ?_; refine st_ ?_
      refine h_one 13 rfl (by kernel_rfl) ?_
      refine rn_ ?_; intros
      refine h_hs (allIn (by repeat (first | exact trivial | refine ⟨rfl, ?_⟩))) (by first | exact Le.refl _ | assumption) ?_
      refine h_one 14 rfl (by kernel_rfl) ?_
      refine go_append0 2 (by rw [hnt]; rfl) (by rw [hty]; rfl) (by rw [hty]; rfl) (by decide) rfl rfl rfl rfl (src_own 4 rfl rfl) rfl (by simp [dens, SV.den, Value.oneCell']) (by omega) (by simp only []; omega) ?_
      intro v'
      refine go_rowS 2 rfl ?_
      rintro ad4 cap4 rfl
      refine rn_ ?_; intros
      refine h_hs (allIn (by repeat (first | exact trivial | refine ⟨rfl, ?_⟩))) (by first | exact Le.refl _ | assumption) ?_
      refine h_take 15 rfl (by kernel_rfl) (by kernel_rfl) (by kernel_rfl) hQp (by rw [hnt]; rfl) (allIn (by repeat (first | exact trivial | refine ⟨rfl, ?_⟩))) (by first | exact Le.refl _ | assumption) (quiet_op (by rw [hty]; first | rfl | (refine st_ ?_; rfl))) ?_; refine st_ ?_
      refine h_take 16 rfl (by kernel_rfl) (by kernel_rfl) (by kernel_rfl) hQp (by rw [hnt]; rfl) (allIn (by repeat (first | exact trivial | refine ⟨rfl, ?_⟩))) (by first | exact Le.refl _ | assumption) (quiet_op (by rw [hty]; first | rfl | (refine st_ ?_; rfl))) ?_; refine st_ ?_
      refine h_one 17 rfl (by kernel_rfl) ?_
      refine rn_ ?_; intros
      refine h_hs (allIn (by repeat (first | exact trivial | refine ⟨rfl, ?_⟩))) (by first | exact Le.refl _ | assumption) ?_
      refine h_end (by kernel_rfl) ?_
      refine rn_ ?_; intros
      refine x_retW rfl hQ hmb hmh hG0 hmub rfl rfl (by rw [hty]; simp only [so, sq, zy, zz, tyE, SO', SQ', opQ, opStore, opAlloc, ev, putS, dOk, cv, SV.cs, SV.one, SV.bool?, eqB, Value.oneCell', ldOwn, binInt, binConst, binBool, binStr, isC, TK.agg, rv, rv1, ldV, resOne, resV, Nat.reduceAdd, Nat.reduceMul, Nat.reduceSub, Nat.reduceLT, Nat.reduceLeDiff, Nat.reduceEqDiff, Nat.reduceBEq, reduceIte, reduceCtorEq, eq_self]; try rfl) rfl rfl (by simp only [enumO]; exact (by repeat (first | exact plain_nil | refine plain_cons (fun _ h => h) ?_))) ?_; simp only [SV.den, resV, dens]
      rw [hcp]
      have e2 : (s.ps ++ [(⟨o.res, (s.vals.length : Int)⟩ : Po)]).length = s.ps.length + 1 := by simp
      exact ⟨_, rfl, ho.r, ho.ok.br, _, _, _, _, _, _, _, by rw [e2], hL, Rp.L_append hM (Rp.L_single ⟨_, rfl, ho.r, ho.ok.br, by simp only [isI64]; omega⟩), hl1, by rw [e2]; omega⟩
    · refine rn_ ?_; intros
      refine h_hs (allIn (by repeat (first | exact trivial | refine ⟨rfl, ?_⟩))) (by first | exact Le.refl _ | assumption) ?_
      refine h_take 11 rfl (by kernel_rfl) (by kernel_rfl) (by kernel_rfl) hQp (by rw [hnt]; rfl) (allIn (by repeat (first | exact trivial | refine ⟨rfl, ?_⟩))) (by first | exact Le.refl _ | assumption) (quiet_op (by rw [hty]; first | rfl | (refine st_ ?_; rfl))) ?_; refine st_ ?_
      refine h_take 12 rfl (by kernel_rfl) (by kernel_rfl) (by kernel_rfl) hQp (by rw [hnt]; rfl) (allIn (by repeat (first | exact trivial | refine ⟨rfl, ?_⟩))) (by first | exact Le.refl _ | assumption) (quiet_op (by rw [hty]; first | rfl | (refine st_ ?_; rfl))) ?_; refine st_ ?_
      refine h_two 4 13 rfl rfl (by kernel_rfl) ?_ ?_
      · refine rn_ ?_; intros
        refine h_hs (allIn (by repeat (first | exact trivial | refine ⟨rfl, ?_⟩))) (by first | exact Le.refl _ | assumption) ?_
        refine h_one 13 rfl (by kernel_rfl) ?_
        refine rn_ ?_; intros
        refine h_hs (allIn (by repeat (first | exact trivial | refine ⟨rfl, ?_⟩))) (by first | exact Le.refl _ | assumption) ?_
        refine h_one 14 rfl (by kernel_rfl) ?_
        refine go_append0 2 (by rw [hnt]; rfl) (by rw [hty]; rfl) (by rw [hty]; rfl) (by decide) rfl rfl rfl rfl (src_own 4 rfl rfl) rfl (by simp [dens, SV.den, Value.oneCell']) (by omega) (by simp only []; omega) ?_
        intro v'
        refine go_rowS 2 rfl ?_
        rintro ad4 cap4 rfl
        refine rn_ ?_; intros
        refine h_hs (allIn (by repeat (first | exact trivial | refine ⟨rfl, ?_⟩))) (by first | exact Le.refl _ | assumption) ?_
        refine h_take 15 rfl (by kernel_rfl) (by kernel_rfl) (by kernel_rfl) hQp (by rw [hnt]; rfl) (allIn (by repeat (first | exact trivial | refine ⟨rfl, ?_⟩))) (by first | exact Le.refl _ | assumption) (quiet_op (by rw [hty]; first | rfl | (refine st_ ?_; rfl))) ?_; refine st_ ?_
        refine h_take 16 rfl (by kernel_rfl) (by kernel_rfl) (by kernel_rfl) hQp (by rw [hnt]; rfl) (allIn (by repeat (first | exact trivial | refine ⟨rfl, ?_⟩))) (by first | exact Le.refl _ | assumption) (quiet_op (by rw [hty]; first | rfl | (refine st_ ?_; rfl))) ?_; refine st_ ?_
        refine h_one 17 rfl (by kernel_rfl) ?_
        refine rn_ ?_; intros
        refine h_hs (allIn (by repeat (first | exact trivial | refine ⟨rfl, ?_⟩))) (by first | exact Le.refl _ | assumption) ?_
        refine h_end (by kernel_rfl) ?_
        refine rn_ ?_; intros
        refine x_retW rfl hQ hmb hmh hG0 hmub rfl rfl (by rw [hty]; simp only [so, sq, zy, zz, tyE, SO', SQ', opQ, opStore, opAlloc, ev, putS, dOk, cv, SV.cs, SV.one, SV.bool?, eqB, Value.oneCell', ldOwn, binInt, binConst, binBool, binStr, isC, TK.agg, rv, rv1, ldV, resOne, resV, Nat.reduceAdd, Nat.reduceMul, Nat.reduceSub, Nat.reduceLT, Nat.reduceLeDiff, Nat.reduceEqDiff, Nat.reduceBEq, reduceIte, reduceCtorEq, eq_self]; try rfl) rfl rfl (by simp only [enumO]; exact (by repeat (first | exact plain_nil | refine plain_cons (fun _ h => h) ?_))) ?_; simp only [SV.den, resV, dens]
        rw [hcp]
        have e2 : (s.ps ++ [(⟨o.res, (s.vals.length : Int)⟩ : Po)]).length = s.ps.length + 1 := by simp
        exact ⟨_, rfl, ho.r, ho.ok.br, _, _, _, _, _, _, _, by rw [e2], hL, Rp.L_append hM (Rp.L_single ⟨_, rfl, ho.r, ho.ok.br, by simp only [isI64]; omega⟩), hl1, by rw [e2]; omega⟩
      · refine rn_ ?_; intros
        refine h_hs (allIn (by repeat (first | exact trivial | refine ⟨rfl, ?_⟩))) (by first | exact Le.refl _ | assumption) ?_
        refine h_one 4 rfl (by kernel_rfl) ?_
        refine rn_ ?_; intros
        refine h_hs (allIn (by repeat (first | exact trivial | refine ⟨rfl, ?_⟩))) (by first | exact Le.refl _ | assumption) ?_
        refine h_one 14 rfl (by kernel_rfl) ?_
        refine go_append0 2 (by rw [hnt]; rfl) (by rw [hty]; rfl) (by rw [hty]; rfl) (by decide) rfl rfl rfl rfl (src_own 4 rfl rfl) rfl (by simp [dens, SV.den, Value.oneCell']) (by omega) (by simp only []; omega) ?_
        intro v'
        refine go_rowS 2 rfl ?_
        rintro ad4 cap4 rfl
        refine rn_ ?_; intros
        refine h_hs (allIn (by repeat (first | exact trivial | refine ⟨rfl, ?_⟩))) (by first | exact Le.refl _ | assumption) ?_
        refine h_take 15 rfl (by kernel_rfl) (by kernel_rfl) (by kernel_rfl) hQp (by rw [hnt]; rfl) (allIn (by repeat (first | exact trivial | refine ⟨rfl, ?_⟩))) (by first | exact Le.refl _ | assumption) (quiet_op (by rw [hty]; first | rfl | (refine st_ ?_; rfl))) ?_; refine st_ ?_
        refine h_take 16 rfl (by kernel_rfl) (by kernel_rfl) (by kernel_rfl) hQp (by rw [hnt]; rfl) (allIn (by repeat (first | exact trivial | refine ⟨rfl, ?_⟩))) (by first | exact Le.refl _ | assumption) (quiet_op (by rw [hty]; first | rfl | (refine st_ ?_; rfl))) ?_; refine st_ ?_
        refine h_one 17 rfl (by kernel_rfl) ?_
        refine rn_ ?_; intros
        refine h_hs (allIn (by repeat (first | exact trivial | refine ⟨rfl, ?_⟩))) (by first | exact Le.refl _ | assumption) ?_
        refine h_end (by kernel_rfl) ?_
        refine rn_ ?_; intros
        refine x_retW rfl hQ hmb hmh hG0 hmub rfl rfl (by rw [hty]; simp only [so, sq, zy, zz, tyE, SO', SQ', opQ, opStore, opAlloc, ev, putS, dOk, cv, SV.cs, SV.one, SV.bool?, eqB, Value.oneCell', ldOwn, binInt, binConst, binBool, binStr, isC, TK.agg, rv, rv1, ldV, resOne, resV, Nat.reduceAdd, Nat.reduceMul, Nat.reduceSub, Nat.reduceLT, Nat.reduceLeDiff, Nat.reduceEqDiff, Nat.reduceBEq, reduceIte, reduceCtorEq, eq_self]; try rfl) rfl rfl (by simp only [enumO]; exact (by repeat (first | exact plain_nil | refine plain_cons (fun _ h => h) ?_))) ?_; simp only [SV.den, resV, dens]
        rw [hcp]
        have e2 : (s.ps ++ [(⟨o.res, (s.vals.length : Int)⟩ : Po)]).length = s.ps.length + 1 := by simp
        exact ⟨_, rfl, ho.r, ho.ok.br, _, _, _, _, _, _, _, by rw [e2], hL, Rp.L_append hM (Rp.L_single ⟨_, rfl, ho.r, ho.ok.br, by simp only [isI64]; omega⟩), hl1, by rw [e2]; omega⟩
  have hk0' : ¬ o.kd = 0 := by simpa using hk0
  refine rn_ ?_; intros
  refine x_split rfl rfl rfl (fun hk => ?_) (fun hk => ?_) <;> (refine st_ ?_; (refine ru_ ?_; intros))
  · have hk' : o.kd = 1 := by simpa using hk
    refine rn_ ?_; intros
    refine x_held [(3, b3, .c 40 [.v (.int .i64 o.th), .v (.int .i64 o.kd), .v (.int .i64 o.arg.k), .v (.int .i64 o.arg.n), .v (.slice ada o.arg.l.length capa), .v (.int .i64 o.res.k), .v (.int .i64 o.res.n), .v (.slice adr o.res.l.length capr), .v (.int .i64 o.fr), .v (.int .i64 o.to), .v (.bool o.dn)])] rfl (by rw [hP]; kernel_rfl) rfl rfl rfl ?_; refine st_ ?_
    refine h_take 0 rfl (by kernel_rfl) (by kernel_rfl) (by kernel_rfl) hQp (by rw [hnt]; rfl) (allIn (by repeat (first | exact trivial | refine ⟨rfl, ?_⟩))) (by first | exact Le.refl _ | assumption) (quiet_op (by rw [hty]; first | rfl | (refine st_ ?_; rfl))) ?_; refine st_ ?_
    refine h_take 1 rfl (by kernel_rfl) (by kernel_rfl) (by kernel_rfl) hQp (by rw [hnt]; rfl) (allIn (by repeat (first | exact trivial | refine ⟨rfl, ?_⟩))) (by first | exact Le.refl _ | assumption) (quiet_op (by rw [hty]; first | rfl | (refine st_ ?_; rfl))) ?_; refine st_ ?_
    refine h_take 2 rfl (by kernel_rfl) (by kernel_rfl) (by kernel_rfl) hQp (by rw [hnt]; rfl) (allIn (by repeat (first | exact trivial | refine ⟨rfl, ?_⟩))) (by first | exact Le.refl _ | assumption) (quiet_op (by rw [hty]; first | rfl | (refine st_ ?_; rfl))) ?_; refine st_ ?_
    refine h_take 4 rfl (by kernel_rfl) (by kernel_rfl) (by kernel_rfl) hQp (by rw [hnt]; rfl) (allIn (by repeat (first | exact trivial | refine ⟨rfl, ?_⟩))) (by first | exact Le.refl _ | assumption) (quiet_op (by rw [hty]; first | rfl | (refine st_ ?_; rfl))) ?_; refine st_ ?_
    refine h_take 5 rfl (by kernel_rfl) (by kernel_rfl) (by kernel_rfl) hQp (by rw [hnt]; rfl) (allIn (by repeat (first | exact trivial | refine ⟨rfl, ?_⟩))) (by first | exact Le.refl _ | assumption) (quiet_op (by rw [hty]; first | rfl | (refine st_ ?_; rfl))) ?_; refine st_ ?_
    have hfix : ∀ z c : List Value, z.length = 3 → c.length = 3 → (xs ++ z).take (s.vals.length * 3) ++ c ++ (xs ++ z).drop (s.vals.length * 3 + c.length) = xs ++ c := fun z c h1 h2 => by
      rw [← hxl, List.take_left, List.drop_eq_nil_of_le (by simp; omega), List.append_nil]
    refine h_two 3 7 rfl rfl (by kernel_rfl) ?_ ?_
    · refine rn_ ?_; intros
      refine h_hs (allIn (by repeat (first | exact trivial | refine ⟨rfl, ?_⟩))) (by first | exact Le.refl _ | assumption) ?_
      refine h_take 6 rfl (by kernel_rfl) (by kernel_rfl) (by kernel_rfl) hQp (by rw [hnt]; rfl) (allIn (by repeat (first | exact trivial | refine ⟨rfl, ?_⟩))) (by first | exact Le.refl _ | assumption) (quiet_op (by rw [hty]; first | rfl | (refine st_ ?_; rfl))) ?_; refine st_ ?_
      refine h_one 7 rfl (by kernel_rfl) ?_
      refine rn_ ?_; intros
      refine h_hs (allIn (by repeat (first | exact trivial | refine ⟨rfl, ?_⟩))) (by first | exact Le.refl _ | assumption) ?_
      refine h_one 8 rfl (by kernel_rfl) ?_
      refine go_qapp 1 (by rw [hnt]; rfl) (by rw [hty]; rfl) (by rw [hty]; rfl) (by decide) rfl rfl rfl hGl rfl (src_own 3 rfl rfl) rfl (by simp [dens, SV.den, Value.oneCell']) (by omega) (by simp only []; omega) ?_
      intro g off cap cur hqs hcap
      refine rn_ ?_; intros
      refine h_hs (allIn (by repeat (first | exact trivial | refine ⟨rfl, ?_⟩))) (by first | exact Le.refl _ | assumption) ?_
      refine h_take 9 rfl (by kernel_rfl) (by kernel_rfl) (by kernel_rfl) hQp (by rw [hnt]; rfl) (allIn (by repeat (first | exact trivial | refine ⟨rfl, ?_⟩))) (by first | exact Le.refl _ | assumption) (x := .v (.pointer (some ⟨g, off + s.vals.length * 3, none⟩))) ((quiet_index (by rw [hty]; rfl) (by rw [hty]; rfl) rfl rfl rfl (by omega) (by omega)).cast rfl) ?_
      refine st_ ?_
      refine h_take 11 rfl (by kernel_rfl) (by kernel_rfl) (by kernel_rfl) hQp (by rw [hnt]; rfl) (allIn (by repeat (first | exact trivial | refine ⟨rfl, ?_⟩))) (by first | exact Le.refl _ | assumption) (quiet_op (by rw [hty]; first | rfl | (refine st_ ?_; rfl))) ?_; refine st_ ?_
      refine h_take 12 rfl (by kernel_rfl) (by kernel_rfl) (by kernel_rfl) hQp (by rw [hnt]; rfl) (allIn (by repeat (first | exact trivial | refine ⟨rfl, ?_⟩))) (by first | exact Le.refl _ | assumption) (quiet_op (by rw [hty]; first | rfl | (refine st_ ?_; rfl))) ?_; refine st_ ?_
      refine h_two 10 13 rfl rfl (by kernel_rfl) ?_ ?_
      · refine go_storeQ 1 (m := s.vals.length * 3) (by rw [hnt]; rfl) (by rw [hty]; rfl) rfl rfl rfl rfl rfl rfl hqs rfl (by simp [dens]; omega) ?_
        intro cur' hqs'
        refine rn_ ?_; intros
        refine h_hs (allIn (by repeat (first | exact trivial | refine ⟨rfl, ?_⟩))) (by first | exact Le.refl _ | assumption) ?_
        refine h_one 13 rfl (by kernel_rfl) ?_
        refine rn_ ?_; intros
        refine h_hs (allIn (by repeat (first | exact trivial | refine ⟨rfl, ?_⟩))) (by first | exact Le.refl _ | assumption) ?_
        refine h_end (by kernel_rfl) ?_
        rw [hfix _ _ rfl rfl] at hqs'
        refine go_qthing (G0 := G0) (n := s.vals.length + 1) 1 rfl hqs' (by simp [dens]; omega) hcap ?_
        intro Z' bz'
        refine st_ ?_
        refine rn_ ?_; intros
        refine go_callf (by rw [hnt]; rfl) (by rw [hP]; kernel_rfl) rfl (hP ▸ unit_ok _) ?_; refine rn_ ?_; intros
        refine x_retW rfl hQ hmb hmh hG0 hmub rfl rfl (by rw [hty]; simp only [so, sq, zy, zz, tyE, SO', SQ', opQ, opStore, opAlloc, ev, putS, dOk, cv, SV.cs, SV.one, SV.bool?, eqB, Value.oneCell', ldOwn, binInt, binConst, binBool, binStr, isC, TK.agg, rv, rv1, ldV, resOne, resV, Nat.reduceAdd, Nat.reduceMul, Nat.reduceSub, Nat.reduceLT, Nat.reduceLeDiff, Nat.reduceEqDiff, Nat.reduceBEq, reduceIte, reduceCtorEq, eq_self]; try rfl) rfl rfl (by simp only [enumO]; exact (by repeat (first | exact plain_nil | refine plain_cons (fun _ h => h) ?_))) ?_; simp only [SV.den, resV, dens]
        have e : castP s o = (⟨s.vals ++ [o.arg], s.ps⟩, unitV, true) := by rw [castP, if_neg hk0', if_pos hk']
        rw [e]
        have e2 : (s.vals ++ [o.arg]).length = s.vals.length + 1 := by simp
        exact ⟨_, rfl, rep_leaf _ 1 0 (by simp [isI64]) (by simp [isI64]), by simp [unitV, tsz, tszL], _, _, _, _, _, _, _, by rw [e2], Rp.L_append hL (Rp.L_single ⟨_, rfl, ho.a, ho.ok.ba⟩), hM, by rw [e2]; omega, hl2⟩
      · refine rn_ ?_; intros
        refine h_hs (allIn (by repeat (first | exact trivial | refine ⟨rfl, ?_⟩))) (by first | exact Le.refl _ | assumption) ?_
        refine h_one 10 rfl (by kernel_rfl) ?_
        refine go_storeQ 1 (m := s.vals.length * 3) (by rw [hnt]; rfl) (by rw [hty]; rfl) rfl rfl rfl rfl rfl rfl hqs rfl (by simp [dens]; omega) ?_
        intro cur' hqs'
        refine rn_ ?_; intros
        refine h_hs (allIn (by repeat (first | exact trivial | refine ⟨rfl, ?_⟩))) (by first | exact Le.refl _ | assumption) ?_
        refine h_end (by kernel_rfl) ?_
        rw [hfix _ _ rfl rfl] at hqs'
        refine go_qthing (G0 := G0) (n := s.vals.length + 1) 1 rfl hqs' (by simp [dens]; omega) hcap ?_
        intro Z' bz'
        refine st_ ?_
        refine rn_ ?_; intros
        refine go_callf (by rw [hnt]; rfl) (by rw [hP]; kernel_rfl) rfl (hP ▸ unit_ok _) ?_; refine rn_ ?_; intros
        refine x_retW rfl hQ hmb hmh hG0 hmub rfl rfl (by rw [hty]; simp only [so, sq, zy, zz, tyE, SO', SQ', opQ, opStore, opAlloc, ev, putS, dOk, cv, SV.cs, SV.one, SV.bool?, eqB, Value.oneCell', ldOwn, binInt, binConst, binBool, binStr, isC, TK.agg, rv, rv1, ldV, resOne, resV, Nat.reduceAdd, Nat.reduceMul, Nat.reduceSub, Nat.reduceLT, Nat.reduceLeDiff, Nat.reduceEqDiff, Nat.reduceBEq, reduceIte, reduceCtorEq, eq_self]; try rfl) rfl rfl (by simp only [enumO]; exact (by repeat (first | exact plain_nil | refine plain_cons (fun _ h => h) ?_))) ?_; simp only [SV.den, resV, dens]
        have e : castP s o = (⟨s.vals ++ [o.arg], s.ps⟩, unitV, true) := by rw [castP, if_neg hk0', if_pos hk']
        rw [e]
        have e2 : (s.vals ++ [o.arg]).length = s.vals.length + 1 := by simp
        exact ⟨_, rfl, rep_leaf _ 1 0 (by simp [isI64]) (by simp [isI64]), by simp [unitV, tsz, tszL], _, _, _, _, _, _, _, by rw [e2], Rp.L_append hL (Rp.L_single ⟨_, rfl, ho.a, ho.ok.ba⟩), hM, by rw [e2]; omega, hl2⟩
    · refine rn_ ?_; intros
      refine h_hs (allIn (by repeat (first | exact trivial | refine ⟨rfl, ?_⟩))) (by first | exact Le.refl _ | assumption) ?_
      refine h_one 3 rfl (by kernel_rfl) ?_
      refine rn_ ?_; intros
      refine h_hs (allIn (by repeat (first | exact trivial | refine ⟨rfl, ?_⟩))) (by first | exact Le.refl _ | assumption) ?_
      refine h_take 6 rfl (by kernel_rfl) (by kernel_rfl) (by kernel_rfl) hQp (by rw [hnt]; rfl) (allIn (by repeat (first | exact trivial | refine ⟨rfl, ?_⟩))) (by first | exact Le.refl _ | assumption) (quiet_op (by rw [hty]; first | rfl | (refine st_ ?_; rfl))) ?_; refine st_ ?_
      refine h_one 8 rfl (by kernel_rfl) ?_
      refine go_qapp 1 (by rw [hnt]; rfl) (by rw [hty]; rfl) (by rw [hty]; rfl) (by decide) rfl rfl rfl hGl rfl (src_own 3 rfl rfl) rfl (by simp [dens, SV.den, Value.oneCell']) (by omega) (by simp only []; omega) ?_
      intro g off cap cur hqs hcap
      refine rn_ ?_; intros
      refine h_hs (allIn (by repeat (first | exact trivial | refine ⟨rfl, ?_⟩))) (by first | exact Le.refl _ | assumption) ?_
      refine h_take 9 rfl (by kernel_rfl) (by kernel_rfl) (by kernel_rfl) hQp (by rw [hnt]; rfl) (allIn (by repeat (first | exact trivial | refine ⟨rfl, ?_⟩))) (by first | exact Le.refl _ | assumption) (x := .v (.pointer (some ⟨g, off + s.vals.length * 3, none⟩))) ((quiet_index (by rw [hty]; rfl) (by rw [hty]; rfl) rfl rfl rfl (by omega) (by omega)).cast rfl) ?_
      refine st_ ?_
      refine h_take 11 rfl (by kernel_rfl) (by kernel_rfl) (by kernel_rfl) hQp (by rw [hnt]; rfl) (allIn (by repeat (first | exact trivial | refine ⟨rfl, ?_⟩))) (by first | exact Le.refl _ | assumption) (quiet_op (by rw [hty]; first | rfl | (refine st_ ?_; rfl))) ?_; refine st_ ?_
      refine h_take 12 rfl (by kernel_rfl) (by kernel_rfl) (by kernel_rfl) hQp (by rw [hnt]; rfl) (allIn (by repeat (first | exact trivial | refine ⟨rfl, ?_⟩))) (by first | exact Le.refl _ | assumption) (quiet_op (by rw [hty]; first | rfl | (refine st_ ?_; rfl))) ?_; refine st_ ?_
      refine h_two 10 13 rfl rfl (by kernel_rfl) ?_ ?_
      · refine go_storeQ 1 (m := s.vals.length * 3) (by rw [hnt]; rfl) (by rw [hty]; rfl) rfl rfl rfl rfl rfl rfl hqs rfl (by simp [dens]; omega) ?_
        intro cur' hqs'
        refine rn_ ?_; intros
        refine h_hs (allIn (by repeat (first | exact trivial | refine ⟨rfl, ?_⟩))) (by first | exact Le.refl _ | assumption) ?_
        refine h_one 13 rfl (by kernel_rfl) ?_
        refine rn_ ?_; intros
        refine h_hs (allIn (by repeat (first | exact trivial | refine ⟨rfl, ?_⟩))) (by first | exact Le.refl _ | assumption) ?_
        refine h_end (by kernel_rfl) ?_
        rw [hfix _ _ rfl rfl] at hqs'
        refine go_qthing (G0 := G0) (n := s.vals.length + 1) 1 rfl hqs' (by simp [dens]; omega) hcap ?_
        intro Z' bz'
        refine st_ ?_
        refine rn_ ?_; intros
        refine go_callf (by rw [hnt]; rfl) (by rw [hP]; kernel_rfl) rfl (hP ▸ unit_ok _) ?_; refine rn_ ?_; intros
        refine x_retW rfl hQ hmb hmh hG0 hmub rfl rfl (by rw [hty]; simp only [so, sq, zy, zz, tyE, SO', SQ', opQ, opStore, opAlloc, ev, putS, dOk, cv, SV.cs, SV.one, SV.bool?, eqB, Value.oneCell', ldOwn, binInt, binConst, binBool, binStr, isC, TK.agg, rv, rv1, ldV, resOne, resV, Nat.reduceAdd, Nat.reduceMul, Nat.reduceSub, Nat.reduceLT, Nat.reduceLeDiff, Nat.reduceEqDiff, Nat.reduceBEq, reduceIte, reduceCtorEq, eq_self]; try rfl) rfl rfl (by simp only [enumO]; exact (by repeat (first | exact plain_nil | refine plain_cons (fun _ h => h) ?_))) ?_; simp only [SV.den, resV, dens]
        have e : castP s o = (⟨s.vals ++ [o.arg], s.ps⟩, unitV, true) := by rw [castP, if_neg hk0', if_pos hk']
        rw [e]
        have e2 : (s.vals ++ [o.arg]).length = s.vals.length + 1 := by simp
        exact ⟨_, rfl, rep_leaf _ 1 0 (by simp [isI64]) (by simp [isI64]), by simp [unitV, tsz, tszL], _, _, _, _, _, _, _, by rw [e2], Rp.L_append hL (Rp.L_single ⟨_, rfl, ho.a, ho.ok.ba⟩), hM, by rw [e2]; omega, hl2⟩
      · refine rn_ ?_; intros
        refine h_hs (allIn (by repeat (first | exact trivial | refine ⟨rfl, ?_⟩))) (by first | exact Le.refl _ | assumption) ?_
        refine h_one 10 rfl (by kernel_rfl) ?_
        refine go_storeQ 1 (m := s.vals.length * 3) (by rw [hnt]; rfl) (by rw [hty]; rfl) rfl rfl rfl rfl rfl rfl hqs rfl (by simp [dens]; omega) ?_
        intro cur' hqs'
        refine rn_ ?_; intros
        refine h_hs (allIn (by repeat (first | exact trivial | refine ⟨rfl, ?_⟩))) (by first | exact Le.refl _ | assumption) ?_
        refine h_end (by kernel_rfl) ?_
        rw [hfix _ _ rfl rfl] at hqs'
        refine go_qthing (G0 := G0) (n := s.vals.length + 1) 1 rfl hqs' (by simp [dens]; omega) hcap ?_
        intro Z' bz'
        refine st_ ?_
        refine rn_ ?_; intros
        refine go_callf (by rw [hnt]; rfl) (by rw [hP]; kernel_rfl) rfl (hP ▸ unit_ok _) ?_; refine rn_ ?_; intros
        refine x_retW rfl hQ hmb hmh hG0 hmub rfl rfl (by rw [hty]; simp only [so, sq, zy, zz, tyE, SO', SQ', opQ, opStore, opAlloc, ev, putS, dOk, cv, SV.cs, SV.one, SV.bool?, eqB, Value.oneCell', ldOwn, binInt, binConst, binBool, binStr, isC, TK.agg, rv, rv1, ldV, resOne, resV, Nat.reduceAdd, Nat.reduceMul, Nat.reduceSub, Nat.reduceLT, Nat.reduceLeDiff, Nat.reduceEqDiff, Nat.reduceBEq, reduceIte, reduceCtorEq, eq_self]; try rfl) rfl rfl (by simp only [enumO]; exact (by repeat (first | exact plain_nil | refine plain_cons (fun _ h => h) ?_))) ?_; simp only [SV.den, resV, dens]
        have e : castP s o = (⟨s.vals ++ [o.arg], s.ps⟩, unitV, true) := by rw [castP, if_neg hk0', if_pos hk']
        rw [e]
        have e2 : (s.vals ++ [o.arg]).length = s.vals.length + 1 := by simp
        exact ⟨_, rfl, rep_leaf _ 1 0 (by simp [isI64]) (by simp [isI64]), by simp [unitV, tsz, tszL], _, _, _, _, _, _, _, by rw [e2], Rp.L_append hL (Rp.L_single ⟨_, rfl, ho.a, ho.ok.ba⟩), hM, by rw [e2]; omega, hl2⟩
  have hk' : ¬ o.kd = 1 := by simpa using hk
  refine rn_ ?_; intros
  refine go_lendRC rPo 2 0 (by rw [hnt]; rfl) (by rw [hP]; kernel_rfl) rfl rfl rfl (by omega) hM rfl (fun G1 hle hS hat => by rw [hP]; exact port_ok s.ps o.arg b _ _ _ G1 (by simpa [dens, SV.den] using hat) hS (VT.rep_mono hle ho.a)) ?_
  refine rn_ ?_; intros
  refine x_draw rfl (by rw [hP]; kernel_rfl) rfl (by kernel_rfl) ?_
  refine runq 400 hty hnt ?_; refine st_ ?_
  refine go_qsplit rfl rfl (fun hni => ?_) (fun hni => ?_) <;> (refine st_ ?_; (try (refine runq 400 hty hnt ?_; refine st_ ?_)))
  · have e : castP s o = (s, noneV, false) := by
      rw [castP, if_neg hk0', if_neg hk']
      simp at hni
      rw [hni]
    repeat (refine q_gundef rfl (by rw [hnt]; rfl) rfl ?_; (refine st_ ?_; (try (refine runq 400 hty hnt ?_; refine st_ ?_))))
    refine q_end ?_; refine rn_ ?_; intros
    refine rn_ ?_; intros
    refine x_retW rfl hQ hmb hmh hG0 hmub rfl rfl (by rw [hty]; simp only [so, sq, zy, zz, tyE, SO', SQ', opQ, opStore, opAlloc, ev, putS, dOk, cv, SV.cs, SV.one, SV.bool?, eqB, Value.oneCell', ldOwn, binInt, binConst, binBool, binStr, isC, TK.agg, rv, rv1, ldV, resOne, resV, Nat.reduceAdd, Nat.reduceMul, Nat.reduceSub, Nat.reduceLT, Nat.reduceLeDiff, Nat.reduceEqDiff, Nat.reduceBEq, reduceIte, reduceCtorEq, eq_self]; try rfl) rfl rfl (by simp only [enumO]; exact (by repeat (first | exact plain_nil | refine plain_cons (fun _ h => h) ?_))) ?_; simp only [SV.den, resV, dens]
    rw [e]
    exact ⟨_, rfl, rep_leaf _ 0 0 (by simp [isI64]) (by simp [isI64]), by simp [noneV, tsz, tszL], _, _, _, _, _, _, _, rfl, hL, hM, hl1, hl2⟩
  obtain ⟨i, hpi⟩ : ∃ i, pix o.arg s.ps 0 = some i := by
    simp at hni
    exact Option.isSome_iff_exists.1 hni
  have hi := (pix_lt hpi).2
  rw [Nat.zero_add] at hi
  obtain ⟨c, hc1, sl, rfl, hrp, hbp, h64⟩ := Rp.L_get hM hi
  simp only [rPo] at hc1
  obtain ⟨hd1, htk, hm4⟩ := cut4 hc1
  have hwfi := hwf _ (List.getElem_mem hi)
  have hgd : s.ps.getD i ⟨noneV, 0⟩ = s.ps[i] := by rw [List.getD_eq_getElem?_getD, List.getElem?_eq_getElem hi]; rfl
  obtain ⟨g, rfl⟩ : ∃ g, adp = some ⟨g, 0, none⟩ := by
    rcases hposp with ⟨h0, _⟩ | h0
    · rw [h0] at hm4; simp at hm4
    · exact h0
  rw [hpi]
  simp only [Option.getD_some]
  have hcs : castP s o = if (s.vals.length : Int) ≤ s.ps[i].pt then (s, noneV, false) else (⟨s.vals, s.ps.set i ⟨s.ps[i].nm, s.ps[i].pt + 1⟩⟩, s.vals.getD s.ps[i].pt.toNat noneV, true) := by
    rw [castP, if_neg hk0', if_neg hk', hpi]; simp only [hgd]
  refine runq 400 hty hnt ?_; refine st_ ?_
  refine q_q (by rw [hnt]; rfl) (quiet_index (by rw [hty]; rfl) (by rw [hty]; rfl) rfl rfl rfl (by omega) (by omega)) ?_; refine runq 400 hty hnt ?_; refine st_ ?_
  refine q_q (v := .int .i64 s.ps[i].pt) (by rw [hnt]; rfl) ((quiet_loadR (k := 2) (by rw [hty]; rfl) rfl (by simp [TK.agg]) rfl (by simp; omega)).cast (by simp only [ldV, Nat.zero_add, Int.toNat_natCast]; rw [hd1]; rfl)) ?_
  refine runq 400 hty hnt ?_; refine st_ ?_
  refine q_end ?_; refine rn_ ?_; intros
  refine x_split rfl rfl rfl (fun hge => ?_) (fun hge => ?_) <;> (refine st_ ?_; (refine ru_ ?_; intros))
  · have hge' := of_decide_eq_true hge
    rw [if_pos hge'] at hcs
    refine rn_ ?_; intros
    refine x_retW rfl hQ hmb hmh hG0 hmub rfl rfl (by rw [hty]; simp only [so, sq, zy, zz, tyE, SO', SQ', opQ, opStore, opAlloc, ev, putS, dOk, cv, SV.cs, SV.one, SV.bool?, eqB, Value.oneCell', ldOwn, binInt, binConst, binBool, binStr, isC, TK.agg, rv, rv1, ldV, resOne, resV, Nat.reduceAdd, Nat.reduceMul, Nat.reduceSub, Nat.reduceLT, Nat.reduceLeDiff, Nat.reduceEqDiff, Nat.reduceBEq, reduceIte, reduceCtorEq, eq_self]; try rfl) rfl rfl (by simp only [enumO]; exact (by repeat (first | exact plain_nil | refine plain_cons (fun _ h => h) ?_))) ?_; simp only [SV.den, resV, dens]
    rw [hcs]
    exact ⟨_, rfl, rep_leaf _ 0 0 (by simp [isI64]) (by simp [isI64]), by simp [noneV, tsz, tszL], _, _, _, _, _, _, _, rfl, hL, hM, hl1, hl2⟩
  have hge' := of_decide_eq_false hge
  rw [if_neg hge'] at hcs
  refine rn_ ?_; intros
  refine go_q (by rw [hnt]; rfl) (quiet_index (by rw [hty]; rfl) (by rw [hty]; rfl) rfl rfl rfl (by omega) (by omega)) ?_
  refine rn_ ?_; intros
  refine go_q (v := .int .i64 s.ps[i].pt) (by rw [hnt]; rfl) ((quiet_loadR (k := 2) (by rw [hty]; rfl) rfl (by simp [TK.agg]) rfl (by simp; omega)).cast (by simp only [ldV, Nat.zero_add, Int.toNat_natCast]; rw [hd1]; rfl)) ?_
  refine rn_ ?_; intros
  refine go_q (by rw [hnt]; rfl) (quiet_index (by rw [hty]; rfl) (by rw [hty]; rfl) rfl rfl rfl (by omega) (by omega)) ?_
  refine rn_ ?_; intros
  rw [wr (n := s.ps[i].pt + 1) (by omega) (by omega)]
  have hlay : lay ys (i * 4 + 3) (dens [.v (.int .i64 (s.ps[i].pt + 1))]) = some (ys.take (i * 4) ++ [.int .i64 s.ps[i].nm.k, .int .i64 s.ps[i].nm.n, sl, .int .i64 (s.ps[i].pt + 1)] ++ ys.drop (i * 4 + 4)) := by
    simp only [dens, SV.den]
    rw [lay_put (by simp; omega), htk]
    simp
  refine go_storeR 2 (by rw [hnt]; rfl) (by rw [hty]; rfl) rfl rfl rfl rfl rfl rfl hlay ?_
  refine rn_ ?_; intros
  refine go_keep [0, 4, 8] [0, 1, 2, 4] ?_
  refine st_ ?_
  have hMs : rPo.L G (s.ps.set i ⟨s.ps[i].nm, s.ps[i].pt + 1⟩) (ys.take (i * 4) ++ [.int .i64 s.ps[i].nm.k, .int .i64 s.ps[i].nm.n, sl, .int .i64 (s.ps[i].pt + 1)] ++ ys.drop (i * 4 + 4)) :=
    Rp.L_set (r := rPo) hM ⟨sl, rfl, hrp, hbp, by simp only [isI64]; omega⟩ hi
  have hd2 : ((ys.take (i * 4) ++ [.int .i64 s.ps[i].nm.k, .int .i64 s.ps[i].nm.n, sl, .int .i64 (s.ps[i].pt + 1)] ++ ys.drop (i * 4 + 4)).drop (i * 4 + 3)).take 1 = [.int .i64 (s.ps[i].pt + 1)] := by
    have h0 : (ys.take (i * 4)).length = i * 4 := by simp; omega
    rw [List.append_assoc, List.drop_append, List.drop_eq_nil_of_le (by omega), h0, Nat.add_sub_cancel_left, List.nil_append]
    simp
  have hl4 : (ys.take (i * 4) ++ [.int .i64 s.ps[i].nm.k, .int .i64 s.ps[i].nm.n, sl, .int .i64 (s.ps[i].pt + 1)] ++ ys.drop (i * 4 + 4)).length = ys.length := by simp; omega
  generalize ys.take (i * 4) ++ [.int .i64 s.ps[i].nm.k, .int .i64 s.ps[i].nm.n, sl, .int .i64 (s.ps[i].pt + 1)] ++ ys.drop (i * 4 + 4) = zs at *
  obtain ⟨p, hpe⟩ : ∃ p : Nat, s.ps[i].pt = p := ⟨s.ps[i].pt.toNat, by omega⟩
  have hpl : p < s.vals.length := by omega
  rw [hpe] at hcs hMs hd2 hlay hge'
  try simp only [hpe]
  obtain ⟨cv1, hv1, slv, rfl, hrv, hbv⟩ := Rp.L_get hL hpl
  simp only [rV] at hv1
  obtain ⟨asv, csv, rfl⟩ := VT.rep_slice hrv
  obtain ⟨c2, off, rfl⟩ := hpos (by omega)
  have hv3 : p * 3 + 3 ≤ xs.length := by
    have := congrArg List.length hv1
    simp at this
    omega
  have hgv : s.vals.getD ((p : Int)).toNat noneV = s.vals[p] := by rw [Int.toNat_natCast, List.getD_eq_getElem?_getD, List.getElem?_eq_getElem hpl]; rfl
  rw [hgv] at hcs
  refine x_held [(0, b, .c 44 [.v (.slice (some ⟨c2, off, none⟩) s.vals.length capv), .v (.slice (some ⟨g, 0, none⟩) s.ps.length capp)]), (1, bz, .z (ZQ G0 28 3 (.slice (some ⟨c2, off, none⟩) s.vals.length capv) s.vals.length xs) Z Z), (2, b2, .row (.slice (some ⟨g, 0, none⟩) s.ps.length capp) 55 4 s.ps.length zs)] rfl (by rw [hP]; kernel_rfl) rfl rfl rfl ?_; refine st_ ?_
  refine h_take 0 rfl (by kernel_rfl) (by kernel_rfl) (by kernel_rfl) hQp (by rw [hnt]; rfl) (allIn (by repeat (first | exact trivial | refine ⟨rfl, ?_⟩))) (by first | exact Le.refl _ | assumption) (quiet_op (by rw [hty]; first | rfl | (refine st_ ?_; rfl))) ?_; refine st_ ?_
  refine h_take 1 rfl (by kernel_rfl) (by kernel_rfl) (by kernel_rfl) hQp (by rw [hnt]; rfl) (allIn (by repeat (first | exact trivial | refine ⟨rfl, ?_⟩))) (by first | exact Le.refl _ | assumption) (quiet_op (by rw [hty]; first | rfl | (refine st_ ?_; rfl))) ?_; refine st_ ?_
  refine h_take 2 rfl (by kernel_rfl) (by kernel_rfl) (by kernel_rfl) hQp (by rw [hnt]; rfl) (allIn (by repeat (first | exact trivial | refine ⟨rfl, ?_⟩))) (by first | exact Le.refl _ | assumption) (quiet_op (by rw [hty]; first | rfl | (refine st_ ?_; rfl))) ?_; refine st_ ?_
  refine h_take 3 rfl (by kernel_rfl) (by kernel_rfl) (by kernel_rfl) hQp (by rw [hnt]; rfl) (allIn (by repeat (first | exact trivial | refine ⟨rfl, ?_⟩))) (by first | exact Le.refl _ | assumption) (quiet_op (by rw [hty]; first | rfl | (refine st_ ?_; rfl))) ?_; refine st_ ?_
  refine h_take 4 rfl (by kernel_rfl) (by kernel_rfl) (by kernel_rfl) hQp (by rw [hnt]; rfl) (allIn (by repeat (first | exact trivial | refine ⟨rfl, ?_⟩))) (by first | exact Le.refl _ | assumption) (quiet_op (by rw [hty]; first | rfl | (refine st_ ?_; rfl))) ?_; refine st_ ?_
  refine h_take 5 rfl (by kernel_rfl) (by kernel_rfl) (by kernel_rfl) hQp (by rw [hnt]; rfl) (allIn (by repeat (first | exact trivial | refine ⟨rfl, ?_⟩))) (by first | exact Le.refl _ | assumption) (quiet_op (by rw [hty]; first | rfl | (refine st_ ?_; rfl))) ?_; refine st_ ?_
  refine h_take 6 rfl (by kernel_rfl) (by kernel_rfl) (by kernel_rfl) hQp (by rw [hnt]; rfl) (allIn (by repeat (first | exact trivial | refine ⟨rfl, ?_⟩))) (by first | exact Le.refl _ | assumption) (quiet_op (by rw [hty]; first | rfl | (refine st_ ?_; rfl))) ?_; refine st_ ?_
  refine h_take 7 rfl (by kernel_rfl) (by kernel_rfl) (by kernel_rfl) hQp (by rw [hnt]; rfl) (allIn (by repeat (first | exact trivial | refine ⟨rfl, ?_⟩))) (by first | exact Le.refl _ | assumption) (quiet_op (by rw [hty]; first | rfl | (refine st_ ?_; rfl))) ?_; refine st_ ?_
  refine h_take 8 rfl (by kernel_rfl) (by kernel_rfl) (by kernel_rfl) hQp (by rw [hnt]; rfl) (allIn (by repeat (first | exact trivial | refine ⟨rfl, ?_⟩))) (by first | exact Le.refl _ | assumption) (quiet_op (by rw [hty]; first | rfl | (refine st_ ?_; rfl))) ?_; refine st_ ?_
  refine h_take 9 rfl (by kernel_rfl) (by kernel_rfl) (by kernel_rfl) hQp (by rw [hnt]; rfl) (allIn (by repeat (first | exact trivial | refine ⟨rfl, ?_⟩))) (by first | exact Le.refl _ | assumption) (x := .v (.pointer (some ⟨g, i * 4, none⟩))) ((quiet_index (by rw [hty]; rfl) (by rw [hty]; rfl) rfl rfl rfl (by omega) (by omega)).cast (by simp [SV.den])) ?_
  refine st_ ?_
  refine h_take 10 rfl (by kernel_rfl) (by kernel_rfl) (by kernel_rfl) hQp (by rw [hnt]; rfl) (allIn (by repeat (first | exact trivial | refine ⟨rfl, ?_⟩))) (by first | exact Le.refl _ | assumption) (quiet_op (by rw [hty]; first | rfl | (refine st_ ?_; rfl))) ?_; refine st_ ?_
  refine h_take 11 rfl (by kernel_rfl) (by kernel_rfl) (by kernel_rfl) hQp (by rw [hnt]; rfl) (allIn (by repeat (first | exact trivial | refine ⟨rfl, ?_⟩))) (by first | exact Le.refl _ | assumption) (x := .v (.int .i64 ((p : Int) + 1))) ((quiet_loadR (k := 2) (by rw [hty]; rfl) rfl (by simp [TK.agg]) rfl (by simp; omega)).cast (by simp only [ldV, SV.den]; rw [hd2]; rfl)) ?_
  refine st_ ?_
  refine h_take 12 rfl (by kernel_rfl) (by kernel_rfl) (by kernel_rfl) hQp (by rw [hnt]; rfl) (allIn (by repeat (first | exact trivial | refine ⟨rfl, ?_⟩))) (by first | exact Le.refl _ | assumption) (quiet_op (by rw [hty]; first | rfl | (refine st_ ?_; rfl))) ?_; refine st_ ?_
  rw [wr (n := (p : Int) + 1 - 1) (by omega) (by omega), show (p : Int) + 1 - 1 = p by omega]
  refine h_take 13 rfl (by kernel_rfl) (by kernel_rfl) (by kernel_rfl) hQp (by rw [hnt]; rfl) (allIn (by repeat (first | exact trivial | refine ⟨rfl, ?_⟩))) (by first | exact Le.refl _ | assumption) (x := .v (.pointer (some ⟨c2, off + p * 3, none⟩))) ((quiet_index (by rw [hty]; rfl) (by rw [hty]; rfl) rfl rfl rfl (by omega) (by omega)).cast (by simp [SV.den])) ?_
  refine st_ ?_
  refine h_take 14 rfl (by kernel_rfl) (by kernel_rfl) (by kernel_rfl) hQp (by rw [hnt]; rfl) (allIn (by repeat (first | exact trivial | refine ⟨rfl, ?_⟩))) (by first | exact Le.refl _ | assumption) (x := .a [.v (.int .i64 s.vals[p].k), .v (.int .i64 s.vals[p].n), .v (.slice asv s.vals[p].l.length csv)]) ((quiet_loadQ 1 (m := p * 3) (by rw [hty]; rfl) rfl (by simp [TK.agg]) rfl hGl rfl (by simp; omega) (by simp)).cast (by simp only [ldV, SV.den, dens]; rw [hv1]; rfl)) ?_
  refine st_ ?_
  refine h_one 15 rfl (by kernel_rfl) ?_
  refine rn_ ?_; intros
  refine h_hs (allIn (by repeat (first | exact trivial | refine ⟨rfl, ?_⟩))) (by first | exact Le.refl _ | assumption) ?_
  refine h_take 16 rfl (by kernel_rfl) (by kernel_rfl) (by kernel_rfl) hQp (by rw [hnt]; rfl) (allIn (by repeat (first | exact trivial | refine ⟨rfl, ?_⟩))) (by first | exact Le.refl _ | assumption) (quiet_op (by rw [hty]; first | rfl | (refine st_ ?_; rfl))) ?_; refine st_ ?_
  refine h_end (by kernel_rfl) ?_
  refine rn_ ?_; intros
  refine x_retW rfl hQ hmb hmh hG0 hmub rfl rfl (by rw [hty]; simp only [so, sq, zy, zz, tyE, SO', SQ', opQ, opStore, opAlloc, ev, putS, dOk, cv, SV.cs, SV.one, SV.bool?, eqB, Value.oneCell', ldOwn, binInt, binConst, binBool, binStr, isC, TK.agg, rv, rv1, ldV, resOne, resV, Nat.reduceAdd, Nat.reduceMul, Nat.reduceSub, Nat.reduceLT, Nat.reduceLeDiff, Nat.reduceEqDiff, Nat.reduceBEq, reduceIte, reduceCtorEq, eq_self]; try rfl) rfl rfl (by simp only [enumO]; exact (by repeat (first | exact plain_nil | refine plain_cons (fun _ h => h) ?_))) ?_; simp only [SV.den, resV, dens]
  rw [hcs]
  have e3 : (s.ps.set i ⟨s.ps[i].nm, (p : Int) + 1⟩).length = s.ps.length := List.length_set
  exact ⟨_, rfl, hrv, hbv, _, _, _, _, _, _, _, by rw [e3], hL, hMs, hl1, by rw [e3]; exact hl2⟩
end Go.Proofs.Ytpmmbjcgabnloaa
namespace Go.Sx
set_option linter.unusedSimpArgs false
set_option linter.unusedVariables false
open Go.RowKit
section
variable {C : Ctx} {sl : List (Nat × SV)} {own : Owns} {G : Hp}
theorem iface_meths {P : Program} {T : TypeId} {fl : List (Nat × Nat × Bool)} (h : TK.fits P T fl .iface) : P.underlying T = some (.interface (P.methodsAt T)) := by
  obtain ⟨m, hm⟩ := h
  rw [hm]; simp [Program.methodsAt, hm]
theorem quiet_is {T S : TypeId} {v : Value} {x : Operand} {y : SV} {sz by' : Nat} {ze : List Value} {fl : List (Nat × Nat × Bool)} (hS : C.ty S = some ⟨.strct, sz, by', ze, fl⟩) (hx : ev sl x = some y) (hy : y.den = .iface S v) :
    Quiet C sl own G (.typeAssert x T S true) (.tuple #[v, .bool true]) := by
  intro a w dd t pos aft g hsl hh
  have hxv := ev_ok hsl hx
  rw [hy] at hxv
  obtain ⟨fs, hu, _⟩ := (C.tyok _ _ hS).k
  simp only [execOp, hxv]
  rw [Sem.run_bind]
  simp [Instr.typeAssert, run_underlying hu, Sem.run_bind]
def recOf (u : FrameMode) (v : Value) (u' : FrameMode) : Prop := (u = .returning ∧ v = .nilIface ∧ u' = .returning) ∨ (u = .panicking [pE v] ∧ u' = .panicking [{ v := v, recovered := true }])
theorem x_endW {s : St} {fn : Func} {ow : Lds} {φ : Value → Hp → Lds → Prop} (hQ : C.Q = bodyPost C.P fn (RetW C.w0 G ow φ)) (hmb : ∀ g, g ∈ C.mb → mutOf ow g) {mh : Nat} (hmh : C.mh = mh) (hG : C.G0 = G) (hmub : ∀ g, mutOf ow g → blkOf ow g) (hml : ow.length = mh)
    (hrs : fn.results.toList = []) (hdf : s.df = []) {ow' : Lds} (hp : pickO s.own 0 mh = some ow')
    (hpl : Plain (enumO 0 ow')) (h : ∀ v, φ v s.G ow') : SGo C [] s := by
  intro a w hS
  show C.Q .normal a w
  rw [hQ]
  have hg := hS.mem.grow
  obtain ⟨p1, p2⟩ := pickO_get hp
  have p3 : ∀ {i b o}, ow'[i]? = some (b, o) → lk i s.own = some (b, o) := fun {i b o} e => by simpa using p2 i _ e
  have p4 : ∀ {i b o}, ow'[i]? = some (b, o) → i < mh := fun {i b o} e => by
    rcases Nat.lt_or_ge i ow'.length with q | q
    · omega
    · rw [List.getElem?_eq_none q] at e; cases e
  have p5 : ∀ g, blkOf ow' g → mutOf ow' g := fun g ⟨i, b, o, e, hb⟩ => ⟨i, b, o, e, hpl i b o (by rw [lk_enumO]; simpa using e) g hb⟩
  have p6 : ∀ g, mutOf ow' g → mutOf ow g ∨ C.w0.heap.size ≤ g := fun g ⟨i, b, o, e, hb⟩ => by
    obtain ⟨_, q⟩ := hS.mem.own _ _ _ (p3 e)
    rcases (q g hb).2.2 (by rw [hmh]; exact p4 e) with q | q
    · exact .inl (hmb g q)
    · exact .inr q
  have hres : (results fn a.tmps).run C.P w = .ok (.tuple #[]) w := by
    have : fn.results = #[] := by simpa using hrs
    simp [results, this]
  refine ⟨by rw [hS.df, hdf], _, hres, _, _, ow', rfl, hg.fr, fun g hg1 hg2 => ?_, hg.has, fun b hb => by rw [hg.old b hb, hG], ⟨fun i b o e => ?_, fun i j b b' o o' g e e' f f' => ?_⟩, by omega, fun g q => ?_, p6, h _⟩
  · exact hg.blk g hg1 fun q => hg2 (hmb g q)
  · obtain ⟨q1, q2⟩ := hS.mem.own _ _ _ (p3 e)
    exact ⟨q1, fun g q => (q2 g q).1⟩
  · exact hS.mem.inj _ _ _ _ _ _ g (p3 e) (p3 e') f f'
  · exact (p6 g (p5 g q)).imp (hmub g) id
theorem quiet_slice3 {T e : TypeId} {x hi mx : Operand} {te : TI} {sz by' : Nat} {ze : List Value} {fl : List (Nat × Nat × Bool)} {ad : Option Addr} {len cap : Nat} {k k' : IntKind} {m : Int} {y : SV}
    (hT : C.ty T = some ⟨.slice e, sz, by', ze, fl⟩) (he : C.ty e = some te) (hx : ev sl x = some y) (hy : y.den = .slice ad len cap) (hi1 : ev sl hi = some (.v (.int k m))) (hi2 : ev sl mx = some (.v (.int k' m))) (h0 : 0 ≤ m) (h2 : m ≤ (cap : Int)) :
    Quiet C sl own G (.slice T x none (some hi) (some mx)) (sliced ad m.toNat 0 m.toNat te.size) := by
  intro a w d t pos aft g hs hh
  have hxv := ev_ok hs hx
  have hiv1 := ev_ok hs hi1
  have hiv2 := ev_ok hs hi2
  rw [hy] at hxv
  simp only [SV.den] at hiv1 hiv2
  have g1 := (C.tyok _ _ hT).k
  simp only [TK.fits] at g1
  simp only [execOp, hxv, hiv1, hiv2, Option.map_some, Option.map_none, Instr.sliceAt, Instr.slice, Instr.sliceBounds, Sem.run_bind, run_und w g1, Result.andThen_ok, Sem.run_pure, sliceBound_ok (y := cap) h0 h2, sliceBound_ok (y := m.toNat) h0 (show m ≤ (m.toNat : Int) by omega), run_size w (C.tyok _ _ he), sliced]
def QPd (C : Ctx) (d : Option Tmp) : Prop := ∀ c (a : Act) w v, C.Q (.panic c) (a.put d v) w → C.Q (.panic c) a w
theorem leavesIn_tmps {F : Fence} {n : Nat} {P : Program} {fn : Func} {tmps tmps' : Array Value} {Rr : Ending → World → Prop} (h : results fn tmps = results fn tmps') : ∀ (ds : List Deferred) (u : FrameMode) (w : World), LeavesIn F n P fn tmps Rr ds u w → LeavesIn F n P fn tmps' Rr ds u w
  | [], .returning, w, hh => by simpa only [LeavesIn, h] using hh
  | [], .panicking _, w, hh => hh
  | [], .run, w, hh => hh.elim
  | d :: ds, u, w, hh => by
    obtain ⟨q1, q2, fv, cap, f, args, r1, r2, r3, r4⟩ := hh
    refine ⟨q1, q2, fv, cap, f, args, r1, r2, r3, r4.mono fun e u' w' he => ?_⟩
    cases e with
    | returned v => exact leavesIn_tmps h ds _ _ he
    | panicked c => exact leavesIn_tmps h ds _ _ he
    | outgrown => exact he
theorem qpd_bodyD {fn : Func} {Rr : Ending → World → Prop} (hQ : C.Q = bodyPostDIn Fence.wide 0 C.P fn Rr) {d : Nat} (h : ∀ (tmps : Array Value) v, results fn (tmps.setIfInBounds d v) = results fn tmps) : QPd C (some d) := by
  intro c a w v hp
  rw [hQ] at hp ⊢
  exact leavesIn_tmps (h _ _) _ _ _ hp
theorem h_takeD {K : List KI} {s : St} {R : Array Oper} {d : Option Tmp} {t : TypeId} {pos : String} {aft : Array Edge} (i : Nat) {own0 : List (Nat × Nat × OO)} {G0 : Hp} {n : Nat} {listed : Array Bool} {op : Op} {x : SV} (hi : R[i]? = some ⟨d, op, t, pos, aft, none⟩) (hs : Region.noSelect R = true) (hf : Region.free .any R listed i = true)
    (hr : (Region.ready .any R listed).contains i = true) (hQ : QPd C d) (hd : dOk C.nt d = true) (ho : ∀ j y, lk j own0 = some y → lk j s.own = some y) (hG : Le G0 s.G)
    (hq : Quiet C s.sl own0 G0 op x.den) (h : SGo C (.h (Hold C own0 G0) R n (listed.setIfInBounds i true) :: K) ⟨putS d x s.sl, s.own, s.G, s.df⟩) :
    SGo C (.h (Hold C own0 G0) R (n + 1) listed :: K) s := by
  intro a w hS
  have hhold : Hold C own0 G0 w := ⟨fun k b o e => (hS.mem.own k b o (ho _ _ e)).1, fun b o e => hS.mem.has b o (hG b o e)⟩
  have := h _ _ (hS.put hd x hS.mem)
  simp only [wpK] at this ⊢
  refine wpAnyHI_take (i := i) (v := x.den) hi hs hf hr ?_ (.inl ⟨by simp [Region.wanted], fun w' hw' => hq a w' d t pos aft none hS.sl hw'⟩) hhold this
  intro c a' w' hp
  exact wpK_panic c d x.den (fun a w => hQ c a w x.den) K a' w' hp
end
end Go.Sx
