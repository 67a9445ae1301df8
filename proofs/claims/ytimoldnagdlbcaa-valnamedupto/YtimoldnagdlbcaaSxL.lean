/-
  A symbolic walk over the model's code: ranges over functions. Generic: names no program.
-/
import Derived.Test.YtimoldnagdlbcaaSxK
import Derived.RangeFuncRecord
import Derived.RangeFuncLeaves
namespace Go.Sx
set_option linter.unusedSimpArgs false
set_option linter.unusedVariables false
open Go.RowKit

/-! ### Marks: the blocks for deferred calls -/

def mkD (D : Nat) : Deferred := { target := .collected D, args := #[] }
def dz (ds : List Nat) : Zn where
  A Z M w := (∀ g, Z g ↔ g ∈ ds) ∧ (∀ g, M g ↔ g ∈ ds) ∧ ds.Nodup ∧ ∀ g ∈ ds, w.heap[g]? = some (.deferred (some []))
  lt Z M w h g hg := lt_of_heap (h.2.2.2 g ((h.1 g).1 hg))
  sub Z M w h g hg := (h.1 g).2 ((h.2.1 g).1 hg)
  st Z M w w' h hf hs := ⟨h.1, h.2.1, h.2.2.1, fun g hg => by rw [hs g ((h.1 g).2 hg)]; exact h.2.2.2 g hg⟩
def dzO (ds : List Nat) : OO := .z (dz ds) (fun g => g ∈ ds) (fun g => g ∈ ds)

section
variable {C : Ctx} {K : List KI} {s : St}

theorem go_marks (kd : Nat) (hk : lk kd s.own = none) (hmh : C.mh ≤ kd) (h : SGo C K ⟨s.sl, stk kd (0, dzO []) s.own, s.G, s.df⟩) : SGo C K s := by
  intro a w hS
  refine h a w ⟨hS.sl, hS.nt, hS.df, ?_⟩
  exact hS.mem.new hk hmh rfl rfl rfl (Nat.le_refl _) (fun _ _ => rfl) ⟨by simp, by simp, by simp, by simp⟩ (fun g hg => by simp [dzO, OO.blks] at hg)

/-- A thing is given up, whatever became of its blocks. -/
theorem Mem.give {own : List (Nat × Nat × OO)} {G : Hp} {w w' : World} (h : Mem C own G w) {k b : Nat} {o : OO} (hk : lk k own = some (b, o)) (hf : Fr w w')
    (hsame : ∀ j, j < w.heap.size → ¬ o.mut b j → w'.heap[j]? = w.heap[j]?) : Mem C (rmk k own) G w' := by
  obtain ⟨g1, g2⟩ := h.own _ _ _ hk
  refine ⟨fun j c x e => ?_, fun j j' c c' x x' g e e' f f' => ?_, ?_⟩
  · rw [lk_rmk] at e
    split at e
    · cases e
    · rename_i hj
      obtain ⟨f1, f2⟩ := h.own _ _ _ e
      refine ⟨OO.holds_same f1 hf fun g hg => ?_, f2⟩
      exact hsame g (h.lt e hg) fun q => hj (h.inj _ _ _ _ _ _ g e hk hg (OO.mut_blks g1 q))
  · rw [lk_rmk] at e e'
    split at e
    · cases e
    · split at e'
      · cases e'
      · exact h.inj _ _ _ _ _ _ _ e e' f f'
  · have hg := h.grow
    refine ⟨hf.os.trans hg.os, hf.tape.trans hg.tape, hf.output.trans hg.output, Nat.le_trans hg.size hf.size, fun j hj hm => ?_, fun j x e => ?_, hg.old⟩
    · rw [hsame j (by have := hg.size; omega) ?_]; exact hg.blk j hj hm
      intro q
      obtain ⟨_, q3, q4⟩ := g2 j q
      rcases Nat.lt_or_ge k C.mh with r | r
      · exact (q4 r).elim hm (fun q5 => by omega)
      · have := q3 r; omega
    · have hlt := lt_of_heap (hg.has j x e)
      rw [hsame j hlt ?_]; exact hg.has j x e
      intro q
      rw [(g2 j q).1] at e; cases e

/-- What the body of a function with ranges over functions must achieve. -/
def bodyM (P : Program) (fn : Func) (R : Ending → World → Prop) : Exit → Act → World → Prop
  | .normal, a, w | .ret, a, w => LeavesInM Fence.wide 0 P fn a.tmps R a.defers .returning w
  | _, _, _ => False
theorem qp_bodyM {fn : Func} {Rr : Ending → World → Prop} (hQ : C.Q = bodyM C.P fn Rr) : QP C := by
  intro c a w d v hp
  rw [hQ] at hp
  exact hp.elim

theorem marks_leave {P : Program} {fn : Func} {tmps : Array Value} {R : Ending → World → Prop} : ∀ (ds : List Nat) (w : World), ds.Nodup → (∀ g ∈ ds, w.heap[g]? = some (.deferred (some []))) →
    (∀ w', Fr w w' → (∀ j, j < w.heap.size → j ∉ ds → w'.heap[j]? = w.heap[j]?) → ∃ v, (results fn tmps).run P w' = .ok v w' ∧ R (.returned v) w') → LeavesInM Fence.wide 0 P fn tmps R (ds.map mkD) .returning w
  | [], w, _, _, h => h w ⟨rfl, rfl, rfl, Nat.le_refl _⟩ (fun _ _ _ => rfl)
  | D :: ds, w, hn, hd, h => by
    have hD := hd D (by simp)
    have hn' := List.nodup_cons.1 hn
    refine ⟨by simp, .inl ⟨D, w.putObj D (.deferred none), rfl, run_takeDeferred hD, ?_⟩⟩
    refine marks_leave ds _ hn'.2 (fun g hg => ?_) (fun w' hf hs => ?_)
    · rw [World.putObj_heap_other (by intro e; subst e; exact hn'.1 hg)]; exact hd g (by simp [hg])
    · refine h w' ⟨hf.os, hf.tape, hf.output, by have := hf.size; simpa using this⟩ (fun j hj hj' => ?_)
      simp only [List.mem_cons, not_or] at hj'
      rw [hs j (by simpa using hj) hj'.2, World.putObj_heap_other hj'.1]

/-- The return of a function with ranges over functions. -/
theorem x_retM (kd : Nat) {k : Code} (ht : tag k = 7) {fn : Func} {φ : Value → Hp → Prop} (hQ : C.Q = bodyM C.P fn (Ret [] C.w0 C.G0 φ)) (hmb : C.mb = []) {r : ResultVar} {rs : List ResultVar} (hrs : fn.results.toList = r :: rs) {xs : List SV} {ds : List Nat} {b : Nat}
    (hk : lk kd s.own = some (b, dzO ds)) (hdf : s.df = ds.map mkD) (hr : resAll s.sl C.ty (rmk kd s.own) (r :: rs) = some xs) (h : φ (resV xs).den s.G) (hnb : noBr K = true := by rfl) : SGo C (.code k :: K) s := by
  intro a w hS
  cases k <;> simp [tag] at ht
  · rename_i a b c; cases c <;> simp at ht
  refine wpIn_ret ?_
  rw [wpK_ret _ _ _ hnb, hQ]
  show LeavesInM _ _ _ _ _ _ a.defers _ _
  rw [hS.df, hdf]
  obtain ⟨h1, _⟩ := hS.mem.own _ _ _ hk
  obtain ⟨z1, z2, z3, z4⟩ := h1
  refine marks_leave ds w z3 z4 fun w' hf hs => ?_
  have hm := hS.mem.give hk hf (fun j hj hj' => hs j hj hj')
  have hS' : Sat C ⟨s.sl, rmk kd s.own, s.G, s.df⟩ a w' := ⟨hS.sl, hS.nt, hS.df, hm⟩
  have hg := hm.grow
  rw [hmb] at hg
  exact ⟨_, results_ok hS' (by rw [hrs]; exact hr), _, _, rfl, hg, h⟩

theorem enterM {P : Program} {f : FuncId} {fn : Func} {G : Hp} {φ : Value → Hp → Prop} (ty : TypeId → Option TI) (tyok : ∀ T i, ty T = some i → i.ok P T) {nt : Nat}
    (hf : P.funcs[f]? = some fn) (hb : fn.body.isSome = true) (hn : fn.ntmps = nt) (svs : List SV) (hargs : svs.length ≤ nt)
    (h : ∀ C : Ctx, C.P = P → C.Q = bodyM C.P fn (Ret [] C.w0 C.G0 φ) → C.nt = nt → C.ty = ty → C.mb = [] → C.mh = 0 → C.ro = none → SGo C [.code (fn.body.getD .skip)] ⟨enumS 0 svs, [], G, []⟩) : Pure P f (dens svs) G φ := by
  intro w hw
  refine (callsIn_wide (n := 0)).1 (callsIn_of_wp_marks hf (body_eq hb) trivial ?_)
  have := h ⟨P, bodyM P fn (Ret [] w G φ), nt, ty, tyok, w, G, [], 0, none⟩ rfl rfl rfl rfl rfl rfl rfl { tmps := (dens svs).toArray ++ Array.replicate (fn.ntmps - (dens svs).toArray.size) undef, defers := [] } w
    ⟨slots_args _ _ _ (fun i x e => by have := (lk_enumS svs 0 i x e).2; simpa using this), by simp [hn, dens_eq]; omega, rfl, ⟨fun _ _ _ e => by simp [lk] at e, fun _ _ _ _ _ _ _ e => by simp [lk] at e, Grow.refl hw⟩⟩
  simp only [wpK] at this
  refine wpIn_mono this ?_
  intro e a w' hq
  cases e <;> first | exact hq | exact hq.elim
end
end Go.Sx
