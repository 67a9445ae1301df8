/-
  A symbolic walk over the model's code: the statement 'for .. := range f'. Generic: names no program.
-/
import Derived.Test.YtpmmbjcgabnloaaZ1
import Derived.MapKept
import Derived.Test.YtpmmbjcgabnloaaRows
import Derived.RecoverIn
import Derived.DefersIn
import Derived.ArgAppend
import Derived.Laws.BytesArg
import Derived.Laws.IdiomStrings
set_option linter.unusedSimpArgs false
set_option linter.unusedVariables false
namespace Go.Sx
set_option linter.unusedSimpArgs false
set_option linter.unusedVariables false
open Go.RowKit

abbrev Owns := List (Nat × Nat × OO)

def putsS : List Nat → List Value → List (Nat × SV) → List (Nat × SV)
  | p :: ps, v :: vs, sl => putsS ps vs (stk p (rv v) sl)
  | _, _, sl => sl

theorem slots_puts : ∀ (ps : List Nat) (vs : List Value) (sl : List (Nat × SV)) (tmps : Array Value) (df : List Deferred), (∀ p ∈ ps, p < tmps.size) → Slots sl ⟨tmps, df⟩ →
    Slots (putsS ps vs sl) ⟨(ps.zip vs).foldl (fun t (p, v) => t.setIfInBounds p v) tmps, df⟩ ∧ ((ps.zip vs).foldl (fun t (p, v) => t.setIfInBounds p v) tmps).size = tmps.size
  | [], vs, sl, tmps, df, _, h => by simp [putsS, h]
  | p :: ps, [], sl, tmps, df, _, h => by simp [putsS, h]
  | p :: ps, v :: vs, sl, tmps, df, hp, h => by
    simp only [putsS, List.zip_cons_cons, List.foldl_cons]
    have := slots_puts ps vs (stk p (rv v) sl) (tmps.setIfInBounds p v) df (fun q hq => by simpa using hp q (by simp [hq])) (fun i x e => by
      rw [lk_stk] at e
      show (tmps.setIfInBounds p v)[i]? = _
      split at e
      · rename_i hi; subst hi; cases e
        rw [Array.getElem?_setIfInBounds_self_of_lt (hp i (by simp)), rv_den]
      · rename_i hi
        rw [Array.getElem?_setIfInBounds_ne (Ne.symm hi)]
        exact h i x e)
    refine ⟨this.1, ?_⟩
    rw [this.2]; simp

def Plain (own : Owns) : Prop := ∀ h b o, lk h own = some (b, o) → ∀ g, o.blks b g → o.mut b g

def RZ (C : Ctx) (Gs : Hp) (l D : Nat) (p : Obj → Owns → Prop) : Zn where
  A Z M W := ∃ own G rc, p rc own ∧ Plain own ∧ Mem C own G W ∧ Le Gs G ∧ W.heap[l]? = some rc ∧ W.heap[D]? = some (.deferred (some [])) ∧ G l = none ∧ G D = none ∧ (∀ h b o, lk h own = some (b, o) → ¬ o.blks b l ∧ ¬ o.blks b D) ∧
    (∀ g, Z g ↔ g = l ∨ g = D ∨ (∃ h b o, lk h own = some (b, o) ∧ o.blks b g) ∨ (∃ x, G g = some x) ∨ g < C.w0.heap.size) ∧ (∀ g, M g ↔ g = l ∨ g = D ∨ ∃ h b o, lk h own = some (b, o) ∧ o.mut b g)
  lt Z M W h g hg := by
    obtain ⟨own, G, rc, _, _, hm, _, hl, hD, _, _, _, hZ, _⟩ := h
    rcases (hZ g).1 hg with rfl | rfl | ⟨k, b, o, h1, h2⟩ | ⟨x, h1⟩ | h1
    · exact lt_of_heap hl
    · exact lt_of_heap hD
    · exact hm.lt h1 h2
    · exact lt_of_heap (hm.has g x h1)
    · have := hm.grow.size; omega
  sub Z M W h g hg := by
    obtain ⟨own, G, rc, _, _, hm, _, hl, hD, _, _, _, hZ, hM⟩ := h
    rcases (hM g).1 hg with rfl | rfl | ⟨k, b, o, h1, h2⟩
    · exact (hZ _).2 (.inl rfl)
    · exact (hZ _).2 (.inr (.inl rfl))
    · exact (hZ _).2 (.inr (.inr (.inl ⟨k, b, o, h1, OO.mut_blks (hm.own _ _ _ h1).1 h2⟩)))
  st Z M W W' h hf hs := by
    obtain ⟨own, G, rc, hp, hpl, hm, hle, hl, hD, hGl, hGD, hno, hZ, hM⟩ := h
    refine ⟨own, G, rc, hp, hpl, ⟨fun k b o e => ?_, hm.inj, ?_⟩, hle, ?_, ?_, hGl, hGD, hno, hZ, hM⟩
    · obtain ⟨f1, f2⟩ := hm.own k b o e
      exact ⟨OO.holds_same f1 hf fun g hg => hs g ((hZ g).2 (.inr (.inr (.inl ⟨k, b, o, e, hg⟩)))), f2⟩
    · have q := hm.grow
      refine ⟨hf.os.trans q.os, hf.tape.trans q.tape, hf.output.trans q.output, Nat.le_trans q.size hf.size, fun k hk hmb => ?_, fun b o e => ?_, q.old⟩
      · rw [hs k ((hZ k).2 (.inr (.inr (.inr (.inr hk)))))]; exact q.blk k hk hmb
      · rw [hs b ((hZ b).2 (.inr (.inr (.inr (.inl ⟨o, e⟩)))))]; exact q.has b o e
    · rw [hs l ((hZ l).2 (.inl rfl))]; exact hl
    · rw [hs D ((hZ D).2 (.inr (.inl rfl)))]; exact hD

def QR (C0 : Ctx) (I : Nat → Owns → Prop) (J : Code → Owns → Prop) (l D : Nat) (r : Loop) (k : Nat) : Exit → Act → World → Prop := fun e _ w =>
  ∃ own G, Mem C0 own G w ∧ lk 999 own = some (l, .o (.loop { r with state := .busy })) ∧ lk 998 own = some (D, .o (.deferred (some []))) ∧
    match e with
    | .normal => I (k + 1) (rmk 998 (rmk 999 own))
    | .ret => J .ret (rmk 998 (rmk 999 own))
    | .exit id => J (.exit id) (rmk 998 (rmk 999 own))
    | .goto t => J (.goto t) (rmk 998 (rmk 999 own))
    | _ => False

structure Round (C' C0 : Ctx) (C : Ctx) (I : Nat → Owns → Prop) (J : Code → Owns → Prop) (l D : Nat) (r : Loop) (k : Nat) : Prop where
  P : C'.P = C.P
  ty : C'.ty = C.ty
  nt : C'.nt = C.nt
  mh : C'.mh = 1000
  ro : C'.ro = some l
  Q : C'.Q = QR C0 I J l D r k
  mem : ∀ own G w, Mem C' own G w → Mem C0 own G w
  ready : r.state = .ready

section
variable {C C' C0 : Ctx} {K : List KI} {s : St} {I : Nat → Owns → Prop} {J : Code → Owns → Prop} {l D k : Nat} {r : Loop}

theorem Round.qp (h : Round C' C0 C I J l D r k) : QP C' := by
  intro c a w d v hp
  rw [h.Q] at hp ⊢
  exact hp

theorem go_br (h9 : lk 999 s.own = some (l, .o (.loop r))) (hr : r.state = .ready) (h : SGo C K ⟨s.sl, stk 999 (l, .o (.loop { r with state := .busy })) s.own, s.G, s.df⟩) : SGo C (.br l :: K) s := by
  intro a w hS
  have hl : w.heap[l]? = some (.loop r) := (hS.mem.own _ _ _ h9).1
  refine ⟨_, run_beginRound hl hr, ?_⟩
  refine h a _ ⟨hS.sl, hS.nt, hS.df, ?_⟩
  refine hS.mem.put h9 rfl rfl rfl (by simp) (fun j _ hj => World.putObj_heap_other hj) (World.putObj_heap_same (lt_of_heap hl)) (fun g => ⟨.inl, .inl⟩)
theorem go_rend (hR : Round C' C0 C I J l D r k) (h9 : lk 999 s.own = some (l, .o (.loop { r with state := .busy }))) (h8 : lk 998 s.own = some (D, .o (.deferred (some [])))) (h : I (k + 1) (rmk 998 (rmk 999 s.own))) : SGo C' [] s := by
  intro a w hS
  show C'.Q .normal a w
  rw [hR.Q]
  exact ⟨s.own, s.G, hR.mem _ _ _ hS.mem, h9, h8, h⟩
theorem Mem.alloc0 {own : Owns} {G : Hp} {w : World} (h : Mem C own G w) (o : Obj) : Mem C own G (w.alloc o) :=
  h.stay (G1 := G) (G' := G) ((Grow.refl h.has).alloc o)

theorem Mem.other {own : Owns} {G : Hp} {w : World} (h : Mem C own G w) {l : Nat} {o : Obj} (hG : G l = none) (hl : C.w0.heap.size ≤ l) (hno : ∀ k b x, lk k own = some (b, x) → ¬ x.blks b l) : Mem C own G (w.putObj l o) := by
  have hs : ∀ j, j ≠ l → (w.putObj l o).heap[j]? = w.heap[j]? := fun j hj => World.putObj_heap_other hj
  refine ⟨fun k b x e => ?_, h.inj, ?_⟩
  · obtain ⟨f1, f2⟩ := h.own k b x e
    exact ⟨OO.holds_same f1 ⟨rfl, rfl, rfl, by simp⟩ fun g hg => hs g (fun q => hno k b x e (q ▸ hg)), f2⟩
  · have q := h.grow
    refine ⟨q.os, q.tape, q.output, by simpa using q.size, fun k hk hm => ?_, fun b x e => ?_, q.old⟩
    · rw [hs k (by omega)]; exact q.blk k hk hm
    · rw [hs b (by intro e'; subst e'; rw [hG] at e; cases e)]; exact q.has b x e

theorem Mem.addD {own : Owns} {G : Hp} {w : World} (h : Mem C own G w) {kd b D : Nat} {ds : List Nat} (hk : lk kd own = some (b, dzO ds)) (hD : w.heap[D]? = some (.deferred (some []))) (hG : G D = none) (hl : C.w0.heap.size ≤ D) (hno : ∀ k b x, lk k own = some (b, x) → ¬ x.blks b D) : Mem C (stk kd (b, dzO (D :: ds)) own) G w := by
  obtain ⟨g1, g2⟩ := h.own _ _ _ hk
  obtain ⟨z1, z2, z3, z4⟩ := g1
  refine ⟨fun j c x e => ?_, fun j j' c c' x x' g e e' f f' => ?_, h.grow⟩
  · rw [lk_stk] at e
    split at e
    · rename_i hj; subst hj; cases e
      refine ⟨⟨fun _ => Iff.rfl, fun _ => Iff.rfl, ?_, ?_⟩, fun g hg => ?_⟩
      · refine List.nodup_cons.2 ⟨fun q => hno _ _ _ hk q, z3⟩
      · intro g hg
        rcases List.mem_cons.1 hg with rfl | hg
        · exact hD
        · exact z4 g hg
      · rcases List.mem_cons.1 hg with rfl | hg
        · exact ⟨hG, fun _ => hl, fun _ => .inr hl⟩
        · exact g2 g hg
    · exact h.own _ _ _ e
  · have key : ∀ {j c x}, lk j own = some (c, x) → x.blks c g → g ∈ D :: ds → j = kd := by
      intro j2 c2 x2 e2 f2 f3
      rcases List.mem_cons.1 f3 with hg | hg
      · rw [hg] at f2; exact absurd f2 (hno _ _ _ e2)
      · exact h.inj _ _ _ _ _ _ g e2 hk f2 hg
    rw [lk_stk] at e e'
    split at e <;> split at e'
    · omega
    · rename_i h1 h2; cases e; exact absurd (key e' f' f) h2
    · rename_i h1 h2; cases e'; exact absurd (key e f f') h1
    · exact h.inj _ _ _ _ _ _ _ e e' f f'

open Classical in
theorem go_range (kd : Nat) {g : Operand} {ps : Array Tmp} {assign body : Code} {gf : FuncId} {cap : List Value} {zg : SV} {enc : Nat → List Value → Hp → Prop} {N bd : Nat} {ds : List Nat}
    (hro : C.ro = none) (hmh : C.mh = 0) (hg : ev s.sl g = some zg) (hgv : zg.den = .func (.func gf) #[] cap.toArray) (hcall : canCall C.P gf = true) (hps : ∀ p ∈ ps.toList, p < C.nt)
    (hit : Iter C.P gf cap s.G enc N) (hmono : ∀ k vs G G', Le G G' → enc k vs G → enc k vs G') (hlen : ∀ k vs G, enc k vs G → vs.length = ps.size)
    (I : Nat → Owns → Prop) (J : Code → Owns → Prop) (hI : ∀ k own, I k own → (∀ h x, lk h own = some x → h < 998) ∧ Plain own ∧ lk kd own = some (bd, dzO ds)) (hJ : ∀ c own, J c own → Plain own ∧ lk kd own = some (bd, dzO ds)) (h0 : I 0 s.own)
    (hbody : ∀ C' C0 k own vs G1 l D r, k < N → I k own → Le s.G G1 → enc k vs G1 → Round C' C0 C I J l D r k →
      SGo C' [.code assign, .br l, .code body] ⟨putsS ps.toList vs s.sl, (998, D, .o (.deferred (some []))) :: (999, l, .o (.loop r)) :: own, G1, []⟩)
    (hdone : ∀ D own G', I N own → Le s.G G' → SGo C K ⟨s.sl, stk kd (bd, dzO (D :: ds)) own, G', mkD D :: s.df⟩)
    (hstop : ∀ D c own G', J c own → Le s.G G' → SGo C (.code c :: K) ⟨s.sl, stk kd (bd, dzO (D :: ds)) own, G', mkD D :: s.df⟩) : SGo C (.code (.rangeFunc g ps assign body) :: K) s := by
  intro a w hS
  have hgv' := ev_ok hS.sl hg
  rw [hgv] at hgv'
  show Code.wpIn (FR C.ro) 0 C.P _ _ a w
  rw [hro]
  refine wpIn_rangeFunc ?_
  intro fn _
  obtain ⟨rec, hrec⟩ : ∃ rec : LoopState → Option Code → Loop, rec = fun st pe => { state := st, pending := pe, fn, tmps := a.tmps, params := ps, assign, body, defers := w.heap.size } := ⟨_, rfl⟩
  obtain ⟨W1, hW1⟩ : ∃ W1, (w.alloc (.deferred (some []))).alloc (.loop (rec .ready none)) = W1 := ⟨_, rfl⟩
  obtain ⟨l, hl⟩ : ∃ l, w.heap.size + 1 = l := ⟨_, rfl⟩
  obtain ⟨D, hD⟩ : ∃ D, w.heap.size = D := ⟨_, rfl⟩
  have hsz := hS.mem.grow.size
  have hL1 : W1.heap[l]? = some (.loop (rec .ready none)) := by
    rw [← hW1, ← hl]; have := World.alloc_heap_new (w.alloc (.deferred (some []))) (.loop (rec .ready none)); rwa [World.size_alloc] at this
  have hD1 : W1.heap[D]? = some (.deferred (some [])) := by
    rw [← hW1, ← hD]; exact (Below.heap_alloc _ _ _ (by simp)).trans (World.alloc_heap_new w _)
  have hm1 : Mem C s.own s.G W1 := by rw [← hW1]; exact (hS.mem.alloc0 _).alloc0 _
  have hGn : ∀ g, w.heap.size ≤ g → s.G g = none := fun g hg => by
    cases hG : s.G g with
    | none => rfl
    | some x => have := lt_of_heap (hS.mem.has g x hG); omega
  have hbn : ∀ g, w.heap.size ≤ g → ∀ h b o, lk h s.own = some (b, o) → ¬ o.blks b g := fun g hg h b o e q => by
    have := hS.mem.lt e q; omega
  -- the zones
  obtain ⟨A, hA⟩ : ∃ A : Nat → Zn, A = fun k => RZ C s.G l D (fun rc own => rc = .loop (rec .ready none) ∧ I k own) := ⟨_, rfl⟩
  obtain ⟨B, hB⟩ : ∃ B : Zn, B = RZ C s.G l D (fun rc own => ∃ c, rc = .loop (rec .done (some c)) ∧ J c own) := ⟨_, rfl⟩
  have hlD : l ≠ D := by omega
  have hyok : YOk C.P l A B enc N := by
    intro k vs W Z M G2 hkN hAk hG2 hM2 henc
    rw [hA] at hAk
    obtain ⟨own, G, rc, ⟨rfl, hIk⟩, hpl, hm, hle, hLl, hLD, hGl, hGD, hno, hZ, hM⟩ := hAk
    obtain ⟨hI1, _, hIkd⟩ := hI k own hIk
    have hsz2 := hm.grow.size
    have hyl := run_yield (P := C.P) (args := vs.toArray) hLl (by rw [hrec]; simpa using hlen k vs G2 henc)
    refine ⟨_, _, _, _, hyl, ?_⟩
    -- what is known in the round
    obtain ⟨G1, hG1⟩ : ∃ G1 : Hp, G1 = fun b => match G b with | some o => some o | none => G2 b := ⟨_, rfl⟩
    have hG1s : ∀ b o, G b = some o → G1 b = some o := fun b o e => by rw [hG1]; simp [e]
    have hG1h : Has W G1 := fun b o e => by
      rw [hG1] at e
      simp only at e
      cases hb : G b with
      | some x => rw [hb] at e; cases e; exact hm.has b _ hb
      | none => rw [hb] at e; exact hG2 b o e
    have hle2 : Le G2 G1 := fun b o e => by
      cases hb : G b with
      | some x =>
        have e1 := hm.has b x hb
        have e2 := hG2 b o e
        rw [e1] at e2; cases e2
        exact hG1s b _ hb
      | none => rw [hG1]; simp [hb, e]
    have hG1n : ∀ g, M g → G1 g = none := fun g hg => by
      have e1 : G g = none := by
        rcases (hM g).1 hg with rfl | rfl | ⟨h, b, o, e, q⟩
        · exact hGl
        · exact hGD
        · exact ((hm.own _ _ _ e).2 g q).1
      rw [hG1]; simp [e1, hM2 g hg]
    obtain ⟨C0, hC0⟩ : ∃ C0 : Ctx, C0 = ⟨C.P, fun _ _ _ => True, C.nt, C.ty, C.tyok, W, G1, (List.range W.heap.size).filter (fun g => decide (M g)), 1000, some l⟩ := ⟨_, rfl⟩
    obtain ⟨C', hC'⟩ : ∃ C' : Ctx, C' = ⟨C.P, QR C0 I J l D (rec .ready none) k, C.nt, C.ty, C.tyok, W, G1, (List.range W.heap.size).filter (fun g => decide (M g)), 1000, some l⟩ := ⟨_, rfl⟩
    have hmem : ∀ own G w, Mem C' own G w → Mem C0 own G w := fun own G w h => by
      rw [hC'] at h; rw [hC0]; exact ⟨h.own, h.inj, h.grow⟩
    have hround : Round C' C0 C I J l D (rec .ready none) k := by
      refine ⟨?_, ?_, ?_, ?_, ?_, ?_, hmem, by rw [hrec]⟩ <;> rw [hC']
    have hgo := hbody C' C0 k own vs G1 l D (rec .ready none) hkN hIk (hle.trans hG1s) (hmono k vs G2 G1 hle2 henc) hround
    have hMl : M l := (hM l).2 (.inl rfl)
    have hMD : M D := (hM D).2 (.inr (.inl rfl))
    have hltl := lt_of_heap hLl
    have hltD := lt_of_heap hLD
    have hmb : ∀ g, g ∈ C'.mb ↔ g < W.heap.size ∧ M g := fun g => by rw [hC']; simp [List.mem_filter]
    have hw0 : C'.w0 = W := by rw [hC']
    have hmh' : C'.mh = 1000 := by rw [hC']
    have hmem1 : Mem C' ((998, D, .o (.deferred (some []))) :: (999, l, .o (.loop (rec .ready none))) :: own) G1 W := by
      refine ⟨fun h b o e => ?_, fun h h' b b' o o' g e e' f f' => ?_, ?_⟩
      · simp only [lk] at e
        split at e
        · rename_i q; subst q; cases e
          refine ⟨hLD, fun g hg => ?_⟩
          simp only [OO.mut] at hg
          subst hg
          exact ⟨hG1n _ hMD, fun q => by omega, fun _ => .inl ((hmb _).2 ⟨hltD, hMD⟩)⟩
        · split at e
          · rename_i q; subst q; cases e
            refine ⟨hLl, fun g hg => ?_⟩
            simp only [OO.mut] at hg
            subst hg
            exact ⟨hG1n _ hMl, fun q => by omega, fun _ => .inl ((hmb _).2 ⟨hltl, hMl⟩)⟩
          · obtain ⟨f1, f2⟩ := hm.own _ _ _ e
            have hh := hI1 _ _ e
            refine ⟨?_, fun g hg => ?_⟩
            · cases o <;> exact f1
            · have hMg := (hM g).2 (.inr (.inr ⟨h, b, o, e, hg⟩))
              exact ⟨hG1n g hMg, fun q => by omega, fun _ => .inl ((hmb g).2 ⟨hm.ltm e hg, hMg⟩)⟩
      · simp only [lk] at e e'
        split at e
        · rename_i q; subst q; cases e
          simp only [OO.blks] at f
          subst f
          split at e'
          · omega
          · split at e'
            · cases e'; simp only [OO.blks] at f'; omega
            · exact absurd f' (hno _ _ _ e').2
        · split at e
          · rename_i q; subst q; cases e
            simp only [OO.blks] at f
            subst f
            split at e'
            · cases e'; simp only [OO.blks] at f'; omega
            · split at e'
              · omega
              · exact absurd f' (hno _ _ _ e').1
          · split at e'
            · cases e'; simp only [OO.blks] at f'; subst f'; exact absurd f (hno _ _ _ e).2
            · split at e'
              · cases e'; simp only [OO.blks] at f'; subst f'; exact absurd f (hno _ _ _ e).1
              · exact hm.inj _ _ _ _ _ _ _ e e' f f'
      · have : Grow C'.mb W G1 W G1 := Grow.refl hG1h
        rw [hC'] at this ⊢
        exact this
    have hslots := slots_puts ps.toList vs s.sl a.tmps [] (fun p hp => by rw [hS.nt]; exact hps p hp) (fun i x e => hS.sl i x e)
    have hwp := hgo ⟨_, []⟩ W ⟨hslots.1, by rw [hslots.2, hround.nt]; exact hS.nt, rfl, hmem1⟩
    rw [hround.P, hround.ro] at hwp
    have hzip : (ps.zip vs.toArray).foldl (fun t (x : Tmp × Value) => match x with | (p, v) => t.setIfInBounds p v) a.tmps = (ps.toList.zip vs).foldl (fun t (p, v) => t.setIfInBounds p v) a.tmps := by
      rw [← Array.foldl_toList, Array.toList_zip]
    -- what a round's end leads to
    have fin : ∀ (W3 : World) (own3 : Owns) (G3 : Hp) (jump : Option Code) (p : Obj → Owns → Prop), Mem C0 own3 G3 W3 → lk 999 own3 = some (l, .o (.loop { rec .ready none with state := .busy })) → lk 998 own3 = some (D, .o (.deferred (some []))) →
        p (.loop (rec (if jump.isNone then .ready else .done) jump)) (rmk 998 (rmk 999 own3)) → Plain (rmk 998 (rmk 999 own3)) →
        ∃ W4 Z' M', (Instr.endRound l jump).run C.P W3 = .ok (.bool jump.isNone) W4 ∧ YRes W Z M W4 Z' M' ∧ (RZ C s.G l D p).A Z' M' W4 := by
      intro W3 own3 G3 jump p hm3 h9 h8 hp3 hpl3
      rw [hC0] at hm3
      have hl3 : W3.heap[l]? = some (.loop { rec .ready none with state := .busy }) := (hm3.own _ _ _ h9).1
      have hD3 : W3.heap[D]? = some (.deferred (some [])) := (hm3.own _ _ _ h8).1
      have hend := run_endRound (P := C.P) jump hl3
      have hgr := hm3.grow
      have hmb0 : ∀ g, g ∈ (List.range W.heap.size).filter (fun g => decide (M g)) ↔ g < W.heap.size ∧ M g := fun g => by simp [List.mem_filter]
      -- the blocks of what is the caller's own
      have hown : ∀ h b o, lk h (rmk 998 (rmk 999 own3)) = some (b, o) → lk h own3 = some (b, o) ∧ h ≠ 998 ∧ h ≠ 999 := fun h b o e => by
        rw [lk_rmk] at e
        split at e
        · cases e
        · rw [lk_rmk] at e
          split at e
          · cases e
          · exact ⟨e, by assumption, by assumption⟩
      have hmut : ∀ h b o, lk h own3 = some (b, o) → ∀ g, o.mut b g → M g ∨ W.heap.size ≤ g := fun h b o e g hg => by
        obtain ⟨_, q2, q3⟩ := (hm3.own _ _ _ e).2 g hg
        rcases Nat.lt_or_ge h 1000 with r | r
        · exact (q3 r).imp (fun q => ((hmb0 g).1 q).2) id
        · exact .inr (q2 r)
      obtain ⟨G4, hG4⟩ : ∃ G4 : Hp, G4 = fun b => if b < W.heap.size then G b else G3 b := ⟨_, rfl⟩
      have hMG : ∀ g, M g → G g = none := fun g hg => by
        rcases (hM g).1 hg with rfl | rfl | ⟨h, b, o, e, q⟩
        · exact hGl
        · exact hGD
        · exact ((hm.own _ _ _ e).2 g q).1
      have hMlow : ∀ g, M g → C.w0.heap.size ≤ g := fun g hg => by
        rcases (hM g).1 hg with rfl | rfl | ⟨h, b, o, e, q⟩
        · omega
        · omega
        · exact ((hm.own _ _ _ e).2 g q).2.1 (by omega)
      have hsame4 : ∀ j, j < W.heap.size → ¬ M j → (W3.putObj l (.loop { { rec .ready none with state := .busy } with state := if jump.isNone then .ready else .done, pending := jump })).heap[j]? = W.heap[j]? := fun j hj hM' => by
        rw [World.putObj_heap_other (by intro e; subst e; exact hM' hMl)]
        exact hgr.blk j hj (fun q => hM' ((hmb0 j).1 q).2)
      have hG3l : G3 l = none := ((hm3.own _ _ _ h9).2 l rfl).1
      have hG3D : G3 D = none := ((hm3.own _ _ _ h8).2 D rfl).1
      have hhas4 : ∀ b o, G4 b = some o → (W3.putObj l (.loop { { rec .ready none with state := .busy } with state := if jump.isNone then .ready else .done, pending := jump })).heap[b]? = some o := fun b o e => by
        rw [hG4] at e
        simp only at e
        split at e
        · rename_i hb
          rw [hsame4 b hb (fun q => by rw [hMG b q] at e; cases e)]
          exact hm.has b o e
        · rw [World.putObj_heap_other (fun q => by subst q; rw [hG3l] at e; cases e)]
          exact hgr.has b o e
      have hrc : (Loop.mk (if jump.isNone then .ready else .done) jump (rec .ready none).fn (rec .ready none).tmps (rec .ready none).params (rec .ready none).assign (rec .ready none).body (rec .ready none).defers) = rec (if jump.isNone then .ready else .done) jump := by rw [hrec]
      refine ⟨_, _, _, hend, ⟨⟨hgr.os, hgr.tape, hgr.output, by simpa using hgr.size⟩, fun g hg => ?_, fun g hg => ?_, hsame4⟩, rmk 998 (rmk 999 own3), G4, _, hp3, hpl3, ⟨fun h b o e => ?_, fun h h' b b' o o' g e e' f f' => ?_, ?_⟩, ?_, ?_, ?_, ?_, ?_, ?_, fun g => Iff.rfl, fun g => Iff.rfl⟩
      · rcases hg with rfl | rfl | ⟨h, b, o, e, q⟩ | ⟨x, e⟩ | q
        · exact .inl ((hZ _).2 (.inl rfl))
        · exact .inl ((hZ _).2 (.inr (.inl rfl)))
        · refine (hmut h b o (hown _ _ _ e).1 g (hpl3 h b o e g q)).imp (fun q => ?_) id
          rcases (hM g).1 q with rfl | rfl | ⟨h', b', o', e', q'⟩
          · exact (hZ _).2 (.inl rfl)
          · exact (hZ _).2 (.inr (.inl rfl))
          · exact (hZ _).2 (.inr (.inr (.inl ⟨h', b', o', e', OO.mut_blks (hm.own _ _ _ e').1 q'⟩)))
        · rw [hG4] at e
          simp only at e
          split at e
          · exact .inl ((hZ _).2 (.inr (.inr (.inr (.inl ⟨x, e⟩)))))
          · exact .inr (by omega)
        · exact .inl ((hZ _).2 (.inr (.inr (.inr (.inr q)))))
      · rcases hg with rfl | rfl | ⟨h, b, o, e, q⟩
        · exact .inl hMl
        · exact .inl hMD
        · exact hmut h b o (hown _ _ _ e).1 g q
      · obtain ⟨e1, n8, n9⟩ := hown _ _ _ e
        obtain ⟨f1, f2⟩ := hm3.own _ _ _ e1
        refine ⟨?_, fun g hg => ?_⟩
        · have : OO.holds C.w0.heap.size W3 b o := by cases o <;> exact f1
          refine OO.holds_same this ⟨rfl, rfl, rfl, by simp⟩ fun g hg => ?_
          rw [World.putObj_heap_other]
          intro q
          subst q
          exact n9 (hm3.inj _ _ _ _ _ _ g e1 h9 hg rfl)
        · have hq := hmut _ _ _ e1 g hg
          refine ⟨?_, fun _ => hq.elim (hMlow g) (fun q => by omega), fun q => by omega⟩
          rw [hG4]
          show (if g < W.heap.size then G g else G3 g) = none
          split
          · rename_i hlt
            exact hMG g (hq.resolve_right (by omega))
          · exact (f2 g hg).1
      · exact hm3.inj _ _ _ _ _ _ _ (hown _ _ _ e).1 (hown _ _ _ e').1 f f'
      · refine ⟨hgr.os.trans hm.grow.os, hgr.tape.trans hm.grow.tape, hgr.output.trans hm.grow.output, by have := hgr.size; simp only [World.putObj_size]; exact Nat.le_trans hsz2 this, fun j hj hmbj => ?_, hhas4, fun b hb => ?_⟩
        · rw [hsame4 j (by omega) (fun q => by have := hMlow j q; omega)]
          exact hm.grow.blk j hj hmbj
        · rw [hG4]
          show (if b < W.heap.size then G b else G3 b) = _
          rw [if_pos (by omega)]
          exact hm.grow.old b hb
      · intro b o e
        rw [hG4]
        show (if b < W.heap.size then G b else G3 b) = _
        have := hle b o e
        rw [if_pos (lt_of_heap (hm.has b o this))]
        exact this
      · rw [World.putObj_heap_same (lt_of_heap hl3)]
        exact congrArg (fun x => some (Obj.loop x)) hrc
      · rw [World.putObj_heap_other (Ne.symm hlD)]; exact hD3
      · rw [hG4]
        show (if l < W.heap.size then G l else G3 l) = none
        rw [if_pos hltl]; exact hGl
      · rw [hG4]
        show (if D < W.heap.size then G D else G3 D) = none
        rw [if_pos hltD]; exact hGD
      · intro h b o e
        obtain ⟨e1, n8, n9⟩ := hown _ _ _ e
        exact ⟨fun q => n9 (hm3.inj _ _ _ _ _ _ l e1 h9 q rfl), fun q => n8 (hm3.inj _ _ _ _ _ _ D e1 h8 q rfl)⟩
    refine roundIn_of_wpIn trivial ?_
    rw [hrec]
    simp only [hzip]
    refine wpIn_mono hwp ?_
    intro e a₁ w₁ hq
    cases e with
    | normal =>
      obtain ⟨w₂, hbr, hb⟩ := hq
      refine ⟨w₂, hbr, wpIn_mono hb ?_⟩
      intro e a₂ w₃ hq
      have hq' : C'.Q e a₂ w₃ := hq
      rw [hround.Q] at hq'
      obtain ⟨own3, G3, hm3, h9, h8, hend⟩ := hq'
      cases e with
      | normal =>
        obtain ⟨W4, Z', M', q1, q2, q3⟩ := fin w₃ own3 G3 none (fun rc own => rc = .loop (rec .ready none) ∧ I (k + 1) own) hm3 h9 h8 ⟨rfl, hend⟩ (hI _ _ hend).2.1
        exact ⟨_, _, q1, _, rfl, Z', M', q2, .inl ⟨rfl, by rw [hA]; exact q3⟩⟩
      | ret =>
        obtain ⟨W4, Z', M', q1, q2, q3⟩ := fin w₃ own3 G3 (some .ret) (fun rc own => ∃ c, rc = .loop (rec .done (some c)) ∧ J c own) hm3 h9 h8 ⟨_, rfl, hend⟩ (hJ _ _ hend).1
        exact ⟨_, _, q1, _, rfl, Z', M', q2, .inr ⟨rfl, by rw [hB]; exact q3⟩⟩
      | exit id =>
        obtain ⟨W4, Z', M', q1, q2, q3⟩ := fin w₃ own3 G3 (some (.exit id)) (fun rc own => ∃ c, rc = .loop (rec .done (some c)) ∧ J c own) hm3 h9 h8 ⟨_, rfl, hend⟩ (hJ _ _ hend).1
        exact ⟨_, _, q1, _, rfl, Z', M', q2, .inr ⟨rfl, by rw [hB]; exact q3⟩⟩
      | goto id =>
        obtain ⟨W4, Z', M', q1, q2, q3⟩ := fin w₃ own3 G3 (some (.goto id)) (fun rc own => ∃ c, rc = .loop (rec .done (some c)) ∧ J c own) hm3 h9 h8 ⟨_, rfl, hend⟩ (hJ _ _ hend).1
        exact ⟨_, _, q1, _, rfl, Z', M', q2, .inr ⟨rfl, by rw [hB]; exact q3⟩⟩
      | panic ch => exact hend.elim
      | outgrown => exact hend.elim
    | exit id => exact hq.elim
    | goto id => exact hq.elim
    | ret => exact hq.elim
    | panic ch => exact hq.elim
    | outgrown => exact hq.elim
  refine ⟨l, [mkD D], W1, { target := .fn (.func gf) cap.toArray, args := #[.func (.yield l) #[] #[]] }, W1, gf, #[.func (.yield l) #[] #[]] ++ cap.toArray, W1, ?_, ?_, ?_, ?_, FR_depth _ _, ?_⟩
  · have := run_enterLoop_outer (P := C.P) (w := w) fn a.tmps ps assign body
    rw [← hW1, ← hl, ← hD, hrec]
    exact this
  · simp only [resolve, hgv']
    simp [go_sem]
  · intro f' _; trivial
  · simp only [invoke]
    exact callFunc_ok hcall _ _
  · refine callsFR.2 ?_
    have hc := hit l A B hyok W1 (fun g => g = l ∨ g = D ∨ (∃ h b o, lk h s.own = some (b, o) ∧ o.blks b g) ∨ (∃ x, s.G g = some x) ∨ g < C.w0.heap.size) (fun g => g = l ∨ g = D ∨ ∃ h b o, lk h s.own = some (b, o) ∧ o.mut b g) hm1.has
      (by
        rw [hA]
        exact ⟨s.own, s.G, _, ⟨rfl, h0⟩, (hI 0 s.own h0).2.1, hm1, Le.refl _, hL1, hD1, hGn l (by omega), hGn D (by omega), fun h b o e => ⟨hbn l (by omega) h b o e, hbn D (by omega) h b o e⟩, fun _ => Iff.rfl, fun _ => Iff.rfl⟩)
      (by
        intro g hg
        rcases hg with rfl | rfl | ⟨h, b, o, e, q⟩
        · exact hGn _ (by omega)
        · exact hGn _ (by omega)
        · exact ((hS.mem.own _ _ _ e).2 g q).1)
    have harr : (#[.func (.yield l) #[] #[]] ++ cap.toArray : Array Value) = (.func (.yield l) #[] #[] :: cap).toArray := by simp
    rw [harr]
    refine hc.mono ?_
    rintro e w3 ⟨v, G3, Y, Z', M', rfl, hr, hG3, hold, hMG3, hY, hYc⟩
    have main : ∀ (p : Obj → Owns → Prop) (jump : Option Code) (st : LoopState), st ≠ .busy → (∀ rc own, p rc own → rc = .loop (rec st jump)) → (RZ C s.G l D p).A Z' M' w3 →
        ∃ own G, p (.loop (rec st jump)) own ∧ Le s.G G ∧ (Instr.endLoop l).run C.P w3 = .ok jump (w3.putObj l (.loop { rec st jump with state := .exhausted })) ∧
          (lk kd own = some (bd, dzO ds) → Sat C ⟨s.sl, stk kd (bd, dzO (D :: ds)) own, G, mkD D :: s.df⟩ { a with defers := [mkD D] ++ a.defers } (w3.putObj l (.loop { rec st jump with state := .exhausted }))) := by
      intro p jump st hst hp hz
      obtain ⟨own, G, rc, hpp, hpl, hm, hle, hLl, hLD, hGl, hGD, hno, _, _⟩ := hz
      obtain rfl := hp rc own hpp
      have hend := run_endLoop (P := C.P) hLl (by rw [hrec]; exact hst)
      refine ⟨own, G, hpp, hle, by rw [hend]; rw [hrec], fun hkd => ⟨hS.sl, hS.nt, by show [mkD D] ++ a.defers = _; rw [hS.df]; rfl, ?_⟩⟩
      have hm4 := hm.other (o := .loop { rec st jump with state := .exhausted }) hGl (by omega) (fun h b x e => (hno h b x e).1)
      exact hm4.addD hkd (by rw [World.putObj_heap_other (Ne.symm hlD)]; exact hLD) hGD (by omega) (fun h b x e => (hno h b x e).2)
    rcases hYc with rfl | rfl
    · rw [hA] at hY
      obtain ⟨own, G, hpp, hle, hend, hsat⟩ := main _ none .ready (by simp) (fun rc own h => h.1) hY
      refine ⟨none, _, hend, ?_⟩
      have := hdone D own G hpp.2 hle _ _ (hsat (hI _ _ hpp.2).2.2)
      rw [hro] at this
      exact this
    · rw [hB] at hY
      have hY' := hY
      obtain ⟨own, G, rc, ⟨c, rfl, hJc⟩, hpl, hm, hle, hLl, hLD, hGl, hGD, hno, hZ', hM'⟩ := hY
      obtain ⟨own2, G4, hpp, hle4, hend, hsat⟩ := main (fun rc own => rc = .loop (rec .done (some c)) ∧ J c own) (some c) .done (by simp) (fun rc own h => h.1) ⟨own, G, _, ⟨rfl, hJc⟩, hpl, hm, hle, hLl, hLD, hGl, hGD, hno, hZ', hM'⟩
      refine ⟨some c, _, hend, ?_⟩
      have := hstop D c own2 G4 hpp.2 hle4 _ _ (hsat (hJ _ _ hpp.2).2)
      rw [hro] at this
      exact this
end
end Go.Sx
namespace Go.Sx
set_option linter.unusedSimpArgs false
set_option linter.unusedVariables false
open Go.RowKit

structure FA where
  i : Nat
  d : Nat
  h : Nat
  T : TypeId
  z : List SV

section
variable {C : Ctx} {K : List KI} {s : St} {R : Array Oper} {l : List Oper} {d : Option Tmp} {t : TypeId} {pos : String} {aft : Array Edge} {own0 : Owns} {G0 : Hp} {sl : List (Nat × SV)} {own : Owns} {G : Hp} {df : List Deferred}

end
end Go.Sx
namespace Go.Sx
set_option linter.unusedSimpArgs false
set_option linter.unusedVariables false
open Go.RowKit
section
variable {C : Ctx} {K : List KI} {s : St} {sl : List (Nat × SV)} {own : Owns} {G : Hp}

theorem equalIn_f {P : Program} {T : TypeId} {a b c} (hT : P.underlying T = some (.func a b c)) (d : Nat) (fn : Fn) (p q : Array Value) (w : World) : (Op.equalIn (d + 1) T (.func fn p q) .nilFunc).run P w = .ok false w := by
  simp only [Op.equalIn, Sem.run_bind, run_und w hT, Result.andThen_ok, Sem.run_pure]
theorem equal_f {P : Program} {T : TypeId} {a b c} (hT : P.underlying T = some (.func a b c)) (fn : Fn) (p q : Array Value) (w : World) : (Op.equal T (.func fn p q) .nilFunc).run P w = .ok false w := equalIn_f hT 9999 fn p q w

theorem quiet_feq {T T' : TypeId} {x : Operand} {vx : SV} {fn : Fn} {p q : Array Value} {sz by' : Nat} {ze : List Value} {fl : List (Nat × Nat × Bool)} (hT : C.ty T = some ⟨.func, sz, by', ze, fl⟩) (hx : ev sl x = some vx) (hv : vx.den = .func fn p q) : Quiet C sl own G (.binOp .eql T x (.const .nilFunc) T') (.bool false) := by
  intro a w d t pos aft g hs hh
  have hxv := ev_ok hs hx
  rw [hv] at hxv
  obtain ⟨u1, u2, u3, hu⟩ := (C.tyok _ _ hT).k
  have hc : a.eval (.const .nilFunc) = .nilFunc := rfl
  simp only [execOp, hxv, hc]
  have h1 : (eqGuard .eql T x (.const .nilFunc) (.func fn p q) .nilFunc).run C.P w = .ok () w := by simp [eqGuard]
  have h2 : (binOp .eql T (.func fn p q) .nilFunc).run C.P w = .ok (.bool false) w := by
    simp [binOp, equal_f hu]
  rw [Sem.run_bind]
  simp [h1, h2, Sem.run_bind]

def cps : Code → Array Tmp
  | .rangeFunc _ ps _ _ => ps
  | _ => #[]
theorem x_range (kd : Nat) {kc : Code} (ht : tag kc = 10) {g : Operand} (hcg : cop kc = g) {ps : Array Tmp} (hcp : cps kc = ps) {gf : FuncId} {cap : List Value} {zg : SV} {enc : Nat → List Value → Hp → Prop} {N bd : Nat} {ds : List Nat}
    (hro : C.ro = none) (hmh : C.mh = 0) (hg : ev s.sl g = some zg) (hgv : zg.den = .func (.func gf) #[] cap.toArray) (hcall : canCall C.P gf = true) (hps : ∀ p ∈ ps.toList, p < C.nt)
    (hit : Iter C.P gf cap s.G enc N) (hmono : ∀ k vs G G', Le G G' → enc k vs G → enc k vs G') (hlen : ∀ k vs G, enc k vs G → vs.length = ps.size)
    (I : Nat → Owns → Prop) (J : Code → Owns → Prop) (hI : ∀ k own, I k own → (∀ h x, lk h own = some x → h < 998) ∧ Plain own ∧ lk kd own = some (bd, dzO ds)) (hJ : ∀ c own, J c own → Plain own ∧ lk kd own = some (bd, dzO ds)) (h0 : I 0 s.own)
    (hbody : ∀ C' C0 k own vs G1 l D r, k < N → I k own → Le s.G G1 → enc k vs G1 → Round C' C0 C I J l D r k →
      SGo C' [.code (c1 kc), .br l, .code (c2 kc)] ⟨putsS ps.toList vs s.sl, (998, D, .o (.deferred (some []))) :: (999, l, .o (.loop r)) :: own, G1, []⟩)
    (hdone : ∀ D own G', I N own → Le s.G G' → SGo C K ⟨s.sl, stk kd (bd, dzO (D :: ds)) own, G', mkD D :: s.df⟩)
    (hstop : ∀ D c own G', J c own → Le s.G G' → SGo C (.code c :: K) ⟨s.sl, stk kd (bd, dzO (D :: ds)) own, G', mkD D :: s.df⟩) : SGo C (.code kc :: K) s := by
  subst hcg hcp
  cases kc <;> simp [tag] at ht
  · rename_i a b c; cases c <;> simp at ht
  · exact go_range kd hro hmh hg hgv hcall hps hit hmono hlen I J hI hJ h0 hbody hdone hstop

theorem plain_nil : Plain [] := fun _ _ _ e => by simp [lk] at e
theorem plain_cons {x : Nat × Nat × OO} {own : Owns} (h : ∀ g, x.2.2.blks x.2.1 g → x.2.2.mut x.2.1 g) (h' : Plain own) : Plain (x :: own) := by
  intro k b o e
  obtain ⟨i, c, p⟩ := x
  simp only [lk] at e
  split at e
  · cases e; exact h
  · exact h' k b o e
def keysLt (n : Nat) : Owns → Bool
  | [] => true
  | x :: own => decide (x.1 < n) && keysLt n own
theorem keys_lt {n : Nat} : ∀ {own : Owns}, keysLt n own = true → ∀ h x, lk h own = some x → h < n
  | [], _, h, x, e => by simp [lk] at e
  | y :: own, hk, h, x, e => by
    simp only [keysLt, Bool.and_eq_true, decide_eq_true_eq] at hk
    simp only [lk] at e
    split at e
    · rename_i q; omega
    · exact keys_lt hk.2 h x e

theorem cut_tail (n : Nat) (P : St → Prop) (key : ∀ s', P s' → SGo C (K.drop n) s') (h : (∀ s', P s' → SGo C (K.drop n) s') → SGo C K s) : SGo C K s := h key
end
end Go.Sx
namespace Go.Sx
set_option linter.unusedSimpArgs false
set_option linter.unusedVariables false
open Go.RowKit

theorem Iter.mono {P : Program} {f : FuncId} {cap : List Value} {G G' : Hp} {enc : Nat → List Value → Hp → Prop} {N : Nat} (h : Iter P f cap G enc N) (hl : Le G G') : Iter P f cap G' enc N := by
  intro l A B hy w Z M hw hA hM
  have hw0 : Has w G := fun b o e => hw b o (hl b o e)
  have hM0 : ∀ g, M g → G g = none := fun g hg => by
    cases hq : G g with
    | none => rfl
    | some o => have := hl g o hq; rw [hM g hg] at this; cases this
  refine (h l A B hy w Z M hw0 hA hM0).mono ?_
  rintro e w' ⟨v, G1, Y, Z', M', rfl, hr, hh, hold, hm, hY, hφ⟩
  refine ⟨v, fun b => if b < w.heap.size then G' b else G1 b, Y, Z', M', rfl, hr, ?_, ?_, ?_, hY, hφ⟩
  · intro b o e
    simp only at e
    split at e
    · rename_i hb
      have hnm : ¬ M b := fun q => by rw [hM b q] at e; cases e
      rw [hr.same b hb hnm]
      exact hw b o e
    · exact hh b o e
  · intro b hb
    simp only [hb, if_true]
  · intro g hg
    simp only
    split
    · rename_i hb
      rcases hr.m g hg with q | q
      · exact hM g q
      · omega
    · exact hm g hg

section
variable {C : Ctx} {K : List KI} {s : St} {R : Array Oper} {l : List Oper} {d : Option Tmp} {t : TypeId} {pos : String} {aft : Array Edge} {v : Value}

theorem go_callw {g : Operand} {f : FuncId} {cap : List Value} {args : Array Operand} {tys : Array TypeId} {vs : List SV} {z : SV} {φ : Value → Hp → Prop} (hd : dOk C.nt d = true) (hf : canCall C.P f = true) (hg : ev s.sl g = some z) (hz : z.den = .func (.func f) #[] cap.toArray) (ha : evs s.sl args.toList = some vs) (hc : Pure C.P f (dens vs ++ cap) s.G φ)
    (h : ∀ v G', Le s.G G' → φ v G' → SGo C (.ops R l :: K) ⟨putS d (rv v) s.sl, s.own, G', s.df⟩) : SGo C (.ops R (⟨d, .call ⟨.value g, args, tys⟩, t, pos, aft, none⟩ :: l) :: K) s := by
  intro a w hS
  have hargs : args.map a.eval = (dens vs).toArray := by apply Array.ext'; rw [Array.toList_map]; exact evs_ok hS.sl ha
  have hgv := ev_ok hS.sl hg
  rw [hz] at hgv
  have hrun : (execOp a.eval ⟨d, .call ⟨.value g, args, tys⟩, t, pos, aft, none⟩).run C.P w = .ok (.enter f (dens vs ++ cap).toArray) w := by
    simp only [execOp, resolve, hargs, hgv, Deferred.ofValue, Sem.run_bind, Sem.run_pure, Result.andThen_ok, invoke]
    simp [callFunc_ok hf]
  refine K_enter rfl hrun ((hc w hS.mem.has).mono ?_)
  rintro e w' ⟨v, G', rfl, hg', hφ⟩
  have hle : Le s.G G' := fun b o e => hg'.keep hS.mem.has e
  have hS' := hS.put hd (rv v) (hS.mem.call hg')
  rw [rv_den] at hS'
  exact ⟨_, rfl, h v G' hle hφ _ _ hS'⟩
end
end Go.Sx
namespace Go.Sx
set_option linter.unusedSimpArgs false
set_option linter.unusedVariables false
open Go.RowKit


structure Rp (α : Type) where
  size : Nat
  e : Hp → α → List Value → Prop
  mono : ∀ {G G' x cs}, Le G G' → e G x cs → e G' x cs
  len : ∀ {G x cs}, e G x cs → cs.length = size
  one : ∀ {G x cs}, e G x cs → ∀ u ∈ cs, u.oneCell' = true

section
variable {α : Type} (r : Rp α)

def Rp.L (G : Hp) : List α → List Value → Prop
  | [], cs => cs = []
  | x :: l, cs => ∃ c d, cs = c ++ d ∧ r.e G x c ∧ Rp.L G l d
def Rp.S (G : Hp) (l : List α) (v : Value) : Prop :=
  l.length ≤ 9223372036854775807 ∧ ∃ ad cap, v = .slice ad l.length cap ∧ (l = [] ∨ ∃ b off cs, ad = some ⟨b, off, none⟩ ∧ At G b off cs ∧ r.L G l cs)
variable {r} {G G' : Hp}
theorem Rp.L_mono (hl : Le G G') : ∀ {l : List α} {cs : List Value}, r.L G l cs → r.L G' l cs
  | [], _, h => h
  | x :: l, cs, h => by
    obtain ⟨c, d, h1, h2, h3⟩ := h
    exact ⟨c, d, h1, r.mono hl h2, Rp.L_mono hl h3⟩
theorem Rp.S_mono (hl : Le G G') {l : List α} {v : Value} (h : r.S G l v) : r.S G' l v := by
  obtain ⟨h3, ad, cap, h4, h5⟩ := h
  refine ⟨h3, ad, cap, h4, ?_⟩
  rcases h5 with h5 | ⟨b, off, cs, h5, h6, h7⟩
  · exact .inl h5
  · exact .inr ⟨b, off, cs, h5, h6.mono hl, Rp.L_mono hl h7⟩
theorem Rp.S_slice {l : List α} {v : Value} (h : r.S G l v) : ∃ ad cap, v = .slice ad l.length cap := by
  obtain ⟨_, ad, cap, h, _⟩ := h; exact ⟨ad, cap, h⟩
theorem Rp.S_len {l : List α} {v : Value} (h : r.S G l v) : l.length ≤ 9223372036854775807 := h.1
theorem Rp.S_nil (ad : Option Addr) (cap : Nat) : r.S G [] (.slice ad 0 cap) := ⟨by simp, ad, cap, rfl, .inl rfl⟩
theorem Rp.L_len : ∀ {l : List α} {cs : List Value}, r.L G l cs → cs.length = l.length * r.size
  | [], cs, h => by have h : cs = [] := h; simp [h]
  | x :: l, cs, h => by
    obtain ⟨c, d, rfl, h2, h3⟩ := h
    have := Rp.L_len h3
    have := r.len h2
    simp only [List.length_cons, List.length_append, Nat.succ_mul]; omega
theorem Rp.L_one : ∀ {l : List α} {cs : List Value}, r.L G l cs → ∀ u ∈ cs, u.oneCell' = true
  | [], cs, h => by have h : cs = [] := h; simp [h]
  | x :: l, cs, h => by
    obtain ⟨c, d, rfl, h2, h3⟩ := h
    intro u hu
    rcases List.mem_append.1 hu with hu | hu
    · exact r.one h2 u hu
    · exact Rp.L_one h3 u hu
theorem Rp.L_append : ∀ {l l' : List α} {cs cs' : List Value}, r.L G l cs → r.L G l' cs' → r.L G (l ++ l') (cs ++ cs')
  | [], l', cs, cs', h, h' => by have h : cs = [] := h; subst h; simpa using h'
  | x :: l, l', cs, cs', h, h' => by
    obtain ⟨c, d, rfl, h2, h3⟩ := h
    exact ⟨c, d ++ cs', by simp, h2, Rp.L_append h3 h'⟩
theorem Rp.L_single {x : α} {cs : List Value} (h : r.e G x cs) : r.L G [x] cs := ⟨cs, [], by simp, h, rfl⟩
theorem Rp.L_drop : ∀ {l : List α} {cs : List Value} (i : Nat), r.L G l cs → r.L G (l.drop i) (cs.drop (i * r.size))
  | l, cs, 0, h => by simpa using h
  | [], cs, i + 1, h => by have h : cs = [] := h; subst h; simp [Rp.L]
  | x :: l, cs, i + 1, h => by
    obtain ⟨c, d, rfl, h2, h3⟩ := h
    have := Rp.L_drop i h3
    have hc := r.len h2
    have e : (c ++ d).drop ((i + 1) * r.size) = d.drop (i * r.size) := by rw [Nat.succ_mul, Nat.add_comm, ← hc, List.drop_length_add_append]
    rw [e]
    simpa using this
theorem Rp.L_get {l : List α} {cs : List Value} (h : r.L G l cs) {i : Nat} (hi : i < l.length) : ∃ c, (cs.drop (i * r.size)).take r.size = c ∧ r.e G l[i] c := by
  have h1 := Rp.L_drop i h
  rw [List.drop_eq_getElem_cons hi] at h1
  obtain ⟨c, d, h2, h3, _⟩ := h1
  refine ⟨c, ?_, h3⟩
  rw [h2, ← r.len h3, List.take_left]
theorem Rp.at_get {l : List α} {cs : List Value} {b off : Nat} (ha : At G b off cs) (h : r.L G l cs) {i : Nat} (hi : i < l.length) : ∃ c, At G b (off + i * r.size) c ∧ r.e G l[i] c := by
  obtain ⟨c, h1, h2⟩ := Rp.L_get h hi
  have hlen := Rp.L_len h
  have h3 := ha.sub (i * r.size) r.size (by rw [hlen]; have := Nat.mul_le_mul_right r.size (show i + 1 ≤ l.length from hi); rw [Nat.succ_mul] at this; omega)
  rw [h1] at h3
  exact ⟨c, h3, h2⟩
theorem Rp.S_get {l : List α} {v : Value} (h : r.S G l v) {i : Nat} (hi : i < l.length) : ∃ b off cap c, v = .slice (some ⟨b, off, none⟩) l.length cap ∧ At G b (off + i * r.size) c ∧ r.e G l[i] c := by
  obtain ⟨_, ad, cap, rfl, h | ⟨b, off, cs, rfl, ha, hL⟩⟩ := h
  · subst h; simp at hi
  · obtain ⟨c, h1, h2⟩ := Rp.at_get ha hL hi
    exact ⟨b, off, cap, c, rfl, h1, h2⟩
theorem Rp.L_set : ∀ {l : List α} {cs : List Value} {i : Nat} {x : α} {c : List Value}, r.L G l cs → r.e G x c → i < l.length → r.L G (l.set i x) (cs.take (i * r.size) ++ c ++ cs.drop (i * r.size + r.size))
  | [], _, _, _, _, _, _, hi => by simp at hi
  | y :: l, cs, 0, x, c, h, hx, _ => by
    obtain ⟨c', d, rfl, h2, h3⟩ := h
    have hc := r.len h2
    refine ⟨c, d, ?_, hx, h3⟩
    rw [Nat.zero_mul, List.take_zero, List.nil_append, Nat.zero_add, ← hc, List.drop_left]
  | y :: l, cs, i + 1, x, c, h, hx, hi => by
    obtain ⟨c', d, rfl, h2, h3⟩ := h
    have hc := r.len h2
    have ih := Rp.L_set (i := i) h3 hx (by simpa using hi)
    refine ⟨c', _, ?_, h2, ih⟩
    rw [Nat.succ_mul, Nat.add_comm (i * r.size), ← hc, List.take_length_add_append, Nat.add_assoc, List.drop_append, List.drop_eq_nil_of_le (by omega : c'.length ≤ c'.length + (i * c'.length + c'.length))]
    simp only [List.append_assoc, List.nil_append]
    congr 4
    omega
theorem lay_0 : ∀ (vs z x : List Value), z.length = vs.length → lay (z ++ x) 0 vs = some (vs ++ x)
  | [], z, x, h => by have := List.length_eq_zero_iff.1 h; subst this; simp [lay]
  | v :: vs, [], x, h => by simp at h
  | v :: vs, y :: z, x, h => by
    simp only [List.cons_append, lay]
    rw [lay_0 vs z x (by simpa using h)]
    rfl
theorem lay_m : ∀ (y vs z x : List Value), z.length = vs.length → lay (y ++ (z ++ x)) y.length vs = some (y ++ (vs ++ x))
  | [], vs, z, x, h => by simpa using lay_0 vs z x h
  | u :: y, vs, z, x, h => by
    have := lay_m y vs z x h
    cases vs with
    | nil => have := List.length_eq_zero_iff.1 h; subst this; simp [lay]
    | cons v vs =>
      simp only [List.cons_append, List.length_cons, lay]
      rw [this]
      rfl
theorem lay_put {xs c : List Value} {m : Nat} (h : m + c.length ≤ xs.length) : lay xs m c = some (xs.take m ++ c ++ xs.drop (m + c.length)) := by
  have h0 : xs = xs.take m ++ ((xs.drop m).take c.length ++ xs.drop (m + c.length)) := by
    rw [← List.drop_drop, List.take_append_drop, List.take_append_drop]
  have h1 : m = (xs.take m).length := by rw [List.length_take]; omega
  have h2 := lay_m (xs.take m) c ((xs.drop m).take c.length) (xs.drop (m + c.length)) (by simp; omega)
  rw [← h1, ← h0] at h2
  rw [h2, List.append_assoc]
theorem Rp.src {l : List α} {ad : Option Addr} {cap : Nat} (h : l = [] ∨ ∃ b off cs, ad = some ⟨b, off, none⟩ ∧ At G b off cs ∧ r.L G l cs) :
    ∃ cs, r.L G l cs ∧ ((∃ c, (SV.v (.slice ad l.length cap)).den = .slice none 0 c ∧ l.length = 0 ∧ cs = []) ∨ ∀ (C : Ctx) (s : St), s.G = G → Src C s (.v (.slice ad l.length cap)) l.length cs) := by
  rcases h with rfl | ⟨b, off, cs, rfl, ha, hr⟩
  · refine ⟨[], by simp [Rp.L], ?_⟩
    cases ad with
    | none => exact .inl ⟨cap, rfl, rfl, rfl⟩
    | some a => exact .inr fun _ _ _ => src_empty rfl
  · exact ⟨cs, hr, .inr fun _ s hs => src_at (by rw [hs]; exact ha)⟩

variable {C : Ctx} {K : List KI} {s : St} {R : Array Oper} {l : List Oper} {d : Option Tmp} {t : TypeId} {pos : String} {aft : Array Edge} {v : Value}

theorem go_pubL (r : Rp α) (k : Nat) {b n : Nat} {e : TypeId} {v : Value} {xs : List Value} {ts : List α} (hk : lk k s.own = some (b, .row v e r.size n xs)) (hmh : C.mh ≤ k) (hn : n = ts.length) (h63 : n ≤ 9223372036854775807) (hr : r.L s.G ts xs)
    (h : ∀ G' ad cap, Le s.G G' → v = .slice ad ts.length cap → r.S G' ts (.slice ad ts.length cap) → SGo C K ⟨s.sl, rmk k s.own, G', s.df⟩) : SGo C K s := by
  subst hn
  refine go_rowcases k hk (fun hv hn0 hx => ?_) (fun g cap hv hc hl => ?_)
  · have h0 : ts = [] := List.length_eq_zero_iff.1 hn0
    refine go_drop k (h s.G none 0 (Le.refl _) (by rw [hv, h0]; rfl) ⟨h63, none, 0, rfl, .inl h0⟩)
  · subst hv
    refine go_pubrow k hk hmh ?_
    intro G' hle hat
    exact h G' _ _ hle rfl ⟨h63, _, _, rfl, .inr ⟨g, 0, xs, rfl, hat, Rp.L_mono hle hr⟩⟩
end

def rI : Rp Int where
  size := 1
  e _ n cs := cs = [.int .i64 n] ∧ isI64 n
  mono _ h := h
  len h := by rw [h.1]; rfl
  one h u hu := by rw [h.1] at hu; simp at hu; subst hu; rfl
theorem rI_L {G : Hp} : ∀ {l : List Int} {cs : List Value}, rI.L G l cs ↔ cs = l.map (.int .i64 ·) ∧ ∀ n ∈ l, isI64 n
  | [], cs => by simp [Rp.L]
  | x :: l, cs => by
    constructor
    · rintro ⟨c, d, rfl, ⟨rfl, h1⟩, h2⟩
      obtain ⟨rfl, h3⟩ := rI_L.1 h2
      exact ⟨by simp, by simpa using ⟨h1, h3⟩⟩
    · rintro ⟨rfl, h⟩
      exact ⟨[.int .i64 x], _, by simp, ⟨rfl, h x (by simp)⟩, rI_L.2 ⟨rfl, fun n hn => h n (by simp [hn])⟩⟩


abbrev Lds := List (Nat × OO)
structure Lent (ow : Lds) (G : Hp) (w : World) : Prop where
  own : ∀ (i b : Nat) (o : OO), ow[i]? = some (b, o) → o.holds 0 w b ∧ ∀ g, o.mut b g → G g = none
  inj : ∀ (i j b b' : Nat) (o o' : OO) (g : Nat), ow[i]? = some (b, o) → ow[j]? = some (b', o') → o.blks b g → o'.blks b' g → i = j
def mutOf (ow : Lds) (g : Nat) : Prop := ∃ (i b : Nat) (o : OO), ow[i]? = some (b, o) ∧ o.mut b g
def blkOf (ow : Lds) (g : Nat) : Prop := ∃ (i b : Nat) (o : OO), ow[i]? = some (b, o) ∧ o.blks b g
def RetW (w : World) (G : Hp) (ow : Lds) (φ : Value → Hp → Lds → Prop) : Ending → World → Prop := fun e w' =>
  ∃ v G' ow', e = .returned v ∧ Fr w w' ∧ (∀ g, g < w.heap.size → ¬ mutOf ow g → w'.heap[g]? = w.heap[g]?) ∧ Has w' G' ∧ (∀ b, b < w.heap.size → G' b = G b) ∧ Lent ow' G' w' ∧ ow'.length = ow.length ∧
    (∀ g, blkOf ow' g → blkOf ow g ∨ w.heap.size ≤ g) ∧ (∀ g, mutOf ow' g → mutOf ow g ∨ w.heap.size ≤ g) ∧ φ v G' ow'
def PureW (P : Program) (f : FuncId) (args : List Value) (G : Hp) (ow : Lds) (φ : Value → Hp → Lds → Prop) : Prop :=
  ∀ w, Has w G → Lent ow G w → Calls P f args.toArray w (RetW w G ow φ)

def enumO : Nat → Lds → Owns
  | _, [] => []
  | i, x :: l => (i, x.1, x.2) :: enumO (i + 1) l
theorem lk_enumO : ∀ (ow : Lds) (i k : Nat), lk k (enumO i ow) = if k < i then none else ow[k - i]?
  | [], i, k => by simp [enumO, lk]
  | x :: l, i, k => by
    simp only [enumO, lk]
    split
    · rename_i h; subst h; simp
    · rename_i h
      rw [lk_enumO l (i + 1) k]
      by_cases hk : k < i
      · rw [if_pos hk, if_pos (by omega)]
      · rw [if_neg hk, if_neg (by omega)]
        rw [show k - i = (k - (i + 1)) + 1 by omega, List.getElem?_cons_succ]

def pickO (own : Owns) : Nat → Nat → Option Lds
  | _, 0 => some []
  | i, n + 1 => match lk i own with
    | some x => match pickO own (i + 1) n with
      | some l => some (x :: l)
      | none => none
    | none => none
theorem pickO_get {own : Owns} : ∀ {n i : Nat} {l : Lds}, pickO own i n = some l → l.length = n ∧ ∀ j x, l[j]? = some x → lk (i + j) own = some x
  | 0, i, l, h => by simp only [pickO, Option.some.injEq] at h; subst h; simp
  | n + 1, i, l, h => by
    simp only [pickO] at h
    cases h1 : lk i own with
    | none => rw [h1] at h; cases h
    | some x =>
      rw [h1] at h
      cases h2 : pickO own (i + 1) n with
      | none => rw [h2] at h; cases h
      | some l' =>
        rw [h2] at h
        simp only [Option.some.injEq] at h
        subst h
        obtain ⟨q1, q2⟩ := pickO_get h2
        refine ⟨by simp [q1], fun j y hj => ?_⟩
        cases j with
        | zero => simp at hj; subst hj; simpa using h1
        | succ j => simp only [List.getElem?_cons_succ] at hj; have := q2 j y hj; rwa [Nat.add_assoc, Nat.add_comm 1 j] at this

section
variable {C : Ctx} {K : List KI} {s : St} {R : Array Oper} {l : List Oper} {d : Option Tmp} {t : TypeId} {pos : String} {aft : Array Edge} {v : Value}

theorem enterW {P : Program} {f : FuncId} {fn : Func} {G : Hp} {ow : Lds} {φ : Value → Hp → Lds → Prop} (ty : TypeId → Option TI) (tyok : ∀ T i, ty T = some i → i.ok P T) {nt : Nat}
    (hf : P.funcs[f]? = some fn) (hb : fn.body.isSome = true) (hn : fn.ntmps = nt) (svs : List SV) (hargs : svs.length ≤ nt) {mh : Nat} (hmh : ow.length = mh)
    (h : ∀ C : Ctx, C.P = P → C.Q = bodyPost C.P fn (RetW C.w0 G ow φ) → C.nt = nt → C.ty = ty → (∀ g, g ∈ C.mb → mutOf ow g) → C.mh = mh → C.ro = none → C.G0 = G → (∀ g, mutOf ow g → blkOf ow g) → SGo C [.code (fn.body.getD .skip)] ⟨enumS 0 svs, enumO 0 ow, G, []⟩) : PureW P f (dens svs) G ow φ := by
  intro w hw hL
  classical
  refine calls_of_wp hf (body_eq hb) ((wpIn_wide (n := 0)).1 ?_)
  have hlt : ∀ g, blkOf ow g → g < w.heap.size := fun g ⟨i, b, o, e, hg⟩ => OO.holds_lt (hL.own i b o e).1 hg
  have hml : ∀ g, mutOf ow g → g < w.heap.size := fun g ⟨i, b, o, e, hg⟩ => hlt g ⟨i, b, o, e, OO.mut_blks (hL.own i b o e).1 hg⟩
  have hmem : ∀ g, g ∈ (List.range w.heap.size).filter (fun g => decide (mutOf ow g)) ↔ mutOf ow g := fun g => by
    simp only [List.mem_filter, List.mem_range, decide_eq_true_eq]
    exact ⟨fun q => q.2, fun q => ⟨hml g q, q⟩⟩
  have hlk : ∀ k b o, lk k (enumO 0 ow) = some (b, o) → ow[k]? = some (b, o) := fun k b o e => by
    rw [lk_enumO] at e; simpa using e
  have := h ⟨P, bodyPost P fn (RetW w G ow φ), nt, ty, tyok, w, G, (List.range w.heap.size).filter (fun g => decide (mutOf ow g)), mh, none⟩ rfl rfl rfl rfl (fun g hg => (hmem g).1 hg) rfl rfl rfl (fun g ⟨i, b, o, e, hg⟩ => ⟨i, b, o, e, OO.mut_blks (hL.own i b o e).1 hg⟩) { tmps := (dens svs).toArray ++ Array.replicate (fn.ntmps - (dens svs).toArray.size) undef, defers := [] } w
    ⟨slots_args _ _ _ (fun i x e => by have := (lk_enumS svs 0 i x e).2; simpa using this), by simp [hn, dens_eq]; omega, rfl, ⟨fun k b o e => ?_, fun k k' b b' o o' g e e' f f' => ?_, Grow.refl hw⟩⟩
  · simp only [wpK] at this
    exact this
  · have e' := hlk _ _ _ e
    obtain ⟨h1, h2⟩ := hL.own _ _ _ e'
    refine ⟨h1, fun g hg => ⟨h2 g hg, fun q => ?_, fun _ => .inl ((hmem g).2 ⟨_, _, _, e', hg⟩)⟩⟩
    have hk : k < ow.length := by
      rcases Nat.lt_or_ge k ow.length with q | q
      · exact q
      · rw [List.getElem?_eq_none q] at e'; cases e'
    have q : mh ≤ k := q
    omega
  · exact hL.inj _ _ _ _ _ _ g (hlk _ _ _ e) (hlk _ _ _ e') f f'

theorem x_retW {k : Code} (ht : tag k = 7) {fn : Func} {G : Hp} {ow : Lds} {φ : Value → Hp → Lds → Prop} (hQ : C.Q = bodyPost C.P fn (RetW C.w0 G ow φ)) (hmb : ∀ g, g ∈ C.mb → mutOf ow g) {mh : Nat} (hmh : C.mh = mh) (hG : C.G0 = G) (hmub : ∀ g, mutOf ow g → blkOf ow g) (hml : ow.length = mh)
    {r : ResultVar} {rs : List ResultVar} (hrs : fn.results.toList = r :: rs) {xs : List SV} (hr : resAll s.sl C.ty s.own (r :: rs) = some xs) (hdf : s.df = []) {ow' : Lds} (hp : pickO s.own 0 mh = some ow')
    (hpl : Plain (enumO 0 ow')) (h : φ (resV xs).den s.G ow') (hnb : noBr K = true := by rfl) : SGo C (.code k :: K) s := by
  intro a w hS
  cases k <;> simp [tag] at ht
  · rename_i a b c; cases c <;> simp at ht
  refine wpIn_ret ?_
  rw [wpK_ret _ _ _ hnb, hQ]
  have hg := hS.mem.grow
  obtain ⟨p1, p2⟩ := pickO_get hp
  have p3 : ∀ {i b o}, ow'[i]? = some (b, o) → lk i s.own = some (b, o) := fun {i b o} e => by simpa using p2 i _ e
  have p4 : ∀ {i b o}, ow'[i]? = some (b, o) → i < mh := fun {i b o} e => by
    rcases Nat.lt_or_ge i ow'.length with q | q
    · omega
    · rw [List.getElem?_eq_none q] at e; cases e
  have p5 : ∀ g, blkOf ow' g → mutOf ow' g := fun g ⟨i, b, o, e, hb⟩ => ⟨i, b, o, e, hpl i b o (by rw [lk_enumO]; simpa using e) g hb⟩
  have p6 : ∀ g, mutOf ow' g → mutOf ow g ∨ C.w0.heap.size ≤ g := fun g ⟨i, b, o, e, hb⟩ => by
    obtain ⟨_, q⟩ := hS.mem.own _ _ _ (p3 e)
    rcases (q g hb).2.2 (by rw [hmh]; exact p4 e) with q | q
    · exact .inl (hmb g q)
    · exact .inr q
  refine ⟨by rw [hS.df, hdf], _, results_ok hS (by rw [hrs]; exact hr), _, _, ow', rfl, hg.fr, fun g hg1 hg2 => ?_, hg.has, fun b hb => by rw [hg.old b hb, hG], ⟨fun i b o e => ?_, fun i j b b' o o' g e e' f f' => ?_⟩, by omega, fun g q => ?_, p6, h⟩
  · exact hg.blk g hg1 fun q => hg2 (hmb g q)
  · obtain ⟨q1, q2⟩ := hS.mem.own _ _ _ (p3 e)
    exact ⟨q1, fun g q => (q2 g q).1⟩
  · exact hS.mem.inj _ _ _ _ _ _ g (p3 e) (p3 e') f f'
  · exact (p6 g (p5 g q)).imp (hmub g) id

def setO : List Nat → Lds → Owns → Owns
  | k :: ks, x :: l, own => setO ks l (stk k x own)
  | _, _, own => own
def lkAll (own : Owns) : List Nat → Option Lds
  | [] => some []
  | k :: ks => match lk k own with
    | some x => match lkAll own ks with
      | some l => some (x :: l)
      | none => none
    | none => none
def noDup : List Nat → Bool
  | [] => true
  | k :: ks => !ks.contains k && noDup ks
theorem lkAll_get {own : Owns} : ∀ {ks : List Nat} {l : Lds}, lkAll own ks = some l → l.length = ks.length ∧ ∀ (i k : Nat), ks[i]? = some k → ∃ x, l[i]? = some x ∧ lk k own = some x
  | [], l, h => by simp only [lkAll, Option.some.injEq] at h; subst h; simp
  | k :: ks, l, h => by
    simp only [lkAll] at h
    cases h1 : lk k own with
    | none => rw [h1] at h; cases h
    | some x =>
      rw [h1] at h
      cases h2 : lkAll own ks with
      | none => rw [h2] at h; cases h
      | some l' =>
        rw [h2] at h
        simp only [Option.some.injEq] at h
        subst h
        obtain ⟨q1, q2⟩ := lkAll_get h2
        refine ⟨by simp [q1], fun i k' hi => ?_⟩
        cases i with
        | zero => simp at hi; subst hi; exact ⟨x, by simp, h1⟩
        | succ i => simp only [List.getElem?_cons_succ] at hi ⊢; exact q2 i k' hi
theorem lk_setO : ∀ {ks : List Nat} {l : Lds} {own : Owns} {k : Nat}, noDup ks = true → l.length = ks.length → (∃ (i : Nat) (x : Nat × OO), ks[i]? = some k ∧ l[i]? = some x ∧ lk k (setO ks l own) = some x) ∨ (k ∉ ks ∧ lk k (setO ks l own) = lk k own)
  | [], l, own, k, _, _ => .inr ⟨by simp, by cases l <;> rfl⟩
  | j :: ks, [], own, k, _, h => by simp at h
  | j :: ks, x :: l, own, k, hn, h => by
    simp only [noDup, Bool.and_eq_true, Bool.not_eq_true', List.contains_eq_mem, decide_eq_false_iff_not] at hn
    simp only [setO]
    rcases lk_setO (ks := ks) (l := l) (own := stk j x own) (k := k) hn.2 (by simpa using h) with ⟨i, y, h1, h2, h3⟩ | ⟨h1, h2⟩
    · exact .inl ⟨i + 1, y, by simpa using h1, by simpa using h2, h3⟩
    · by_cases hk : k = j
      · subst hk
        exact .inl ⟨0, x, by simp, by simp, by rw [h2, lk_stk]; simp⟩
      · exact .inr ⟨by simp [hk, h1], by rw [h2, lk_stk, if_neg hk]⟩

theorem Mem.lentM {own : Owns} {G G' : Hp} {w w' : World} (h : Mem C own G w) {ks : List Nat} {ow ow' : Lds} (hk : lkAll own ks = some ow) (hn : noDup ks = true) (hks : (∀ k ∈ ks, C.mh ≤ k) ∨ (∀ k ∈ ks, k < C.mh))
    (hf : Fr w w') (hs : ∀ g, g < w.heap.size → ¬ mutOf ow g → w'.heap[g]? = w.heap[g]?) (hG : Has w' G') (hold : ∀ b, b < w.heap.size → G' b = G b) (hL : Lent ow' G' w') (hlen : ow'.length = ow.length)
    (hb : ∀ g, blkOf ow' g → blkOf ow g ∨ w.heap.size ≤ g) (hm : ∀ g, mutOf ow' g → mutOf ow g ∨ w.heap.size ≤ g) : Mem C (setO ks ow' own) G' w' := by
  obtain ⟨k1, k2⟩ := lkAll_get hk
  have hidx : ∀ {i : Nat} {x : Nat × OO}, ow[i]? = some x → ∃ k, ks[i]? = some k ∧ lk k own = some x := fun {i x} e => by
    have hi : i < ks.length := by
      rcases Nat.lt_or_ge i ow.length with q | q
      · omega
      · rw [List.getElem?_eq_none q] at e; cases e
    obtain ⟨x', e1, e2⟩ := k2 i ks[i] (by rw [List.getElem?_eq_getElem hi])
    rw [e] at e1; cases e1
    exact ⟨ks[i], by rw [List.getElem?_eq_getElem hi], e2⟩
  have hout : ∀ {k b : Nat} {o : OO} {g : Nat}, k ∉ ks → lk k own = some (b, o) → o.blks b g → ¬ blkOf ow g := fun {k b o g} hk' e hg ⟨i, b', o', e', hg'⟩ => by
    obtain ⟨k', e1, e2⟩ := hidx e'
    have := h.inj _ _ _ _ _ _ g e e2 hg hg'
    subst this
    exact hk' (List.mem_of_getElem? e1)
  have hmutb : ∀ g, mutOf ow g → blkOf ow g := fun g ⟨i, b, o, e, hg⟩ => by
    obtain ⟨k', _, e2⟩ := hidx e
    exact ⟨i, b, o, e, OO.mut_blks (h.own _ _ _ e2).1 hg⟩
  have hlt' : ow'.length = ks.length := by omega
  refine ⟨fun k b o e => ?_, fun k k' b b' o o' g e e' f f' => ?_, ?_⟩
  · rcases lk_setO (own := own) (k := k) hn hlt' with ⟨i, x, h1, h2, h3⟩ | ⟨h1, h2⟩
    · rw [e] at h3; cases h3
      obtain ⟨q1, q2⟩ := hL.own i b o h2
      refine ⟨q1, fun g hg => ?_⟩
      have key : (C.mh ≤ k → C.w0.heap.size ≤ g) ∧ (k < C.mh → g ∈ C.mb ∨ C.w0.heap.size ≤ g) := by
        rcases hm g ⟨i, b, o, h2, hg⟩ with ⟨j, b2, o2, e2, hg2⟩ | q
        · obtain ⟨k', e3, e4⟩ := hidx e2
          obtain ⟨_, q5⟩ := h.own _ _ _ e4
          obtain ⟨_, q6, q7⟩ := q5 g hg2
          have m1 := List.mem_of_getElem? h1
          have m2 := List.mem_of_getElem? e3
          rcases hks with hks | hks
          · exact ⟨fun _ => q6 (hks _ m2), fun q => by have := hks _ m1; omega⟩
          · exact ⟨fun q => by have := hks _ m1; omega, fun _ => q7 (hks _ m2)⟩
        · have := h.grow.size
          exact ⟨fun _ => by omega, fun _ => .inr (by omega)⟩
      exact ⟨q2 g hg, key⟩
    · rw [h2] at e
      obtain ⟨q1, q2⟩ := h.own _ _ _ e
      refine ⟨OO.holds_same q1 hf fun g hg => hs g (h.lt e hg) fun q => hout h1 e hg (hmutb g q), fun g hg => ?_⟩
      obtain ⟨q3, q4, q5⟩ := q2 g hg
      exact ⟨by rw [hold g (h.ltm e hg)]; exact q3, q4, q5⟩
  · rcases lk_setO (own := own) (k := k) hn hlt' with ⟨i, x, h1, h2, h3⟩ | ⟨h1, h2⟩
    · rw [e] at h3; cases h3
      rcases lk_setO (own := own) (k := k') hn hlt' with ⟨i', x', h1', h2', h3'⟩ | ⟨h1', h2'⟩
      · rw [e'] at h3'; cases h3'
        have := hL.inj _ _ _ _ _ _ g h2 h2' f f'
        subst this
        rw [h1] at h1'; cases h1'; rfl
      · rw [h2'] at e'
        exfalso
        rcases hb g ⟨_, _, _, h2, f⟩ with q | q
        · exact hout h1' e' f' q
        · have := h.lt e' f'; omega
    · rw [h2] at e
      rcases lk_setO (own := own) (k := k') hn hlt' with ⟨i', x', h1', h2', h3'⟩ | ⟨h1', h2'⟩
      · rw [e'] at h3'; cases h3'
        exfalso
        rcases hb g ⟨_, _, _, h2', f'⟩ with q | q
        · exact hout h1 e f q
        · have := h.lt e f; omega
      · rw [h2'] at e'
        exact h.inj _ _ _ _ _ _ g e e' f f'
  · have hg := h.grow
    refine ⟨hf.os.trans hg.os, hf.tape.trans hg.tape, hf.output.trans hg.output, Nat.le_trans hg.size hf.size, fun j hj hm' => ?_, hG, fun b hb' => ?_⟩
    · rw [hs j (by have := hg.size; omega) ?_]
      · exact hg.blk j hj hm'
      · rintro ⟨i, b, o, e, hgj⟩
        obtain ⟨k', _, e2⟩ := hidx e
        obtain ⟨_, q⟩ := h.own _ _ _ e2
        obtain ⟨_, q1, q2⟩ := q j hgj
        rcases Nat.lt_or_ge k' C.mh with q3 | q3
        · rcases q2 q3 with q4 | q4
          · exact hm' q4
          · omega
        · have := q1 q3; omega
    · rw [hold b (by have := hg.size; omega)]; exact hg.old b hb'

theorem go_callW (ks : List Nat) {f : FuncId} {args : Array Operand} {tys : Array TypeId} {vs : List SV} {ow : Lds} {φ : Value → Hp → Lds → Prop} (hd : dOk C.nt d = true) (hf : canCall C.P f = true) (ha : evs s.sl args.toList = some vs)
    (hk : lkAll s.own ks = some ow) (hn : noDup ks = true) (hks : (∀ k ∈ ks, C.mh ≤ k) ∨ (∀ k ∈ ks, k < C.mh)) (hc : PureW C.P f (dens vs) s.G ow φ)
    (h : ∀ v G' ow', Le s.G G' → φ v G' ow' → SGo C (.ops R l :: K) ⟨putS d (rv v) s.sl, setO ks ow' s.own, G', s.df⟩) : SGo C (.ops R (⟨d, .call ⟨.value (.func f), args, tys⟩, t, pos, aft, none⟩ :: l) :: K) s := by
  intro a w hS
  have hargs : args.map a.eval = (dens vs).toArray := by apply Array.ext'; rw [Array.toList_map]; exact evs_ok hS.sl ha
  have hrun : (execOp a.eval ⟨d, .call ⟨.value (.func f), args, tys⟩, t, pos, aft, none⟩).run C.P w = .ok (.enter f (dens vs).toArray) w := by
    simp only [execOp, resolve, hargs, Act.eval, Deferred.ofValue, Sem.run_bind, Sem.run_pure, Result.andThen_ok, invoke]
    simp [callFunc_ok hf]
  obtain ⟨k1, k2⟩ := lkAll_get hk
  have hidx : ∀ {i : Nat} {x : Nat × OO}, ow[i]? = some x → ∃ k, ks[i]? = some k ∧ lk k s.own = some x := fun {i x} e => by
    have hi : i < ks.length := by
      rcases Nat.lt_or_ge i ow.length with q | q
      · omega
      · rw [List.getElem?_eq_none q] at e; cases e
    obtain ⟨x', e1, e2⟩ := k2 i ks[i] (by rw [List.getElem?_eq_getElem hi])
    rw [e] at e1; cases e1
    exact ⟨ks[i], by rw [List.getElem?_eq_getElem hi], e2⟩
  have hnd : ∀ (ks : List Nat), noDup ks = true → ∀ (i j k : Nat), ks[i]? = some k → ks[j]? = some k → i = j := by
    intro ks
    induction ks with
    | nil => intro _ i j k h; simp at h
    | cons x ks ih =>
      intro h i j k hi hj
      simp only [noDup, Bool.and_eq_true, Bool.not_eq_true', List.contains_eq_mem, decide_eq_false_iff_not] at h
      cases i <;> cases j
      · rfl
      · simp at hi hj; subst hi; exact absurd (List.mem_of_getElem? hj) h.1
      · simp at hi hj; subst hj; exact absurd (List.mem_of_getElem? hi) h.1
      · simp at hi hj; rw [ih h.2 _ _ k hi hj]
  refine K_enter rfl hrun ((hc w hS.mem.has ⟨fun i b o e => ?_, fun i j b b' o o' g e e' q q' => ?_⟩).mono ?_)
  · obtain ⟨k, _, e2⟩ := hidx e
    obtain ⟨q1, q2⟩ := hS.mem.own _ _ _ e2
    exact ⟨q1, fun g hg => (q2 g hg).1⟩
  · obtain ⟨k, e1, e2⟩ := hidx e
    obtain ⟨k', e1', e2'⟩ := hidx e'
    have := hS.mem.inj _ _ _ _ _ _ g e2 e2' q q'
    subst this
    exact hnd ks hn i j k e1 e1'
  · rintro e w' ⟨v, G', ow', rfl, q1, q2, q3, q4, q5, q6, q7, q8, hφ⟩
    have hm := hS.mem.lentM hk hn hks q1 q2 q3 q4 q5 q6 q7 q8
    have hle : Le s.G G' := fun b o e => by rw [q4 b (lt_of_heap (hS.mem.has b o e))]; exact e
    refine ⟨v, rfl, ?_⟩
    have := hS.put hd (rv v) hm
    rw [rv_den] at this
    exact h v G' ow' hle hφ _ _ this
end
section
variable {C : Ctx} {K : List KI} {s : St} {R : Array Oper} {l : List Oper} {d : Option Tmp} {t : TypeId} {pos : String} {aft : Array Edge}
theorem go_gundef {op : Op} {j g : Nat} {want : Bool} (hj : (R[j]?).bind (·.dst) = some g) (hd : dOk C.nt d = true) (hu : lk g s.sl = some (.v undef))
    (h2 : SGo C (.ops R l :: K) ⟨putS d (.v undef) s.sl, s.own, s.G, s.df⟩) : SGo C (.ops R (⟨d, op, t, pos, aft, some (j, want)⟩ :: l) :: K) s := by
  intro a w hS
  have hy : yielded R a.tmps j = none := by
    have := hS.sl g _ hu
    simp [yielded, hj, this, SV.den, undef]
  simp only [wpK, wpListIn, Region.wanted, hy]
  have := h2 _ _ (hS.put hd (.v undef) hS.mem)
  simp only [wpK] at this
  rw [if_neg (by simp)]
  exact ⟨fun _ _ => trivial, this⟩
end
end Go.Sx
namespace Go.Sx
set_option linter.unusedSimpArgs false
set_option linter.unusedVariables false
open Go.RowKit
section
variable {C : Ctx} {K : List KI} {s : St} {R : Array Oper} {l : List Oper} {d : Option Tmp} {t : TypeId} {pos : String} {aft : Array Edge}
theorem go_append0 (k : Nat) {x y : Operand} {T e : TypeId} {te : TI} {sz by' : Nat} {ze : List Value} {fl : List (Nat × Nat × Bool)} {b n m : Nat} {v : Value} {xs news : List Value} {z : SV} {vx : SV}
    (hd : dOk C.nt d = true) (hT : C.ty T = some ⟨.slice e, sz, by', ze, fl⟩) (he : C.ty e = some te) (hsz : 0 < te.size) (hx : ev s.sl x = some vx) (hvx : vx.den = v) (hk : lk k s.own = some (b, .row v e te.size n xs))
    (hy : ev s.sl y = some z) (hsrc : Src C s z m news) (hl : news.length = m * te.size) (h1 : ∀ u ∈ news, u.oneCell' = true) (h63 : n + m ≤ 9223372036854775807) (hbytes : (n + m) * te.bytes ≤ 140737488355328)
    (h : ∀ v', SGo C (.ops R l :: K) ⟨putS d (.v v') s.sl, stk k (b, .row v' e te.size (n + m) (xs ++ news)) s.own, s.G, s.df⟩) :
    SGo C (.ops R (⟨d, .call ⟨.builtin .append, #[x, y], #[T, T]⟩, t, pos, aft, none⟩ :: l) :: K) s := by
  intro a w hS
  have hxv := ev_ok hS.sl hx
  have hyv := ev_ok hS.sl hy
  rw [hvx] at hxv
  obtain ⟨ad, c, hz, hnews⟩ := hsrc w hS.mem
  rw [hz] at hyv
  have g1 := (C.tyok _ _ hT).k
  simp only [TK.fits] at g1
  obtain ⟨f1, f2⟩ := hS.mem.own _ _ _ hk
  simp only [OO.holds] at f1
  obtain ⟨v', w', hr, k1, k2, k3⟩ := append_row (P := C.P) (w := w) 0 T t e g1 (C.tyok _ _ he) hsz v n xs f1 ad m c news hl hnews h1 h63 hbytes (Nat.zero_le _)
  have hrun : (execOp a.eval ⟨d, .call ⟨.builtin .append, #[x, y], #[T, T]⟩, t, pos, aft, none⟩).run C.P w = .ok (.value v') w' := by
    simp only [execOp, resolve, invoke, builtin, Sem.run_bind, Sem.run_pure, Result.andThen_ok, List.map_toArray, List.map_cons, List.map_nil, hxv, hyv, hr]
  have hm' : Mem C (stk k (b, .row v' e te.size (n + m) (xs ++ news)) s.own) s.G w' :=
    hS.mem.put hk k2.os k2.tape k2.output k2.size (fun j hj hne => k2.block j hj (fun q => hne q.symm)) k1 (fun g => ⟨fun hg => k3 g hg, fun hg => k3 g hg⟩)
  refine K_value rfl hrun ?_
  have := h v' _ _ (hS.put hd (.v v') hm')
  simpa only [SV.den] using this
end
end Go.Sx
namespace Go.Sx
set_option linter.unusedSimpArgs false
set_option linter.unusedVariables false
open Go.RowKit
section
variable {C : Ctx} {K : List KI} {s : St} {R : Array Oper} {l : List Oper} {d : Option Tmp} {t : TypeId} {pos : String} {aft : Array Edge}
end
end Go.Sx
namespace Go.Sx
set_option linter.unusedSimpArgs false
set_option linter.unusedVariables false
open Go.RowKit

structure Rw where
  e : TypeId
  size : Nat
  v : Value
  n : Nat
  xs : List Value
def Rw.nil (e : TypeId) (size : Nat) : Rw := ⟨e, size, .slice none 0 0, 0, []⟩

theorem ownsRow_same {w w' : World} {base : Nat} {e : TypeId} {size n : Nat} {v : Value} {xs : List Value} (h : w.ownsRow base e size v n xs) (hs : ∀ g, v.ownBlock = some g → w'.heap[g]? = w.heap[g]?) : w'.ownsRow base e size v n xs := by
  refine ⟨h.1, ?_⟩
  rcases h.2 with h2 | ⟨g, cap, cur, rfl, hb, hg, rest⟩
  · exact .inl h2
  · exact .inr ⟨g, cap, cur, rfl, hb, by rw [hs g rfl]; exact hg, rest⟩
theorem ownsRow_nil (w : World) (e : TypeId) (size : Nat) : w.ownsRow 0 e size (.slice none 0 0) 0 [] := ⟨by simp, .inl ⟨rfl, rfl⟩⟩

def ZR (rs : List Rw) : Zn where
  A Z M w := (∀ (i : Nat) (r : Rw), rs[i]? = some r → w.ownsRow 0 r.e r.size r.v r.n r.xs) ∧ (∀ (i j : Nat) (r r' : Rw) (g : Nat), rs[i]? = some r → rs[j]? = some r' → r.v.ownBlock = some g → r'.v.ownBlock = some g → i = j) ∧
    (∀ g, Z g ↔ ∃ (i : Nat) (r : Rw), rs[i]? = some r ∧ r.v.ownBlock = some g) ∧ (∀ g, M g → Z g)
  lt Z M w h g hg := by
    obtain ⟨i, r, e, hb⟩ := (h.2.2.1 g).1 hg
    exact ((h.1 i r e).lt g hb).2
  sub Z M w h := h.2.2.2
  st Z M w w' h _ hs := ⟨fun i r e => ownsRow_same (h.1 i r e) fun g hg => hs g ((h.2.2.1 g).2 ⟨i, r, e, hg⟩), h.2⟩

def RowAt (G : Hp) (r : Rw) : Prop := (r.v = .slice none 0 0 ∧ r.n = 0 ∧ r.xs = []) ∨ ∃ g cap, r.v = .slice (some ⟨g, 0, none⟩) r.n cap ∧ At G g 0 r.xs
theorem RowAt.mono {G G' : Hp} {r : Rw} (h : RowAt G r) (hl : Le G G') : RowAt G' r := by
  rcases h with h | ⟨g, cap, h1, h2⟩
  · exact .inl h
  · exact .inr ⟨g, cap, h1, h2.mono hl⟩
theorem RowAt.S {α : Type} {G : Hp} {rp : Rp α} {e : TypeId} {size n : Nat} {v : Value} {xs : List Value} {ts : List α} (h : RowAt G ⟨e, size, v, n, xs⟩) (hn : n = ts.length) (h63 : n ≤ 9223372036854775807) (hL : rp.L G ts xs) : rp.S G ts v := by
  subst hn
  rcases h with ⟨h1, h2, h3⟩ | ⟨g, cap, h1, h2⟩
  · simp only at h1 h2
    subst h1
    have := List.length_eq_zero_iff.1 h2
    subst this
    exact Rp.S_nil _ _
  · simp only at h1 h2
    subst h1
    exact ⟨h63, _, _, rfl, .inr ⟨_, _, _, rfl, h2, hL⟩⟩
theorem row_at {w : World} {G : Hp} {r : Rw} (h : w.ownsRow 0 r.e r.size r.v r.n r.xs) (hG : ∀ g, r.v.ownBlock = some g → G g = w.heap[g]?) : RowAt G r := by
  obtain ⟨e, size, v, n, xs⟩ := r
  simp only at h hG
  rcases h.2 with ⟨h1, h2⟩ | ⟨g, cap, cur, rfl, rest⟩
  · refine .inl ⟨h1, h2, ?_⟩
    have := h.1
    simp only at this ⊢
    exact List.eq_nil_of_length_eq_zero (by rw [this, h2]; simp)
  · obtain ⟨x, hx, hat⟩ := row_block h
    exact .inr ⟨g, cap, rfl, hat G (by rw [hG g rfl]; exact hx)⟩

section
variable {C : Ctx} {K : List KI} {s : St} {R : Array Oper} {l : List Oper} {d : Option Tmp} {t : TypeId} {pos : String} {aft : Array Edge} {v : Value}

theorem Mem.split {own : Owns} {G : Hp} {w : World} (h : Mem C own G w) {k j b b1 b2 : Nat} {o o1 o2 : OO} (hk : lk k own = some (b, o)) (hj : lk j own = none) (hmk : C.mh ≤ k) (hmj : C.mh ≤ j)
    (h1 : o1.holds C.w0.heap.size w b1) (h2 : o2.holds C.w0.heap.size w b2) (hb1 : ∀ g, o1.blks b1 g → o.blks b g) (hb2 : ∀ g, o2.blks b2 g → o.blks b g) (hd : ∀ g, o1.blks b1 g → o2.blks b2 g → False)
    (hm1 : ∀ g, o1.mut b1 g → o.mut b g) (hm2 : ∀ g, o2.mut b2 g → o.mut b g) : Mem C (stk j (b2, o2) (stk k (b1, o1) own)) G w := by
  obtain ⟨_, f⟩ := h.own _ _ _ hk
  have hkj : k ≠ j := by rintro rfl; rw [hj] at hk; cases hk
  have hl : ∀ {i c x}, lk i (stk j (b2, o2) (stk k (b1, o1) own)) = some (c, x) → (i = j ∧ c = b2 ∧ x = o2) ∨ (i = k ∧ c = b1 ∧ x = o1) ∨ (i ≠ j ∧ i ≠ k ∧ lk i own = some (c, x)) := by
    intro i c x e
    rw [lk_stk] at e
    split at e
    · cases e; exact .inl ⟨by assumption, rfl, rfl⟩
    · rw [lk_stk] at e
      split at e
      · cases e; exact .inr (.inl ⟨by assumption, rfl, rfl⟩)
      · exact .inr (.inr ⟨by assumption, by assumption, e⟩)
  refine ⟨fun i c x e => ?_, fun i i' c c' x x' g e e' q q' => ?_, h.grow⟩
  · rcases hl e with ⟨rfl, rfl, rfl⟩ | ⟨rfl, rfl, rfl⟩ | ⟨_, _, e⟩
    · refine ⟨h2, fun g hg => ?_⟩
      obtain ⟨f1, f2, _⟩ := f g (hm2 g hg)
      exact ⟨f1, fun _ => f2 hmk, fun q => by omega⟩
    · exact ⟨h1, fun g hg => f g (hm1 g hg)⟩
    · exact h.own _ _ _ e
  · rcases hl e with ⟨rfl, rfl, rfl⟩ | ⟨rfl, rfl, rfl⟩ | ⟨n1, n2, e0⟩ <;> rcases hl e' with ⟨e1, e2, e3⟩ | ⟨e1, e2, e3⟩ | ⟨n3, n4, e0'⟩
    · exact e1.symm
    · subst e1 e2 e3; exact (hd g q' q).elim
    · exact absurd (h.inj _ _ _ _ _ _ g e0' hk q' (hb2 g q)) n4
    · subst e1 e2 e3; exact (hd g q q').elim
    · exact e1.symm
    · exact absurd (h.inj _ _ _ _ _ _ g e0' hk q' (hb1 g q)) n4
    · subst e1 e2 e3; exact absurd (h.inj _ _ _ _ _ _ g e0 hk q (hb2 g q')) n2
    · subst e1 e2 e3; exact absurd (h.inj _ _ _ _ _ _ g e0 hk q (hb1 g q')) n2
    · exact h.inj _ _ _ _ _ _ g e0 e0' q q'

theorem Mem.join {own : Owns} {G : Hp} {w : World} (h : Mem C own G w) {k j b b1 b2 : Nat} {o o1 o2 : OO} (hk : lk k own = some (b1, o1)) (hj : lk j own = some (b2, o2)) (hmk : C.mh ≤ k) (hmj : C.mh ≤ j) (hkj : k ≠ j)
    (ho : o.holds C.w0.heap.size w b) (hb : ∀ g, o.blks b g → o1.blks b1 g ∨ o2.blks b2 g) (hm : ∀ g, o.mut b g → o1.mut b1 g ∨ o2.mut b2 g) : Mem C (stk k (b, o) (rmk j own)) G w := by
  obtain ⟨_, f1⟩ := h.own _ _ _ hk
  obtain ⟨_, f2⟩ := h.own _ _ _ hj
  have hl : ∀ {i c x}, lk i (stk k (b, o) (rmk j own)) = some (c, x) → (i = k ∧ c = b ∧ x = o) ∨ (i ≠ k ∧ i ≠ j ∧ lk i own = some (c, x)) := by
    intro i c x e
    rw [lk_stk] at e
    split at e
    · cases e; exact .inl ⟨by assumption, rfl, rfl⟩
    · rw [lk_rmk] at e
      split at e
      · cases e
      · exact .inr ⟨by assumption, by assumption, e⟩
  refine ⟨fun i c x e => ?_, fun i i' c c' x x' g e e' q q' => ?_, h.grow⟩
  · rcases hl e with ⟨rfl, rfl, rfl⟩ | ⟨_, _, e⟩
    · refine ⟨ho, fun g hg => ?_⟩
      rcases hm g hg with q | q
      · exact f1 g q
      · obtain ⟨q1, q2, _⟩ := f2 g q
        exact ⟨q1, fun _ => q2 hmj, fun q => by omega⟩
    · exact h.own _ _ _ e
  · have key : ∀ {i c x}, i ≠ k → i ≠ j → lk i own = some (c, x) → x.blks c g → o.blks b g → False := by
      intro i c x n1 n2 e q q'
      rcases hb g q' with q2 | q2
      · exact n1 (h.inj _ _ _ _ _ _ g e hk q q2)
      · exact n2 (h.inj _ _ _ _ _ _ g e hj q q2)
    rcases hl e with ⟨rfl, rfl, rfl⟩ | ⟨n1, n2, e0⟩ <;> rcases hl e' with ⟨e1, e2, e3⟩ | ⟨n3, n4, e0'⟩
    · exact e1.symm
    · exact (key n3 n4 e0' q' q).elim
    · subst e1 e2 e3; exact (key n1 n2 e0 q q').elim
    · exact h.inj _ _ _ _ _ _ g e0 e0' q q'

theorem go_ztake (k j i : Nat) {b : Nat} {rs : List Rw} {Z : Nat → Prop} {r : Rw} (hk : lk k s.own = some (b, .z (ZR rs) Z Z)) (hi : rs[i]? = some r) (hj : lk j s.own = none) (hmk : C.mh ≤ k) (hmj : C.mh ≤ j)
    (h : ∀ Z', SGo C K ⟨s.sl, stk j (0, .row r.v r.e r.size r.n r.xs) (stk k (b, .z (ZR (rs.set i (Rw.nil r.e r.size))) Z' Z') s.own), s.G, s.df⟩) : SGo C K s := by
  intro a w hS
  obtain ⟨z1, z2, z3, z4⟩ := (hS.mem.own _ _ _ hk).1
  have hlt : i < rs.length := (List.getElem?_eq_some_iff.1 hi).1
  have hget : ∀ {m r'}, (rs.set i (Rw.nil r.e r.size))[m]? = some r' → (m = i ∧ r' = Rw.nil r.e r.size) ∨ (m ≠ i ∧ rs[m]? = some r') := by
    intro m r' e
    by_cases q : i = m
    · subst q; rw [List.getElem?_set_self hlt] at e; cases e; exact .inl ⟨rfl, rfl⟩
    · rw [List.getElem?_set_ne q] at e; exact .inr ⟨fun q' => q q'.symm, e⟩
  refine h (fun g => Z g ∧ r.v.ownBlock ≠ some g) a w ⟨hS.sl, hS.nt, hS.df, hS.mem.split hk hj hmk hmj ?_ (z1 i r hi) (fun g hg => hg.1) (fun g hg => (z3 g).2 ⟨i, r, hi, hg⟩) (fun g hg hg' => hg.2 hg') (fun g hg => hg.1) (fun g hg => (z3 g).2 ⟨i, r, hi, hg⟩)⟩
  refine ⟨fun m r' e => ?_, fun m m' r1 r2 g e e' q q' => ?_, fun g => ⟨fun hg => ?_, fun hg => ?_⟩, fun g hg => hg⟩
  · rcases hget e with ⟨_, rfl⟩ | ⟨_, e⟩
    · exact ownsRow_nil _ _ _
    · exact z1 m r' e
  · rcases hget e with ⟨_, rfl⟩ | ⟨n1, e⟩
    · cases q
    · rcases hget e' with ⟨_, rfl⟩ | ⟨n2, e'⟩
      · cases q'
      · exact z2 m m' r1 r2 g e e' q q'
  · obtain ⟨m, r', e, q⟩ := (z3 g).1 hg.1
    have hm : m ≠ i := by rintro rfl; rw [hi] at e; cases e; exact hg.2 q
    exact ⟨m, r', by rw [List.getElem?_set, if_neg (Ne.symm hm)]; exact e, q⟩
  · obtain ⟨m, r', e, q⟩ := hg
    rcases hget e with ⟨_, rfl⟩ | ⟨n1, e⟩
    · cases q
    · exact ⟨(z3 g).2 ⟨m, r', e, q⟩, fun q' => n1 (z2 m i r' r g e hi q q')⟩

theorem zput {rs : List Rw} {Z : Nat → Prop} {w : World} (hz : (ZR rs).A Z Z w) {i : Nat} {r : Rw} (hr : w.ownsRow 0 r.e r.size r.v r.n r.xs) (hdis : ∀ g, Z g → r.v.ownBlock ≠ some g) {rs' : List Rw}
    (hget : ∀ {m r'}, rs'[m]? = some r' → (m = i ∧ r' = r) ∨ (m ≠ i ∧ rs[m]? = some r')) (hold : ∀ {m r'}, rs[m]? = some r' → m ≠ i ∨ r'.v.ownBlock = none) (hin : rs'[i]? = some r) (hkeep : ∀ {m r'}, m ≠ i → rs[m]? = some r' → rs'[m]? = some r') :
    (ZR rs').A (fun g => Z g ∨ r.v.ownBlock = some g) (fun g => Z g ∨ r.v.ownBlock = some g) w := by
  obtain ⟨z1, z2, z3, z4⟩ := hz
  refine ⟨fun m r' e => ?_, fun m m' r1 r2 g e e' q q' => ?_, fun g => ⟨fun hg => ?_, fun hg => ?_⟩, fun g hg => hg⟩
  · rcases hget e with ⟨_, rfl⟩ | ⟨_, e⟩
    · exact hr
    · exact z1 m r' e
  · rcases hget e with ⟨e1, rfl⟩ | ⟨n1, e⟩ <;> rcases hget e' with ⟨e1', e2'⟩ | ⟨n2, e'⟩
    · omega
    · exact absurd q (hdis g ((z3 g).2 ⟨_, _, e', q'⟩))
    · subst e2'; exact absurd q' (hdis g ((z3 g).2 ⟨_, _, e, q⟩))
    · exact z2 m m' r1 r2 g e e' q q'
  · rcases hg with hg | hg
    · obtain ⟨m, r', e, q⟩ := (z3 g).1 hg
      rcases hold e with n | n
      · exact ⟨m, r', hkeep n e, q⟩
      · rw [n] at q; cases q
    · exact ⟨i, r, hin, hg⟩
  · obtain ⟨m, r', e, q⟩ := hg
    rcases hget e with ⟨_, rfl⟩ | ⟨_, e⟩
    · exact .inr q
    · exact .inl ((z3 g).2 ⟨m, r', e, q⟩)

theorem go_zadd (k j : Nat) {b b2 size n : Nat} {e : TypeId} {xs : List Value} {rs : List Rw} {Z : Nat → Prop} {u : Value} (hk : lk k s.own = some (b, .z (ZR rs) Z Z)) (hj : lk j s.own = some (b2, .row u e size n xs)) (hmk : C.mh ≤ k) (hmj : C.mh ≤ j) (hkj : k ≠ j)
    (h : ∀ Z', SGo C K ⟨s.sl, stk k (b, .z (ZR (rs ++ [⟨e, size, u, n, xs⟩])) Z' Z') (rmk j s.own), s.G, s.df⟩) : SGo C K s := by
  intro a w hS
  have hz := (hS.mem.own _ _ _ hk).1
  have hrow := (hS.mem.own _ _ _ hj).1
  have hdis : ∀ g, Z g → u.ownBlock ≠ some g := fun g hg q => hkj (hS.mem.inj _ _ _ _ _ _ g hk hj hg q)
  refine h _ a w ⟨hS.sl, hS.nt, hS.df, hS.mem.join hk hj hmk hmj hkj (zput (i := rs.length) (r := ⟨e, size, u, n, xs⟩) hz hrow hdis ?_ ?_ ?_ ?_) (fun g hg => hg) (fun g hg => hg)⟩
  · intro m r' e'
    rcases Nat.lt_or_ge m rs.length with q | q
    · rw [List.getElem?_append_left q] at e'; exact .inr ⟨by omega, e'⟩
    · rw [List.getElem?_append_right q] at e'
      cases hm : m - rs.length with
      | zero => rw [hm] at e'; simp at e'; exact .inl ⟨by omega, e'.symm⟩
      | succ x => rw [hm] at e'; simp at e'
  · intro m r' e'
    have := (List.getElem?_eq_some_iff.1 e').1
    exact .inl (by omega)
  · simp
  · intro m r' hm e'
    rw [List.getElem?_append_left (List.getElem?_eq_some_iff.1 e').1]; exact e'

theorem go_znil (k : Nat) (hk : lk k s.own = none) (hmk : C.mh ≤ k) (h : ∀ Z, SGo C K ⟨s.sl, stk k (0, .z (ZR []) Z Z) s.own, s.G, s.df⟩) : SGo C K s := by
  intro a w hS
  refine h (fun _ => False) a w ⟨hS.sl, hS.nt, hS.df, hS.mem.new hk hmk rfl rfl rfl (Nat.le_refl _) (fun _ _ => rfl) ?_ (fun g hg => hg.elim)⟩
  exact ⟨fun i r e => by simp at e, fun i j r r' g e => by simp at e, fun g => ⟨fun q => q.elim, fun ⟨i, r, e, _⟩ => by simp at e⟩, fun g q => q⟩

def RetV (w : World) (G : Hp) (φ : Value → Hp → List Rw → Prop) : Ending → World → Prop :=
  fun e w' => ∃ v G' rs Z, e = .returned v ∧ Grow [] w G w' G' ∧ (ZR rs).A Z Z w' ∧ (∀ g, Z g → G' g = none ∧ w.heap.size ≤ g) ∧ φ v G' rs
def PureV (P : Program) (f : FuncId) (args : List Value) (G : Hp) (φ : Value → Hp → List Rw → Prop) : Prop :=
  ∀ w, Has w G → Calls P f args.toArray w (RetV w G φ)
theorem enterV {P : Program} {f : FuncId} {fn : Func} {G : Hp} {φ : Value → Hp → List Rw → Prop} (ty : TypeId → Option TI) (tyok : ∀ T i, ty T = some i → i.ok P T) {nt : Nat}
    (hf : P.funcs[f]? = some fn) (hb : fn.body.isSome = true) (hn : fn.ntmps = nt) (svs : List SV) (hargs : svs.length ≤ nt)
    (h : ∀ C : Ctx, C.P = P → C.Q = bodyPost C.P fn (RetV C.w0 C.G0 φ) → C.nt = nt → C.ty = ty → C.mb = [] → C.mh = 0 → C.ro = none → SGo C [.code (fn.body.getD .skip)] ⟨enumS 0 svs, [], G, []⟩) : PureV P f (dens svs) G φ := by
  intro w hw
  refine calls_of_wp hf (body_eq hb) ((wpIn_wide (n := 0)).1 ?_)
  have := h ⟨P, bodyPost P fn (RetV w G φ), nt, ty, tyok, w, G, [], 0, none⟩ rfl rfl rfl rfl rfl rfl rfl { tmps := (dens svs).toArray ++ Array.replicate (fn.ntmps - (dens svs).toArray.size) undef, defers := [] } w
    ⟨slots_args _ _ _ (fun i x e => by have := (lk_enumS svs 0 i x e).2; simpa using this), by simp [hn, dens_eq]; omega, rfl, ⟨fun _ _ _ e => by simp [lk] at e, fun _ _ _ _ _ _ _ e => by simp [lk] at e, Grow.refl hw⟩⟩
  simp only [wpK] at this
  exact this
theorem x_retV (k : Nat) {kc : Code} (ht : tag kc = 7) {fn : Func} {φ : Value → Hp → List Rw → Prop} (hQ : C.Q = bodyPost C.P fn (RetV C.w0 C.G0 φ)) (hmb : C.mb = []) (hmh : C.mh = 0) {r : ResultVar} {rs : List ResultVar} (hrs : fn.results.toList = r :: rs) {xs : List SV}
    (hr : resAll s.sl C.ty s.own (r :: rs) = some xs) (hdf : s.df = []) {b : Nat} {ws : List Rw} {Z : Nat → Prop} (hk : lk k s.own = some (b, .z (ZR ws) Z Z)) (h : φ (resV xs).den s.G ws) (hnb : noBr K = true := by rfl) : SGo C (.code kc :: K) s := by
  intro a w hS
  cases kc <;> simp [tag] at ht
  · rename_i a b c; cases c <;> simp at ht
  refine wpIn_ret ?_
  rw [wpK_ret _ _ _ hnb, hQ]
  obtain ⟨g1, g2⟩ := hS.mem.own _ _ _ hk
  have hg := hS.mem.grow
  rw [hmb] at hg
  refine ⟨by rw [hS.df, hdf], _, results_ok hS (by rw [hrs]; exact hr), _, _, ws, Z, rfl, hg, g1, fun g hb => ?_, h⟩
  obtain ⟨q1, q2, _⟩ := g2 g hb
  exact ⟨q1, q2 (by omega)⟩
theorem go_callV (k : Nat) {f : FuncId} {args : Array Operand} {tys : Array TypeId} {vs : List SV} {φ : Value → Hp → List Rw → Prop} (hd : dOk C.nt d = true) (hf : canCall C.P f = true) (ha : evs s.sl args.toList = some vs)
    (hk : lk k s.own = none) (hmh : C.mh ≤ k) (hc : PureV C.P f (dens vs) s.G φ)
    (h : ∀ v G' rs Z, Le s.G G' → φ v G' rs → SGo C (.ops R l :: K) ⟨putS d (rv v) s.sl, stk k (0, .z (ZR rs) Z Z) s.own, G', s.df⟩) : SGo C (.ops R (⟨d, .call ⟨.value (.func f), args, tys⟩, t, pos, aft, none⟩ :: l) :: K) s := by
  intro a w hS
  have hargs : args.map a.eval = (dens vs).toArray := by apply Array.ext'; rw [Array.toList_map]; exact evs_ok hS.sl ha
  have hrun : (execOp a.eval ⟨d, .call ⟨.value (.func f), args, tys⟩, t, pos, aft, none⟩).run C.P w = .ok (.enter f (dens vs).toArray) w := by
    simp only [execOp, resolve, hargs, Act.eval, Deferred.ofValue, Sem.run_bind, Sem.run_pure, Result.andThen_ok, invoke]
    simp [callFunc_ok hf]
  refine K_enter rfl hrun ((hc w hS.mem.has).mono ?_)
  rintro e w' ⟨v, G', rs, Z, rfl, hg, hz, hb, hφ⟩
  have hle : Le s.G G' := fun b o e => hg.keep hS.mem.has e
  have hm := hS.mem.call hg
  have hm' : Mem C (stk k (0, .z (ZR rs) Z Z) s.own) G' w' := by
    refine ⟨fun j c x e => ?_, fun j j' c c' x x' g e e' f f' => ?_, hm.grow⟩
    · rw [lk_stk] at e
      split at e
      · rename_i hj; subst hj; cases e
        refine ⟨hz, fun g hg' => ?_⟩
        obtain ⟨b1, b2⟩ := hb g hg'
        exact ⟨b1, fun _ => Nat.le_trans hS.mem.grow.size b2, fun q => by omega⟩
      · exact hm.own _ _ _ e
    · have key : ∀ {j c x}, lk j s.own = some (c, x) → x.blks c g → Z g → False := by
        intro j c x e f f'
        have := hS.mem.lt e f
        have := (hb g f').2
        omega
      rw [lk_stk] at e e'
      split at e <;> split at e'
      · omega
      · cases e; exact (key e' f' f).elim
      · cases e'; exact (key e f f').elim
      · exact hm.inj _ _ _ _ _ _ _ e e' f f'
  have hS' := hS.put hd (rv v) hm'
  rw [rv_den] at hS'
  exact ⟨_, rfl, h v G' rs Z hle hφ _ _ hS'⟩
end
end Go.Sx
namespace Go.Sx
set_option linter.unusedSimpArgs false
set_option linter.unusedVariables false
open Go.RowKit
section
variable {C : Ctx} {sl : List (Nat × SV)} {own : Owns} {G : Hp}
end
end Go.Sx
namespace Go.Sx
set_option linter.unusedSimpArgs false
set_option linter.unusedVariables false
open Go.RowKit
section
variable {C : Ctx} {sl : List (Nat × SV)} {own : Owns} {G : Hp}
theorem quiet_indexA {T e : TypeId} {x ix : Operand} {te : TI} {len sz by' : Nat} {ze : List Value} {fl : List (Nat × Nat × Bool)} {b off : Nat} {k : IntKind} {n : Int} {y : SV}
    (hT : C.ty T = some ⟨.arr len e, sz, by', ze, fl⟩) (he : C.ty e = some te) (hx : ev sl x = some y) (hy : y.den = .pointer (some ⟨b, off, none⟩)) (hi : ev sl ix = some (.v (.int k n))) (h0 : 0 ≤ n) (h1 : n < (len : Int)) :
    Quiet C sl own G (.indexAddr T x ix) (.pointer (some ⟨b, off + n.toNat * te.size, none⟩)) := by
  intro a w d t pos aft g hs hh
  have hxv := ev_ok hs hx
  have hiv := ev_ok hs hi
  rw [hy] at hxv
  simp only [SV.den] at hiv
  have g1 := (C.tyok _ _ hT).k
  simp only [TK.fits] at g1
  simp only [execOp, hxv, hiv]
  rw [Sem.run_bind, indexAt_array g1 (C.tyok _ _ he) h0 h1]
  simp
end
end Go.Sx
namespace Go.Sx
set_option linter.unusedSimpArgs false
set_option linter.unusedVariables false
open Go.RowKit

abbrev MEs := List (Int × Value × Nat)
def mEnt (kd : IntKind) (x : Int × Value × Nat) : MapEntry := ⟨.int kd x.1, x.2.1, x.2.2⟩
def mObj (kd : IntKind) (l : MEs) (c : Nat) : Obj := .map (l.map (mEnt kd)).toArray c
def mget (k : Int) : MEs → Option Value
  | [] => none
  | x :: l => if x.1 = k then some x.2.1 else mget k l
def mput (k : Int) (v : Value) (c : Nat) : MEs → MEs
  | [] => [(k, v, c)]
  | x :: l => if x.1 = k then (k, v, x.2.2) :: l else x :: mput k v c l
def mclk (k : Int) (c : Nat) (l : MEs) : Nat := if (mget k l).isSome then c else c + 1

theorem findNow_none {q kd : IntKind} {k : Int} : ∀ {l : MEs} (i : Nat), mget k l = none → Instr.findNow (.int q) (.int kd k) (l.map (mEnt kd)) i = some none
  | [], i, _ => by simp [Instr.findNow]
  | x :: l, i, h => by
    simp only [mget] at h
    split at h
    · cases h
    · rename_i hne
      have : (k == x.1) = false := by simp; omega
      simp only [List.map_cons, Instr.findNow, mEnt, Instr.sameNow, if_true, this]
      exact findNow_none (i + 1) h
theorem findNow_some {q kd : IntKind} {k : Int} {v : Value} : ∀ {l : MEs} (i : Nat), mget k l = some v → ∃ j b, Instr.findNow (.int q) (.int kd k) (l.map (mEnt kd)) i = some (some (i + j, v)) ∧ l[j]? = some (k, v, b) ∧ ∀ v' c, mput k v' c l = l.modify j fun x => (k, v', x.2.2)
  | [], i, h => by simp [mget] at h
  | x :: l, i, h => by
    simp only [mget] at h
    split at h
    · rename_i he
      cases h
      refine ⟨0, x.2.2, ?_, ?_, fun v' c => ?_⟩
      · have : (k == x.1) = true := by simp [he]
        simp only [List.map_cons, Instr.findNow, mEnt, Instr.sameNow, if_true, this, Nat.add_zero]
      · simp [← he]
      · simp [mput, he]
    · rename_i hne
      obtain ⟨j, b, h1, h2, h3⟩ := findNow_some (l := l) (q := q) (kd := kd) (i + 1) h
      refine ⟨j + 1, b, ?_, by simpa using h2, fun v' c => ?_⟩
      · have : (k == x.1) = false := by simp; omega
        simp only [List.map_cons, Instr.findNow, mEnt, Instr.sameNow, if_true, this]
        rw [show i + (j + 1) = i + 1 + j by omega]
        exact h1
      · simp [mput, hne, h3 v' c]

section
variable {P : Program} {w : World} {q kd : IntKind} {K E T : TypeId} {b c : Nat} {l : MEs} {z : Value} {k : Int}
theorem run_checkKey' (hK : P.underlying K = some (.int q)) (e : Bool) (d : Nat) (k : Int) : (Instr.checkKey e (d + 1) K (.int kd k)).run P w = .ok () w := by
  simp only [Instr.checkKey, Sem.run_bind, run_und w hK, Result.andThen_ok]
  simp
theorem run_checkKey (hK : P.underlying K = some (.int q)) (e : Bool) (k : Int) : (Instr.checkKey e 10000 K (.int kd k)).run P w = .ok () w := run_checkKey' hK e 9999 k
theorem run_mlookup (hT : P.underlying T = some (.map K E)) (hK : P.underlying K = some (.int q)) (hz : ∃ x, P.info? E = some x ∧ x.zero = some z) (hb : w.heap[b]? = some (mObj kd l c)) (k : Int) (ok : Bool) :
    (Instr.lookup T (.map (some b)) (.int kd k) ok).run P w = .ok (if ok then .tuple #[(mget k l).getD z, .bool (mget k l).isSome] else (mget k l).getD z) w := by
  obtain ⟨x, hx1, hx2⟩ := hz
  have hz' : (zeroValue E).run P w = .ok z w := by simp [zeroValue, typeInfo, hx1, hx2]
  simp only [Instr.lookup, Sem.run_bind, run_und w hT, Result.andThen_ok, Go.MapKept.run_getObj_map (show w.heap[b]? = some (.map (l.map (mEnt kd)).toArray c) from hb), Sem.run_pure, run_checkKey hK, Instr.findKey, run_und w hK]
  cases hm : mget k l with
  | none =>
    simp only [findNow_none (q := q) (kd := kd) 0 hm, Sem.run_pure, Result.andThen_ok, Sem.run_bind, hz']
    cases ok <;> simp
  | some v =>
    obtain ⟨j, b', h1, _, _⟩ := findNow_some (q := q) (kd := kd) 0 hm
    simp only [h1, Sem.run_pure, Result.andThen_ok]
    cases ok <;> simp
theorem mEnt_modify (l : MEs) (j : Nat) (k : Int) (v : Value) : (l.map (mEnt kd)).toArray.modify j (fun e => { e with key := .int kd k, val := v }) = ((l.modify j fun x => (k, v, x.2.2)).map (mEnt kd)).toArray := by
  apply Array.ext'
  simp only [Array.toList_modify]
  apply List.ext_getElem?
  intro i
  simp only [List.getElem?_modify, List.getElem?_map]
  by_cases h : j = i
  · subst h; cases l[j]? <;> simp [mEnt]
  · simp [h]
theorem mput_none {v : Value} : ∀ {l : MEs}, mget k l = none → mput k v c l = l ++ [(k, v, c)]
  | [], _ => rfl
  | x :: l, h => by
    simp only [mget] at h
    split at h
    · cases h
    · rename_i hne; simp [mput, hne, mput_none h]
theorem run_mupdate (hT : P.underlying T = some (.map K E)) (hK : P.underlying K = some (.int q)) (hb : w.heap[b]? = some (mObj kd l c)) (k : Int) (v : Value) :
    (Instr.mapUpdate T (.map (some b)) (.int kd k) v).run P w = .ok () (setBlk w b (mObj kd (mput k v c l) (mclk k c l))) := by
  have hb' : w.heap[b]? = some (.map (l.map (mEnt kd)).toArray c) := hb
  simp only [Instr.mapUpdate, Sem.run_bind, run_und w hT, Result.andThen_ok, Go.MapKept.run_getObj_map hb', run_checkKey hK, Instr.findKey, run_und w hK]
  cases hm : mget k l with
  | none =>
    simp only [findNow_none (q := q) (kd := kd) 0 hm, Sem.run_pure, Result.andThen_ok, Go.MapKept.run_setObj_map _ hb', mclk, hm, Option.isSome_none, Bool.false_eq_true, if_false, mput_none hm]
    simp [setBlk, mObj, mEnt]
  | some v0 =>
    obtain ⟨j, b', h1, h2, h3⟩ := findNow_some (q := q) (kd := kd) 0 hm
    have hkey : (((l.map (mEnt kd)).toArray[0 + j]?).map (·.key)).getD (.int kd k) = .int kd k := by
      rw [Nat.zero_add]; simp [h2, mEnt]
    have hsb : Instr.sameBits 10000 (.int kd k) (.int kd k) = true := by simp [Instr.sameBits]
    simp only [h1, Sem.run_pure, Result.andThen_ok, Sem.run_bind, hkey, Instr.keyThatStays, hsb, if_true, Go.MapKept.run_setObj_map _ hb', mclk, hm, Option.isSome_some, h3]
    rw [Nat.zero_add, mEnt_modify]
    rfl
end

section
variable {C : Ctx} {K : List KI} {s : St} {sl : List (Nat × SV)} {own : Owns} {G : Hp} {R : Array Oper} {l : List Oper} {d : Option Tmp} {t : TypeId} {pos : String} {aft : Array Edge} {sz by' sz2 by2 : Nat} {ze ze2 : List Value} {fl fl2 : List (Nat × Nat × Bool)} {q kd : IntKind} {T KT E : TypeId} {x i : Operand} {b b' c : Nat} {es : MEs} {n : Int} {z : Value}
theorem quiet_lookup (k : Nat) {ok : Bool} (hT : C.ty T = some ⟨.map KT E, sz, by', ze, fl⟩) (hK : C.ty KT = some ⟨.int q, sz2, by2, ze2, fl2⟩) (hz : ∃ x, C.P.info? E = some x ∧ x.zero = some z) (hx : ev sl x = some (.v (.map (some b)))) (hi : ev sl i = some (.v (.int kd n))) (hk : lk k own = some (b, .o (mObj kd es c))) :
    Quiet C sl own G (.lookup T x i ok) (if ok then .tuple #[(mget n es).getD z, .bool (mget n es).isSome] else (mget n es).getD z) := by
  intro a w d t pos aft g hs hh
  have hxv := ev_ok hs hx
  have hiv := ev_ok hs hi
  simp only [SV.den] at hxv hiv
  have h1 := (C.tyok _ _ hT).k
  have h2 := (C.tyok _ _ hK).k
  simp only [TK.fits] at h1 h2
  have hb := hh.1 _ _ _ hk
  simp only [OO.holds] at hb
  simp only [execOp, hxv, hiv, Sem.run_bind, run_mlookup h1 h2 hz hb, Result.andThen_ok, Sem.run_pure]
theorem quiet_lookupG {ok : Bool} (hT : C.ty T = some ⟨.map KT E, sz, by', ze, fl⟩) (hK : C.ty KT = some ⟨.int q, sz2, by2, ze2, fl2⟩) (hz : ∃ x, C.P.info? E = some x ∧ x.zero = some z) (hx : ev sl x = some (.v (.map (some b)))) (hi : ev sl i = some (.v (.int kd n))) (hk : G b = some (mObj kd es c)) :
    Quiet C sl own G (.lookup T x i ok) (if ok then .tuple #[(mget n es).getD z, .bool (mget n es).isSome] else (mget n es).getD z) := by
  intro a w d t pos aft g hs hh
  have hxv := ev_ok hs hx
  have hiv := ev_ok hs hi
  simp only [SV.den] at hxv hiv
  have h1 := (C.tyok _ _ hT).k
  have h2 := (C.tyok _ _ hK).k
  simp only [TK.fits] at h1 h2
  have hb := hh.2 _ _ hk
  simp only [execOp, hxv, hiv, Sem.run_bind, run_mlookup h1 h2 hz hb, Result.andThen_ok, Sem.run_pure]
theorem go_mupd (k : Nat) {y : Operand} {v : SV} {op : Op} (hop : op = .mapUpdate T x i y ∨ op = .insert T x i y) (hd : dOk C.nt d = true) (hT : C.ty T = some ⟨.map KT E, sz, by', ze, fl⟩) (hK : C.ty KT = some ⟨.int q, sz2, by2, ze2, fl2⟩) (hx : ev s.sl x = some (.v (.map (some b)))) (hi : ev s.sl i = some (.v (.int kd n))) (hy : ev s.sl y = some v) (hk : lk k s.own = some (b, .o (mObj kd es c)))
    (h : SGo C (.ops R l :: K) ⟨putS d (.v undef) s.sl, stk k (b, .o (mObj kd (mput n v.den c es) (mclk n c es))) s.own, s.G, s.df⟩) : SGo C (.ops R (⟨d, op, t, pos, aft, none⟩ :: l) :: K) s := by
  intro a w hS
  have hxv := ev_ok hS.sl hx
  have hiv := ev_ok hS.sl hi
  have hyv := ev_ok hS.sl hy
  simp only [SV.den] at hxv hiv
  have h1 := (C.tyok _ _ hT).k
  have h2 := (C.tyok _ _ hK).k
  simp only [TK.fits] at h1 h2
  have hb := (hS.mem.own _ _ _ hk).1
  simp only [OO.holds] at hb
  have hrun : (execOp a.eval ⟨d, op, t, pos, aft, none⟩).run C.P w = .ok .skip (setBlk w b (mObj kd (mput n v.den c es) (mclk n c es))) := by
    rcases hop with rfl | rfl <;> simp only [execOp, hxv, hiv, hyv, Sem.run_bind, run_mupdate h1 h2 hb, Result.andThen_ok, Sem.run_pure]
  refine K_skip rfl hrun ?_
  have hlt := lt_of_heap hb
  have hm : Mem C (stk k (b, .o (mObj kd (mput n v.den c es) (mclk n c es))) s.own) s.G (setBlk w b (mObj kd (mput n v.den c es) (mclk n c es))) :=
    hS.mem.put hk rfl rfl rfl (by rw [setBlk_size]; exact Nat.le_refl _) (fun j _ hj => setBlk_ne (fun e => hj e) _) (setBlk_same hlt _) (fun g => ⟨.inl, .inl⟩)
  have hS' := hS.put hd (.v undef) hm
  simp only [SV.den] at hS'
  exact h _ _ hS'
theorem go_mkmap (k : Nat) (kd : IntKind) (hd : dOk C.nt d = true) (hk : lk k s.own = none) (hmh : C.mh ≤ k)
    (h : ∀ g, SGo C (.ops R l :: K) ⟨putS d (.v (.map (some g))) s.sl, stk k (g, .o (mObj kd [] 0)) s.own, s.G, s.df⟩) : SGo C (.ops R (⟨d, .makeMap T none, t, pos, aft, none⟩ :: l) :: K) s := by
  intro a w hS
  have hrun : (execOp a.eval ⟨d, .makeMap T none, t, pos, aft, none⟩).run C.P w = .ok (.value (.map (some w.heap.size))) (w.alloc (.map #[] 0)) := by
    simp [execOp, Instr.makeMap]
  refine K_value rfl hrun ?_
  have hm : Mem C (stk k (w.heap.size, .o (mObj kd [] 0)) s.own) s.G (w.alloc (.map #[] 0)) :=
    hS.mem.new hk hmh rfl rfl rfl (by simp) (fun j hj => alloc_old w _ hj) (alloc_new w _) (fun g hg => by simp only [OO.blks] at hg; omega)
  have hS' := hS.put hd (.v (.map (some w.heap.size))) hm
  simp only [SV.den] at hS'
  exact h _ _ _ hS'
end
end Go.Sx
namespace Go.Proofs.Ytpmmbjcgabnloaa
set_option linter.unusedSimpArgs false
set_option linter.unusedVariables false
open Go.Sx

def tyL : List (Nat × TI) := [
  (3, ⟨.int .i64, 1, 8, [.int .i64 0], []⟩),
  (2, ⟨.int .i64, 1, 8, [.int .i64 0], []⟩),
  (4, ⟨.bool, 1, 1, [.bool false], []⟩),
  (5, ⟨.int .u8, 1, 1, [.int .u8 0], []⟩),
  (102, ⟨.int .u64, 1, 8, [.int .u64 0], []⟩),
  (9, ⟨.str, 1, 16, [.string ByteArray.empty], []⟩),
  (25, ⟨.int .i64, 1, 8, [.int .i64 0], []⟩),
  (32, ⟨.int .i64, 1, 8, [.int .i64 0], []⟩),
  (49, ⟨.int .i64, 1, 8, [.int .i64 0], []⟩),
  (26, ⟨.slice 28, 1, 24, [.slice none 0 0], []⟩),
  (28, ⟨.strct, 3, 40, [.int .i64 0, .int .i64 0, .slice none 0 0], [(0, 1, false), (1, 1, false), (2, 1, false)]⟩),
  (57, ⟨.slice 3, 1, 24, [.slice none 0 0], []⟩),
  (42, ⟨.slice 55, 1, 24, [.slice none 0 0], []⟩),
  (55, ⟨.strct, 4, 48, [.int .i64 0, .int .i64 0, .slice none 0 0, .int .i64 0], [(0, 3, true), (3, 1, false)]⟩),
  (44, ⟨.strct, 2, 48, [.slice none 0 0, .slice none 0 0], [(0, 1, false), (1, 1, false)]⟩),
  (22, ⟨.slice 30, 1, 24, [.slice none 0 0], []⟩),
  (30, ⟨.strct, 5, 56, [.int .i64 0, .int .i64 0, .int .i64 0, .int .i64 0, .slice none 0 0], [(0, 1, false), (1, 1, false), (2, 3, true)]⟩),
  (31, ⟨.slice 40, 1, 24, [.slice none 0 0], []⟩),
  (40, ⟨.strct, 11, 120, [.int .i64 0, .int .i64 0, .int .i64 0, .int .i64 0, .slice none 0 0, .int .i64 0, .int .i64 0, .slice none 0 0, .int .i64 0, .int .i64 0, .bool false], [(0, 1, false), (1, 1, false), (2, 3, true), (5, 3, true), (8, 1, false), (9, 1, false), (10, 1, false)]⟩),
  (81, ⟨.strct, 12, 128, [.int .i64 0, .int .i64 0, .int .i64 0, .int .i64 0, .slice none 0 0, .int .i64 0, .int .i64 0, .slice none 0 0, .int .i64 0, .int .i64 0, .bool false, .bool false], [(0, 11, true), (11, 1, false)]⟩),
  (89, ⟨.strct, 4, 32, [.int .i64 0, .int .i64 0, .bool false, .nilFunc], [(0, 1, false), (1, 1, false), (2, 1, false), (3, 1, false)]⟩),
  (117, ⟨.strct, 1, 8, [.int .i64 0], [(0, 1, false)]⟩),
  (107, ⟨.strct, 3, 56, [.slice none 0 0, .slice none 0 0, .int .u64 0], [(0, 2, true), (2, 1, false)]⟩),
  (20, ⟨.iface, 1, 16, [.nilIface], []⟩),
  (78, ⟨.map 3 3, 1, 8, [.map none], []⟩),
  (121, ⟨.map 2 4, 1, 8, [.map none], []⟩),
  (91, ⟨.map 49 89, 1, 8, [.map none], []⟩),
  (103, ⟨.arr 8 102, 8, 64, [.int .u64 0, .int .u64 0, .int .u64 0, .int .u64 0, .int .u64 0, .int .u64 0, .int .u64 0, .int .u64 0], []⟩),
  (113, ⟨.arr 5 9, 5, 80, [.string ByteArray.empty, .string ByteArray.empty, .string ByteArray.empty, .string ByteArray.empty, .string ByteArray.empty], []⟩),
  (114, ⟨.slice 9, 1, 24, [.slice none 0 0], []⟩),
  (69, ⟨.func, 1, 8, [.nilFunc], []⟩),
  (87, ⟨.func, 1, 8, [.nilFunc], []⟩),
  (115, ⟨.func, 1, 8, [.nilFunc], []⟩),
  (96, ⟨.ptr 44, 1, 8, [.pointer none], []⟩),
  (77, ⟨.ptr 32, 1, 8, [.pointer none], []⟩)]

def ty (T : TypeId) : Option TI := lk T tyL

theorem tyE : ty 3 = some ⟨.int .i64, 1, 8, [.int .i64 0], []⟩ ∧ ty 2 = some ⟨.int .i64, 1, 8, [.int .i64 0], []⟩ ∧ ty 4 = some ⟨.bool, 1, 1, [.bool false], []⟩ ∧ ty 5 = some ⟨.int .u8, 1, 1, [.int .u8 0], []⟩ ∧ ty 102 = some ⟨.int .u64, 1, 8, [.int .u64 0], []⟩ ∧ ty 9 = some ⟨.str, 1, 16, [.string ByteArray.empty], []⟩ ∧ ty 25 = some ⟨.int .i64, 1, 8, [.int .i64 0], []⟩ ∧ ty 32 = some ⟨.int .i64, 1, 8, [.int .i64 0], []⟩ ∧ ty 49 = some ⟨.int .i64, 1, 8, [.int .i64 0], []⟩ ∧ ty 26 = some ⟨.slice 28, 1, 24, [.slice none 0 0], []⟩ ∧ ty 28 = some ⟨.strct, 3, 40, [.int .i64 0, .int .i64 0, .slice none 0 0], [(0, 1, false), (1, 1, false), (2, 1, false)]⟩ ∧ ty 57 = some ⟨.slice 3, 1, 24, [.slice none 0 0], []⟩ ∧ ty 42 = some ⟨.slice 55, 1, 24, [.slice none 0 0], []⟩ ∧ ty 55 = some ⟨.strct, 4, 48, [.int .i64 0, .int .i64 0, .slice none 0 0, .int .i64 0], [(0, 3, true), (3, 1, false)]⟩ ∧ ty 44 = some ⟨.strct, 2, 48, [.slice none 0 0, .slice none 0 0], [(0, 1, false), (1, 1, false)]⟩ ∧ ty 22 = some ⟨.slice 30, 1, 24, [.slice none 0 0], []⟩ ∧ ty 30 = some ⟨.strct, 5, 56, [.int .i64 0, .int .i64 0, .int .i64 0, .int .i64 0, .slice none 0 0], [(0, 1, false), (1, 1, false), (2, 3, true)]⟩ ∧ ty 31 = some ⟨.slice 40, 1, 24, [.slice none 0 0], []⟩ ∧ ty 40 = some ⟨.strct, 11, 120, [.int .i64 0, .int .i64 0, .int .i64 0, .int .i64 0, .slice none 0 0, .int .i64 0, .int .i64 0, .slice none 0 0, .int .i64 0, .int .i64 0, .bool false], [(0, 1, false), (1, 1, false), (2, 3, true), (5, 3, true), (8, 1, false), (9, 1, false), (10, 1, false)]⟩ ∧ ty 81 = some ⟨.strct, 12, 128, [.int .i64 0, .int .i64 0, .int .i64 0, .int .i64 0, .slice none 0 0, .int .i64 0, .int .i64 0, .slice none 0 0, .int .i64 0, .int .i64 0, .bool false, .bool false], [(0, 11, true), (11, 1, false)]⟩ ∧ ty 89 = some ⟨.strct, 4, 32, [.int .i64 0, .int .i64 0, .bool false, .nilFunc], [(0, 1, false), (1, 1, false), (2, 1, false), (3, 1, false)]⟩ ∧ ty 117 = some ⟨.strct, 1, 8, [.int .i64 0], [(0, 1, false)]⟩ ∧ ty 107 = some ⟨.strct, 3, 56, [.slice none 0 0, .slice none 0 0, .int .u64 0], [(0, 2, true), (2, 1, false)]⟩ ∧ ty 20 = some ⟨.iface, 1, 16, [.nilIface], []⟩ ∧ ty 78 = some ⟨.map 3 3, 1, 8, [.map none], []⟩ ∧ ty 121 = some ⟨.map 2 4, 1, 8, [.map none], []⟩ ∧ ty 91 = some ⟨.map 49 89, 1, 8, [.map none], []⟩ ∧ ty 103 = some ⟨.arr 8 102, 8, 64, [.int .u64 0, .int .u64 0, .int .u64 0, .int .u64 0, .int .u64 0, .int .u64 0, .int .u64 0, .int .u64 0], []⟩ ∧ ty 113 = some ⟨.arr 5 9, 5, 80, [.string ByteArray.empty, .string ByteArray.empty, .string ByteArray.empty, .string ByteArray.empty, .string ByteArray.empty], []⟩ ∧ ty 114 = some ⟨.slice 9, 1, 24, [.slice none 0 0], []⟩ ∧ ty 69 = some ⟨.func, 1, 8, [.nilFunc], []⟩ ∧ ty 87 = some ⟨.func, 1, 8, [.nilFunc], []⟩ ∧ ty 115 = some ⟨.func, 1, 8, [.nilFunc], []⟩ ∧ ty 96 = some ⟨.ptr 44, 1, 8, [.pointer none], []⟩ ∧ ty 77 = some ⟨.ptr 32, 1, 8, [.pointer none], []⟩ := ⟨rfl, rfl, rfl, rfl, rfl, rfl, rfl, rfl, rfl, rfl, rfl, rfl, rfl, rfl, rfl, rfl, rfl, rfl, rfl, rfl, rfl, rfl, rfl, rfl, rfl, rfl, rfl, rfl, rfl, rfl, rfl, rfl, rfl, rfl, rfl⟩

theorem lk_memT {α : Type} {i : Nat} {x : α} : ∀ {l : List (Nat × α)}, lk i l = some x → (i, x) ∈ l
  | [], h => by simp [lk] at h
  | y :: l, h => by
    simp only [lk] at h
    split at h
    · rename_i e; cases h; subst e; simp
    · exact List.mem_cons_of_mem _ (lk_memT h)

theorem tyok : ∀ T i, ty T = some i → i.ok Try.prog T := by
  intro T i h
  have key : ∀ x ∈ tyL, TI.ok Try.prog x.1 x.2 := by
    unfold tyL
    refine List.forall_mem_cons.2 ⟨⟨⟨_, _, (by kernel_rfl : Try.prog.info? 3 = some Try.t3), rfl, rfl, rfl, rfl⟩, rfl, Try.underlying3⟩, ?_⟩
    refine List.forall_mem_cons.2 ⟨⟨⟨_, _, (by kernel_rfl : Try.prog.info? 2 = some Try.t2), rfl, rfl, rfl, rfl⟩, rfl, Try.underlying2⟩, ?_⟩
    refine List.forall_mem_cons.2 ⟨⟨⟨_, _, (by kernel_rfl : Try.prog.info? 4 = some Try.t4), rfl, rfl, rfl, rfl⟩, rfl, Try.underlying4⟩, ?_⟩
    refine List.forall_mem_cons.2 ⟨⟨⟨_, _, (by kernel_rfl : Try.prog.info? 5 = some Try.t5), rfl, rfl, rfl, rfl⟩, rfl, Try.underlying5⟩, ?_⟩
    refine List.forall_mem_cons.2 ⟨⟨⟨_, _, (by kernel_rfl : Try.prog.info? 102 = some Try.t102), rfl, rfl, rfl, rfl⟩, rfl, Try.underlying102⟩, ?_⟩
    refine List.forall_mem_cons.2 ⟨⟨⟨_, _, (by kernel_rfl : Try.prog.info? 9 = some Try.t9), rfl, rfl, rfl, rfl⟩, rfl, Try.underlying9⟩, ?_⟩
    refine List.forall_mem_cons.2 ⟨⟨⟨_, _, (by kernel_rfl : Try.prog.info? 25 = some Try.t25), rfl, rfl, rfl, rfl⟩, rfl, Try.underlying25⟩, ?_⟩
    refine List.forall_mem_cons.2 ⟨⟨⟨_, _, (by kernel_rfl : Try.prog.info? 32 = some Try.t32), rfl, rfl, rfl, rfl⟩, rfl, Try.underlying32⟩, ?_⟩
    refine List.forall_mem_cons.2 ⟨⟨⟨_, _, (by kernel_rfl : Try.prog.info? 49 = some Try.t49), rfl, rfl, rfl, rfl⟩, rfl, Try.underlying49⟩, ?_⟩
    refine List.forall_mem_cons.2 ⟨⟨⟨_, _, (by kernel_rfl : Try.prog.info? 26 = some Try.t26), rfl, rfl, rfl, rfl⟩, rfl, Try.underlying26⟩, ?_⟩
    refine List.forall_mem_cons.2 ⟨⟨⟨_, _, (by kernel_rfl : Try.prog.info? 28 = some Try.t28), rfl, rfl, rfl, rfl⟩, rfl, ⟨_, Try.underlying28, (by kernel_rfl)⟩⟩, ?_⟩
    refine List.forall_mem_cons.2 ⟨⟨⟨_, _, (by kernel_rfl : Try.prog.info? 57 = some Try.t57), rfl, rfl, rfl, rfl⟩, rfl, Try.underlying57⟩, ?_⟩
    refine List.forall_mem_cons.2 ⟨⟨⟨_, _, (by kernel_rfl : Try.prog.info? 42 = some Try.t42), rfl, rfl, rfl, rfl⟩, rfl, Try.underlying42⟩, ?_⟩
    refine List.forall_mem_cons.2 ⟨⟨⟨_, _, (by kernel_rfl : Try.prog.info? 55 = some Try.t55), rfl, rfl, rfl, rfl⟩, rfl, ⟨_, Try.underlying55, (by kernel_rfl)⟩⟩, ?_⟩
    refine List.forall_mem_cons.2 ⟨⟨⟨_, _, (by kernel_rfl : Try.prog.info? 44 = some Try.t44), rfl, rfl, rfl, rfl⟩, rfl, ⟨_, Try.underlying44, (by kernel_rfl)⟩⟩, ?_⟩
    refine List.forall_mem_cons.2 ⟨⟨⟨_, _, (by kernel_rfl : Try.prog.info? 22 = some Try.t22), rfl, rfl, rfl, rfl⟩, rfl, Try.underlying22⟩, ?_⟩
    refine List.forall_mem_cons.2 ⟨⟨⟨_, _, (by kernel_rfl : Try.prog.info? 30 = some Try.t30), rfl, rfl, rfl, rfl⟩, rfl, ⟨_, Try.underlying30, (by kernel_rfl)⟩⟩, ?_⟩
    refine List.forall_mem_cons.2 ⟨⟨⟨_, _, (by kernel_rfl : Try.prog.info? 31 = some Try.t31), rfl, rfl, rfl, rfl⟩, rfl, Try.underlying31⟩, ?_⟩
    refine List.forall_mem_cons.2 ⟨⟨⟨_, _, (by kernel_rfl : Try.prog.info? 40 = some Try.t40), rfl, rfl, rfl, rfl⟩, rfl, ⟨_, Try.underlying40, (by kernel_rfl)⟩⟩, ?_⟩
    refine List.forall_mem_cons.2 ⟨⟨⟨_, _, (by kernel_rfl : Try.prog.info? 81 = some Try.t81), rfl, rfl, rfl, rfl⟩, rfl, ⟨_, Try.underlying81, (by kernel_rfl)⟩⟩, ?_⟩
    refine List.forall_mem_cons.2 ⟨⟨⟨_, _, (by kernel_rfl : Try.prog.info? 89 = some Try.t89), rfl, rfl, rfl, rfl⟩, rfl, ⟨_, Try.underlying89, (by kernel_rfl)⟩⟩, ?_⟩
    refine List.forall_mem_cons.2 ⟨⟨⟨_, _, (by kernel_rfl : Try.prog.info? 117 = some Try.t117), rfl, rfl, rfl, rfl⟩, rfl, ⟨_, Try.underlying117, (by kernel_rfl)⟩⟩, ?_⟩
    refine List.forall_mem_cons.2 ⟨⟨⟨_, _, (by kernel_rfl : Try.prog.info? 107 = some Try.t107), rfl, rfl, rfl, rfl⟩, rfl, ⟨_, Try.underlying107, (by kernel_rfl)⟩⟩, ?_⟩
    refine List.forall_mem_cons.2 ⟨⟨⟨_, _, (by kernel_rfl : Try.prog.info? 20 = some Try.t20), rfl, rfl, rfl, rfl⟩, rfl, ⟨_, Try.underlying20⟩⟩, ?_⟩
    refine List.forall_mem_cons.2 ⟨⟨⟨_, _, (by kernel_rfl : Try.prog.info? 78 = some Try.t78), rfl, rfl, rfl, rfl⟩, rfl, Try.underlying78⟩, ?_⟩
    refine List.forall_mem_cons.2 ⟨⟨⟨_, _, (by kernel_rfl : Try.prog.info? 121 = some Try.t121), rfl, rfl, rfl, rfl⟩, rfl, Try.underlying121⟩, ?_⟩
    refine List.forall_mem_cons.2 ⟨⟨⟨_, _, (by kernel_rfl : Try.prog.info? 91 = some Try.t91), rfl, rfl, rfl, rfl⟩, rfl, Try.underlying91⟩, ?_⟩
    refine List.forall_mem_cons.2 ⟨⟨⟨_, _, (by kernel_rfl : Try.prog.info? 103 = some Try.t103), rfl, rfl, rfl, rfl⟩, rfl, Try.underlying103⟩, ?_⟩
    refine List.forall_mem_cons.2 ⟨⟨⟨_, _, (by kernel_rfl : Try.prog.info? 113 = some Try.t113), rfl, rfl, rfl, rfl⟩, rfl, Try.underlying113⟩, ?_⟩
    refine List.forall_mem_cons.2 ⟨⟨⟨_, _, (by kernel_rfl : Try.prog.info? 114 = some Try.t114), rfl, rfl, rfl, rfl⟩, rfl, Try.underlying114⟩, ?_⟩
    refine List.forall_mem_cons.2 ⟨⟨⟨_, _, (by kernel_rfl : Try.prog.info? 69 = some Try.t69), rfl, rfl, rfl, rfl⟩, rfl, ⟨_, _, _, Try.underlying69⟩⟩, ?_⟩
    refine List.forall_mem_cons.2 ⟨⟨⟨_, _, (by kernel_rfl : Try.prog.info? 87 = some Try.t87), rfl, rfl, rfl, rfl⟩, rfl, ⟨_, _, _, Try.underlying87⟩⟩, ?_⟩
    refine List.forall_mem_cons.2 ⟨⟨⟨_, _, (by kernel_rfl : Try.prog.info? 115 = some Try.t115), rfl, rfl, rfl, rfl⟩, rfl, ⟨_, _, _, Try.underlying115⟩⟩, ?_⟩
    refine List.forall_mem_cons.2 ⟨⟨⟨_, _, (by kernel_rfl : Try.prog.info? 96 = some Try.t96), rfl, rfl, rfl, rfl⟩, rfl, Try.underlying96⟩, ?_⟩
    refine List.forall_mem_cons.2 ⟨⟨⟨_, _, (by kernel_rfl : Try.prog.info? 77 = some Try.t77), rfl, rfl, rfl, rfl⟩, rfl, Try.underlying77⟩, ?_⟩
    exact fun _ h => absurd h List.not_mem_nil
  exact key _ (lk_memT h)

theorem wr {n : Int} (h1 : -9223372036854775808 ≤ n) (h2 : n ≤ 9223372036854775807) : IntKind.i64.wrap n = n := Go.IntWalk.i64_in n ⟨h1, h2⟩
end Go.Proofs.Ytpmmbjcgabnloaa
namespace Go.Proofs.Ytpmmbjcgabnloaa
set_option linter.unusedSimpArgs false
set_option linter.unusedVariables false
open Go.Sx

mutual
def cnt : VT → Int → Int
  | .mk _ _ l, n => cntL l (n + 1)
def cntL : List VT → Int → Int
  | [], n => n
  | x :: l, n => if n > 256 then n else cntL l (cnt x n)
end

mutual
theorem cnt_bd : ∀ (x : VT) (n : Int), 0 ≤ n → n ≤ 256 → 0 ≤ cnt x n ∧ cnt x n ≤ 257
  | .mk _ _ l, n, h0, h1 => by simp only [cnt]; exact cntL_bd l (n + 1) (by omega) (by omega)
theorem cntL_bd : ∀ (l : List VT) (n : Int), 0 ≤ n → n ≤ 257 → 0 ≤ cntL l n ∧ cntL l n ≤ 257
  | [], n, h0, h1 => by simp only [cntL]; omega
  | x :: l, n, h0, h1 => by
    simp only [cntL]
    split
    · omega
    · have := cnt_bd x n h0 (by omega)
      exact cntL_bd l _ this.1 this.2
end

set_option maxHeartbeats 1000000 in
theorem count_ok (x : VT) : ∀ (sl : Value) (n : Int) (G : Hp) (hr : x.rep G sl) (h0 : 0 ≤ n) (h1 : n ≤ 256), Pure Try.prog 77 [.agg #[.int .i64 x.k, .int .i64 x.n, sl], .int .i64 n] G (fun r _ => r = .int .i64 (cnt x n)) := by
  induction x using VT.ind with
  | h k m l IH =>
  intro sl n G hr h0 h1
  refine enterX ty tyok Try.func77 rfl Try.ntmps77 [.a [.v (.int .i64 k), .v (.int .i64 m), .v sl], .v (.int .i64 n)] (by simp) ?_
  intro C hP hQ hnt hty hmb hmh hro; have hQp := qp_body hQ; refine st_ ?_
  rw [rep_iff] at hr
  obtain ⟨hk, hm, hl, ad, cap, rfl, hr⟩ := hr
  refine rn_ ?_; intros
  rw [wr (by omega) (by omega)]
  refine go_keep [1, 10, 11, 12] [] ?_
  refine st_ ?_
  refine x_loop rfl (fun q s => ∃ (j : Nat) (nj : Int) (G' : Hp), j ≤ l.length ∧ q = l.length - j ∧ Le G G' ∧ cntL l (n + 1) = cntL (l.drop j) nj ∧ 0 ≤ nj ∧ nj ≤ 257 ∧
    s = ⟨[(1, .v (.int .i64 nj)), (10, .v (.slice ad l.length cap)), (11, .v (.int .i64 l.length)), (12, .v (.int .i64 j))], [], G', []⟩) ⟨0, n + 1, G, by omega, rfl, Le.refl _, by simp, by omega, by omega, rfl⟩ ?_
  rintro q s ⟨j, nj, G', hj, hq, hle, hc, hn0, hn1, rfl⟩ ih
  refine rn_ ?_; intros
  refine x_if rfl rfl rfl rfl (fun ht => ?_) (fun ht => ?_)
  · have hlt : j < l.length := by simpa using ht
    rcases hr with rfl | ⟨b, off, cs, rfl, ha, hrV⟩
    · simp at hlt
    obtain ⟨adx, capx, hat, hrx⟩ := At_get ha hrV hlt
    have hdrop : l.drop j = l[j] :: l.drop (j + 1) := List.drop_eq_getElem_cons hlt
    refine rn_ ?_; intros
    refine go_q (by rw [hnt]; rfl) (quiet_index (by rw [hty]; rfl) (by rw [hty]; rfl) rfl rfl rfl (by omega) (by omega)) ?_
    refine go_q (by rw [hnt]; rfl) (quiet_load (by rw [hty]; rfl) rfl (by simp [TK.agg]) (hat.mono hle) rfl) ?_
    refine rn_ ?_; intros
    refine x_if rfl rfl rfl rfl (fun ht => ?_) (fun ht => ?_)
    · refine rn_ ?_; intros
      refine x_ret rfl hQ hmb (by rw [hty]; rfl) rfl ?_
      have : nj > 256 := by simpa using ht
      simp only [SV.den, resV, cnt, hc, hdrop, cntL, this, if_true]
    · have hle256 : nj ≤ 256 := by simpa using ht
      refine rn_ ?_; intros
      refine go_call (by rw [hnt]; rfl) (by rw [hP]; kernel_rfl) rfl (hP ▸ IH l[j] (List.getElem_mem hlt) _ nj G' (VT.rep_mono hle hrx) hn0 hle256) ?_
      rintro v G'' hle' rfl
      refine rn_ ?_; intros
      rw [wr (by omega) (by omega)]
      refine go_keep [1, 10, 11, 12] [] ?_
      refine st_ ?_
      have hb := cnt_bd l[j] nj hn0 hle256
      refine ih (l.length - (j + 1)) _ (by omega) ⟨j + 1, cnt l[j] nj, G'', by omega, rfl, hle.trans hle', ?_, hb.1, hb.2, by simp⟩
      rw [hc, hdrop]
      simp only [cntL, show ¬ nj > 256 by omega, if_false]
  · have hge : l.length ≤ j := by simpa using ht
    refine rn_ ?_; intros
    refine x_ret rfl hQ hmb (by rw [hty]; rfl) rfl ?_
    simp only [SV.den, resV, cnt, hc, List.drop_eq_nil_of_le hge, cntL]
end Go.Proofs.Ytpmmbjcgabnloaa
namespace Go.Proofs.Ytpmmbjcgabnloaa
set_option linter.unusedSimpArgs false
set_option linter.unusedVariables false
open Go.Sx

def evk (k : Int) : Bool := decide (5 ≤ k) && decide (k ≤ 13)

theorem event_ok (k : Int) (G : Hp) : Pure Try.prog 82 [.int .i64 k] G (fun r _ => r = .bool (evk k)) := by
  refine enterX ty tyok Try.func82 rfl Try.ntmps82 [.v (.int .i64 k)] (by simp) ?_
  intro C hP hQ hnt hty hmb hmh hro; have hQp := qp_body hQ; refine st_ ?_
  refine rn_ ?_; intros
  refine go_gsplit rfl rfl (fun hs => ?_) (fun hs => ?_) <;> (refine st_ ?_; (refine rn_ ?_; intros))
  all_goals (refine x_ret rfl hQ hmb (by rw [hty]; rfl) rfl ?_; simp only [SV.den, resV]; simp only [evk, hs, decide_true, decide_false, if_true, if_false, Bool.true_and, Bool.false_and, Bool.and_false, Bool.and_true, Bool.false_eq_true, Bool.true_eq_false, reduceIte])
def hdk : List VT → Int
  | [] => 0
  | x :: _ => x.k
def shp : VT → Bool
  | .mk k n l =>
    if k == 1 then n == 0 && (l.length : Int) == 0
    else if k == 8 then n == 0 && (l.length : Int) == 0
    else if k == 2 then (l.length : Int) == 0
    else if k == 3 then n == 0 && (l.length : Int) == 2
    else if k == 4 then decide (0 ≤ n) && (l.length : Int) == 0
    else if k == 13 then decide (0 ≤ n) && (l.length : Int) == 0
    else if k == 5 then n == 0 && (l.length : Int) == 2 && hdk l == 4
    else if k == 6 then n == 0 && (l.length : Int) == 1 && hdk l == 4
    else if k == 7 then n == 0 && (l.length : Int) == 1
    else if k == 9 then l.all (fun y => evk y.k) && (n == 0 && decide ((l.length : Int) ≤ 16))
    else if k == 10 then decide (0 ≤ n) && decide (n ≤ 63) && decide (1 ≤ (l.length : Int)) && decide ((l.length : Int) ≤ 9) && evk (hdk l)
    else if k == 11 then decide (0 ≤ n) && decide (n ≤ 63) && decide ((l.length : Int) ≤ 8)
    else if k == 12 then decide (0 ≤ n) && decide (n ≤ 63) && decide ((l.length : Int) ≤ 8)
    else false

theorem hdk_get {l : List VT} (h : 0 < l.length) : hdk l = l[0].k := by
  cases l with
  | nil => simp at h
  | cons x l => rfl

set_option maxHeartbeats 4000000 in
theorem shaped_ok (x : VT) (sl : Value) (G : Hp) (hr : x.rep G sl) : Pure Try.prog 80 [.agg #[.int .i64 x.k, .int .i64 x.n, sl]] G (fun r _ => r = .bool (shp x)) := by
  obtain ⟨k, m, l⟩ := x
  refine enterX ty tyok Try.func80 rfl Try.ntmps80 [.a [.v (.int .i64 k), .v (.int .i64 m), .v sl]] (by simp) ?_
  intro C hP hQ hnt hty hmb hmh hro; have hQp := qp_body hQ; refine st_ ?_
  rw [rep_iff] at hr
  obtain ⟨hk, hm, hl, ad, cap, rfl, hr⟩ := hr
  refine rn_ ?_; intros
  refine go_keep [1, 3, 10, 11] [0] ?_
  refine x_split rfl rfl rfl (fun h1 => ?_) (fun h1 => ?_) <;> (refine st_ ?_; (refine ru_ ?_; intros))
  · refine go_gsplit rfl rfl (fun g1 => ?_) (fun g1 => ?_) <;> (refine st_ ?_; (refine rn_ ?_; intros))
    all_goals (refine x_ret rfl hQ hmb (by rw [hty]; rfl) rfl ?_; simp only [SV.den, resV]; simp only [shp, decide_true, decide_false, if_true, if_false, Bool.true_and, Bool.false_and, Bool.and_false, Bool.and_true, Bool.false_eq_true, Bool.true_eq_false, reduceIte, h1, g1])
  refine x_split rfl rfl rfl (fun h8 => ?_) (fun h8 => ?_) <;> (refine st_ ?_; (refine ru_ ?_; intros))
  · refine go_gsplit rfl rfl (fun g1 => ?_) (fun g1 => ?_) <;> (refine st_ ?_; (refine rn_ ?_; intros))
    all_goals (refine x_ret rfl hQ hmb (by rw [hty]; rfl) rfl ?_; simp only [SV.den, resV]; simp only [shp, decide_true, decide_false, if_true, if_false, Bool.true_and, Bool.false_and, Bool.and_false, Bool.and_true, Bool.false_eq_true, Bool.true_eq_false, reduceIte, h1, h8, g1])
  refine go_keep [1, 3, 10, 21] [0] ?_
  refine x_split rfl rfl rfl (fun h2 => ?_) (fun h2 => ?_) <;> (refine st_ ?_; (refine ru_ ?_; intros))
  · (refine x_ret rfl hQ hmb (by rw [hty]; rfl) rfl ?_; simp only [SV.den, resV]; simp only [shp, decide_true, decide_false, if_true, if_false, Bool.true_and, Bool.false_and, Bool.and_false, Bool.and_true, Bool.false_eq_true, Bool.true_eq_false, reduceIte, h1, h8, h2])
  refine go_keep [1, 3, 10, 25] [0] ?_
  refine x_split rfl rfl rfl (fun h3 => ?_) (fun h3 => ?_) <;> (refine st_ ?_; (refine ru_ ?_; intros))
  · refine go_gsplit rfl rfl (fun g1 => ?_) (fun g1 => ?_) <;> (refine st_ ?_; (refine rn_ ?_; intros))
    all_goals (refine x_ret rfl hQ hmb (by rw [hty]; rfl) rfl ?_; simp only [SV.den, resV]; simp only [shp, decide_true, decide_false, if_true, if_false, Bool.true_and, Bool.false_and, Bool.and_false, Bool.and_true, Bool.false_eq_true, Bool.true_eq_false, reduceIte, h1, h8, h2, h3, g1])
  refine go_keep [1, 3, 10, 34] [0] ?_
  refine x_split rfl rfl rfl (fun h4 => ?_) (fun h4 => ?_) <;> (refine st_ ?_; (refine ru_ ?_; intros))
  · refine go_gsplit rfl rfl (fun g1 => ?_) (fun g1 => ?_) <;> (refine st_ ?_; (refine rn_ ?_; intros))
    all_goals (refine x_ret rfl hQ hmb (by rw [hty]; rfl) rfl ?_; simp only [SV.den, resV]; simp only [shp, decide_true, decide_false, if_true, if_false, Bool.true_and, Bool.false_and, Bool.and_false, Bool.and_true, Bool.false_eq_true, Bool.true_eq_false, reduceIte, h1, h8, h2, h3, h4, g1])
  refine x_split rfl rfl rfl (fun h13 => ?_) (fun h13 => ?_) <;> (refine st_ ?_; (refine ru_ ?_; intros))
  · refine go_gsplit rfl rfl (fun g1 => ?_) (fun g1 => ?_) <;> (refine st_ ?_; (refine rn_ ?_; intros))
    all_goals (refine x_ret rfl hQ hmb (by rw [hty]; rfl) rfl ?_; simp only [SV.den, resV]; simp only [shp, decide_true, decide_false, if_true, if_false, Bool.true_and, Bool.false_and, Bool.and_false, Bool.and_true, Bool.false_eq_true, Bool.true_eq_false, reduceIte, h1, h8, h2, h3, h4, h13, g1])
  refine go_keep [1, 3, 10, 44] [0] ?_
  refine x_split rfl rfl rfl (fun h5 => ?_) (fun h5 => ?_) <;> (refine st_ ?_; (refine ru_ ?_; intros))
  · refine go_gsplit rfl rfl (fun g1 => ?_) (fun g1 => ?_) <;> (refine st_ ?_; (refine rn_ ?_; intros))
    · refine go_gsplit rfl rfl (fun g2 => ?_) (fun g2 => ?_) <;> (refine st_ ?_; (refine rn_ ?_; intros))
      · have hlen : l.length = 2 := by simp at g2; omega
        rcases hr with rfl | ⟨b, off, cs, rfl, ha, hrV⟩
        · simp at hlen
        have hat := At_kind ha hrV (i := 0) (by omega)
        rw [← hdk_get (by omega)] at hat
        refine go_q (by rw [hnt]; rfl) (quiet_index (by rw [hty]; rfl) (by rw [hty]; rfl) rfl rfl rfl (by omega) (by omega)) ?_
        refine rn_ ?_; intros
        refine go_q (by rw [hnt]; rfl) (quiet_load (by rw [hty]; rfl) rfl (by simp [TK.agg]) hat rfl) ?_
        refine rn_ ?_; intros
        (refine x_ret rfl hQ hmb (by rw [hty]; rfl) rfl ?_; simp only [SV.den, resV]; simp only [shp, decide_true, decide_false, if_true, if_false, Bool.true_and, Bool.false_and, Bool.and_false, Bool.and_true, Bool.false_eq_true, Bool.true_eq_false, reduceIte, h1, h8, h2, h3, h4, h13, h5, g1, g2])
      · (refine x_ret rfl hQ hmb (by rw [hty]; rfl) rfl ?_; simp only [SV.den, resV]; simp only [shp, decide_true, decide_false, if_true, if_false, Bool.true_and, Bool.false_and, Bool.and_false, Bool.and_true, Bool.false_eq_true, Bool.true_eq_false, reduceIte, h1, h8, h2, h3, h4, h13, h5, g1, g2])
    · (refine x_ret rfl hQ hmb (by rw [hty]; rfl) rfl ?_; simp only [SV.den, resV]; simp only [shp, decide_true, decide_false, if_true, if_false, Bool.true_and, Bool.false_and, Bool.and_false, Bool.and_true, Bool.false_eq_true, Bool.true_eq_false, reduceIte, h1, h8, h2, h3, h4, h13, h5, g1])
  refine go_keep [1, 3, 10, 61] [0] ?_
  refine x_split rfl rfl rfl (fun h6 => ?_) (fun h6 => ?_) <;> (refine st_ ?_; (refine ru_ ?_; intros))
  · refine go_gsplit rfl rfl (fun g1 => ?_) (fun g1 => ?_) <;> (refine st_ ?_; (refine rn_ ?_; intros))
    · refine go_gsplit rfl rfl (fun g2 => ?_) (fun g2 => ?_) <;> (refine st_ ?_; (refine rn_ ?_; intros))
      · have hlen : l.length = 1 := by simp at g2; omega
        rcases hr with rfl | ⟨b, off, cs, rfl, ha, hrV⟩
        · simp at hlen
        have hat := At_kind ha hrV (i := 0) (by omega)
        rw [← hdk_get (by omega)] at hat
        refine go_q (by rw [hnt]; rfl) (quiet_index (by rw [hty]; rfl) (by rw [hty]; rfl) rfl rfl rfl (by omega) (by omega)) ?_
        refine rn_ ?_; intros
        refine go_q (by rw [hnt]; rfl) (quiet_load (by rw [hty]; rfl) rfl (by simp [TK.agg]) hat rfl) ?_
        refine rn_ ?_; intros
        (refine x_ret rfl hQ hmb (by rw [hty]; rfl) rfl ?_; simp only [SV.den, resV]; simp only [shp, decide_true, decide_false, if_true, if_false, Bool.true_and, Bool.false_and, Bool.and_false, Bool.and_true, Bool.false_eq_true, Bool.true_eq_false, reduceIte, h1, h8, h2, h3, h4, h13, h5, h6, g1, g2])
      · (refine x_ret rfl hQ hmb (by rw [hty]; rfl) rfl ?_; simp only [SV.den, resV]; simp only [shp, decide_true, decide_false, if_true, if_false, Bool.true_and, Bool.false_and, Bool.and_false, Bool.and_true, Bool.false_eq_true, Bool.true_eq_false, reduceIte, h1, h8, h2, h3, h4, h13, h5, h6, g1, g2])
    · (refine x_ret rfl hQ hmb (by rw [hty]; rfl) rfl ?_; simp only [SV.den, resV]; simp only [shp, decide_true, decide_false, if_true, if_false, Bool.true_and, Bool.false_and, Bool.and_false, Bool.and_true, Bool.false_eq_true, Bool.true_eq_false, reduceIte, h1, h8, h2, h3, h4, h13, h5, h6, g1])
  refine go_keep [1, 3, 10, 78] [0] ?_
  refine x_split rfl rfl rfl (fun h7 => ?_) (fun h7 => ?_) <;> (refine st_ ?_; (refine ru_ ?_; intros))
  · refine go_gsplit rfl rfl (fun g1 => ?_) (fun g1 => ?_) <;> (refine st_ ?_; (refine rn_ ?_; intros))
    all_goals (refine x_ret rfl hQ hmb (by rw [hty]; rfl) rfl ?_; simp only [SV.den, resV]; simp only [shp, decide_true, decide_false, if_true, if_false, Bool.true_and, Bool.false_and, Bool.and_false, Bool.and_true, Bool.false_eq_true, Bool.true_eq_false, reduceIte, h1, h8, h2, h3, h4, h13, h5, h6, h7, g1])
  refine go_keep [1, 3, 10, 87] [0] ?_
  refine x_split rfl rfl rfl (fun h9 => ?_) (fun h9 => ?_) <;> (refine st_ ?_; (refine ru_ ?_; intros))
  · refine go_keep [1, 3, 90, 91, 92] [0] ?_
    refine st_ ?_
    refine x_loop rfl (fun q s => ∃ (j : Nat) (G' : Hp), j ≤ l.length ∧ q = l.length - j ∧ Le G G' ∧ l.all (fun y => evk y.k) = (l.drop j).all (fun y => evk y.k) ∧
      ∃ b1, s = ⟨[(1, .p 0 b1 0), (3, .v (.int .i64 l.length)), (90, .v (.slice ad l.length cap)), (91, .v (.int .i64 l.length)), (92, .v (.int .i64 j))], [(0, b1, .c 28 [.v (.int .i64 k), .v (.int .i64 m), .v (.slice ad l.length cap)])], G', []⟩)
      ⟨0, G, by omega, rfl, Le.refl _, by simp, _, rfl⟩ ?_
    rintro q s ⟨j, G', hj, hq, hle, hall, b1, rfl⟩ ih
    refine rn_ ?_; intros
    refine x_if rfl rfl rfl rfl (fun ht => ?_) (fun ht => ?_)
    · have hlt : j < l.length := by simp at ht; omega
      rcases hr with rfl | ⟨b, off, cs, rfl, ha, hrV⟩
      · simp at hlt
      obtain ⟨adx, capx, hat, hrx⟩ := At_get ha hrV hlt
      have hdrop : l.drop j = l[j] :: l.drop (j + 1) := List.drop_eq_getElem_cons hlt
      refine rn_ ?_; intros
      refine go_q (by rw [hnt]; rfl) (quiet_index (by rw [hty]; rfl) (by rw [hty]; rfl) rfl rfl rfl (by omega) (by omega)) ?_
      refine go_q (by rw [hnt]; rfl) (quiet_load (by rw [hty]; rfl) rfl (by simp [TK.agg]) (hat.mono hle) rfl) ?_
      refine rn_ ?_; intros
      refine go_call (by rw [hnt]; rfl) (by rw [hP]; kernel_rfl) rfl (hP ▸ event_ok l[j].k G') ?_
      rintro v G'' hle' rfl
      refine rn_ ?_; intros
      refine x_if rfl rfl rfl rfl (fun hv => ?_) (fun hv => ?_)
      · have hv' : evk l[j].k = false := by simpa using hv
        refine rn_ ?_; intros
        refine x_ret rfl hQ hmb (by rw [hty]; rfl) rfl ?_; simp only [SV.den, resV]
        simp only [shp, h1, h8, h2, h3, h4, h13, h5, h6, h7, h9, hall, hdrop, List.all_cons, hv', decide_true, decide_false, if_true, if_false, Bool.true_and, Bool.false_and, Bool.and_false, Bool.and_true, Bool.false_eq_true, Bool.true_eq_false, reduceIte]
      · have hv' : evk l[j].k = true := by simpa using hv
        refine rn_ ?_; intros
        rw [wr (by omega) (by omega)]
        refine go_keep [1, 3, 90, 91, 92] [0] ?_
        refine st_ ?_
        refine ih (l.length - (j + 1)) _ (by omega) ⟨j + 1, G'', by omega, rfl, hle.trans hle', ?_, b1, by simp⟩
        rw [hall, hdrop, List.all_cons, hv']; simp
    · have hge : l.length ≤ j := by simp at ht; omega
      have hall' : l.all (fun y => evk y.k) = true := by rw [hall, List.drop_eq_nil_of_le hge]; rfl
      refine rn_ ?_; intros
      refine go_gsplit rfl rfl (fun g1 => ?_) (fun g1 => ?_) <;> (refine st_ ?_; (refine rn_ ?_; intros))
      all_goals (refine x_ret rfl hQ hmb (by rw [hty]; rfl) rfl ?_; simp only [SV.den, resV]; simp only [shp, h1, h8, h2, h3, h4, h13, h5, h6, h7, h9, g1, hall', decide_true, decide_false, if_true, if_false, Bool.true_and, Bool.false_and, Bool.and_false, Bool.and_true, Bool.false_eq_true, Bool.true_eq_false, reduceIte])
  refine go_keep [1, 3, 10, 108] [0] ?_
  refine x_split rfl rfl rfl (fun h10 => ?_) (fun h10 => ?_) <;> (refine st_ ?_; (refine ru_ ?_; intros))
  · refine go_gsplit rfl rfl (fun g1 => ?_) (fun g1 => ?_) <;> (refine st_ ?_; (refine rn_ ?_; intros))
    · refine go_gsplit rfl rfl (fun g2 => ?_) (fun g2 => ?_) <;> (refine st_ ?_; (refine rn_ ?_; intros))
      · refine go_gsplit rfl rfl (fun g3 => ?_) (fun g3 => ?_) <;> (refine st_ ?_; (refine rn_ ?_; intros))
        · refine go_gsplit rfl rfl (fun g4 => ?_) (fun g4 => ?_) <;> (refine st_ ?_; (refine rn_ ?_; intros))
          · have hlen : 1 ≤ l.length := by simp at g3; omega
            rcases hr with rfl | ⟨b, off, cs, rfl, ha, hrV⟩
            · simp at hlen
            have hat := At_kind ha hrV (i := 0) (by omega)
            rw [← hdk_get (by omega)] at hat
            refine go_q (by rw [hnt]; rfl) (quiet_index (by rw [hty]; rfl) (by rw [hty]; rfl) rfl rfl rfl (by omega) (by omega)) ?_
            refine rn_ ?_; intros
            refine go_q (by rw [hnt]; rfl) (quiet_load (by rw [hty]; rfl) rfl (by simp [TK.agg]) hat rfl) ?_
            refine rn_ ?_; intros
            refine go_call (by rw [hnt]; rfl) (by rw [hP]; kernel_rfl) rfl (hP ▸ event_ok (hdk l) G) ?_
            rintro v G'' hle' rfl
            refine rn_ ?_; intros
            (refine x_ret rfl hQ hmb (by rw [hty]; rfl) rfl ?_; simp only [SV.den, resV]; simp only [shp, decide_true, decide_false, if_true, if_false, Bool.true_and, Bool.false_and, Bool.and_false, Bool.and_true, Bool.false_eq_true, Bool.true_eq_false, reduceIte, h1, h8, h2, h3, h4, h13, h5, h6, h7, h9, h10, g1, g2, g3, g4])
          · (refine x_ret rfl hQ hmb (by rw [hty]; rfl) rfl ?_; simp only [SV.den, resV]; simp only [shp, decide_true, decide_false, if_true, if_false, Bool.true_and, Bool.false_and, Bool.and_false, Bool.and_true, Bool.false_eq_true, Bool.true_eq_false, reduceIte, h1, h8, h2, h3, h4, h13, h5, h6, h7, h9, h10, g1, g2, g3, g4])
        · (refine x_ret rfl hQ hmb (by rw [hty]; rfl) rfl ?_; simp only [SV.den, resV]; simp only [shp, decide_true, decide_false, if_true, if_false, Bool.true_and, Bool.false_and, Bool.and_false, Bool.and_true, Bool.false_eq_true, Bool.true_eq_false, reduceIte, h1, h8, h2, h3, h4, h13, h5, h6, h7, h9, h10, g1, g2, g3])
      · (refine x_ret rfl hQ hmb (by rw [hty]; rfl) rfl ?_; simp only [SV.den, resV]; simp only [shp, decide_true, decide_false, if_true, if_false, Bool.true_and, Bool.false_and, Bool.and_false, Bool.and_true, Bool.false_eq_true, Bool.true_eq_false, reduceIte, h1, h8, h2, h3, h4, h13, h5, h6, h7, h9, h10, g1, g2])
    · (refine x_ret rfl hQ hmb (by rw [hty]; rfl) rfl ?_; simp only [SV.den, resV]; simp only [shp, decide_true, decide_false, if_true, if_false, Bool.true_and, Bool.false_and, Bool.and_false, Bool.and_true, Bool.false_eq_true, Bool.true_eq_false, reduceIte, h1, h8, h2, h3, h4, h13, h5, h6, h7, h9, h10, g1])
  refine go_keep [1, 3, 10, 134] [0] ?_
  refine x_split rfl rfl rfl (fun h11 => ?_) (fun h11 => ?_) <;> (refine st_ ?_; (refine ru_ ?_; intros))
  · refine go_gsplit rfl rfl (fun g1 => ?_) (fun g1 => ?_) <;> (refine st_ ?_; (refine rn_ ?_; intros))
    · refine go_gsplit rfl rfl (fun g2 => ?_) (fun g2 => ?_) <;> (refine st_ ?_; (refine rn_ ?_; intros))
      all_goals (refine x_ret rfl hQ hmb (by rw [hty]; rfl) rfl ?_; simp only [SV.den, resV]; simp only [shp, decide_true, decide_false, if_true, if_false, Bool.true_and, Bool.false_and, Bool.and_false, Bool.and_true, Bool.false_eq_true, Bool.true_eq_false, reduceIte, h1, h8, h2, h3, h4, h13, h5, h6, h7, h9, h10, h11, g1, g2])
    · (refine x_ret rfl hQ hmb (by rw [hty]; rfl) rfl ?_; simp only [SV.den, resV]; simp only [shp, decide_true, decide_false, if_true, if_false, Bool.true_and, Bool.false_and, Bool.and_false, Bool.and_true, Bool.false_eq_true, Bool.true_eq_false, reduceIte, h1, h8, h2, h3, h4, h13, h5, h6, h7, h9, h10, h11, g1])
  refine x_split rfl rfl rfl (fun h12 => ?_) (fun h12 => ?_) <;> (refine st_ ?_; (refine ru_ ?_; intros))
  · refine go_gsplit rfl rfl (fun g1 => ?_) (fun g1 => ?_) <;> (refine st_ ?_; (refine rn_ ?_; intros))
    · refine go_gsplit rfl rfl (fun g2 => ?_) (fun g2 => ?_) <;> (refine st_ ?_; (refine rn_ ?_; intros))
      all_goals (refine x_ret rfl hQ hmb (by rw [hty]; rfl) rfl ?_; simp only [SV.den, resV]; simp only [shp, decide_true, decide_false, if_true, if_false, Bool.true_and, Bool.false_and, Bool.and_false, Bool.and_true, Bool.false_eq_true, Bool.true_eq_false, reduceIte, h1, h8, h2, h3, h4, h13, h5, h6, h7, h9, h10, h11, h12, g1, g2])
    · (refine x_ret rfl hQ hmb (by rw [hty]; rfl) rfl ?_; simp only [SV.den, resV]; simp only [shp, decide_true, decide_false, if_true, if_false, Bool.true_and, Bool.false_and, Bool.and_false, Bool.and_true, Bool.false_eq_true, Bool.true_eq_false, reduceIte, h1, h8, h2, h3, h4, h13, h5, h6, h7, h9, h10, h11, h12, g1])
  (refine x_ret rfl hQ hmb (by rw [hty]; rfl) rfl ?_; simp only [SV.den, resV]; simp only [shp, decide_true, decide_false, if_true, if_false, Bool.true_and, Bool.false_and, Bool.and_false, Bool.and_true, Bool.false_eq_true, Bool.true_eq_false, reduceIte, h1, h8, h2, h3, h4, h13, h5, h6, h7, h9, h10, h11, h12])
end Go.Proofs.Ytpmmbjcgabnloaa
namespace Go.Proofs.Ytpmmbjcgabnloaa
set_option linter.unusedSimpArgs false
set_option linter.unusedVariables false
open Go.Sx

end Go.Proofs.Ytpmmbjcgabnloaa
namespace Go.Proofs.Ytpmmbjcgabnloaa
set_option linter.unusedSimpArgs false
set_option linter.unusedVariables false
open Go.Sx

mutual
def shps : VT → Bool
  | .mk k n l => shp (.mk k n l) && shpsL l
def shpsL : List VT → Bool
  | [] => true
  | x :: l => shps x && shpsL l
end

set_option maxHeartbeats 1000000 in
theorem shapes_ok (x : VT) : ∀ (sl : Value) (G : Hp) (hr : x.rep G sl), Pure Try.prog 78 [.agg #[.int .i64 x.k, .int .i64 x.n, sl]] G (fun r _ => r = .bool (shps x)) := by
  induction x using VT.ind with
  | h k m l IH =>
  intro sl G hr
  have hr0 := hr
  refine enterX ty tyok Try.func78 rfl Try.ntmps78 [.a [.v (.int .i64 k), .v (.int .i64 m), .v sl]] (by simp) ?_
  intro C hP hQ hnt hty hmb hmh hro; have hQp := qp_body hQ; refine st_ ?_
  rw [rep_iff] at hr
  obtain ⟨hk, hm, hl, ad, cap, rfl, hr⟩ := hr
  refine rn_ ?_; intros
  refine go_call (by rw [hnt]; rfl) (by rw [hP]; kernel_rfl) rfl (hP ▸ shaped_ok (.mk k m l) _ G hr0) ?_
  rintro v G1 hle1 rfl
  refine rn_ ?_; intros
  refine x_if rfl rfl rfl rfl (fun h1 => ?_) (fun h1 => ?_)
  · have h1' : shp (.mk k m l) = false := by simpa using h1
    refine rn_ ?_; intros
    refine x_ret rfl hQ hmb (by rw [hty]; rfl) rfl ?_; simp only [SV.den, resV]
    simp only [shps, h1', decide_true, decide_false, if_true, if_false, Bool.true_and, Bool.false_and, Bool.and_false, Bool.and_true, Bool.false_eq_true, Bool.true_eq_false, reduceIte]
  have h1' : shp (.mk k m l) = true := by simpa using h1
  refine rn_ ?_; intros
  refine go_keep [9, 10, 11] [] ?_
  refine st_ ?_
  refine x_loop rfl (fun q s => ∃ (j : Nat) (G' : Hp), j ≤ l.length ∧ q = l.length - j ∧ Le G G' ∧ shpsL l = shpsL (l.drop j) ∧
    s = ⟨[(9, .v (.slice ad l.length cap)), (10, .v (.int .i64 l.length)), (11, .v (.int .i64 j))], [], G', []⟩) ⟨0, G1, by omega, rfl, hle1, by simp, rfl⟩ ?_
  rintro q s ⟨j, G', hj, hq, hle, hc, rfl⟩ ih
  refine rn_ ?_; intros
  refine x_if rfl rfl rfl rfl (fun ht => ?_) (fun ht => ?_)
  · have hlt : j < l.length := by simp at ht; omega
    rcases hr with rfl | ⟨b, off, cs, rfl, ha, hrV⟩
    · simp at hlt
    obtain ⟨adx, capx, hat, hrx⟩ := At_get ha hrV hlt
    have hdrop : l.drop j = l[j] :: l.drop (j + 1) := List.drop_eq_getElem_cons hlt
    refine rn_ ?_; intros
    refine go_q (by rw [hnt]; rfl) (quiet_index (by rw [hty]; rfl) (by rw [hty]; rfl) rfl rfl rfl (by omega) (by omega)) ?_
    refine go_q (by rw [hnt]; rfl) (quiet_load (by rw [hty]; rfl) rfl (by simp [TK.agg]) (hat.mono hle) rfl) ?_
    refine rn_ ?_; intros
    refine go_call (by rw [hnt]; rfl) (by rw [hP]; kernel_rfl) rfl (hP ▸ IH l[j] (List.getElem_mem hlt) _ G' (VT.rep_mono hle hrx)) ?_
    rintro v G'' hle' rfl
    refine rn_ ?_; intros
    refine x_if rfl rfl rfl rfl (fun hv => ?_) (fun hv => ?_)
    · have hv' : shps l[j] = false := by simpa using hv
      refine rn_ ?_; intros
      refine x_ret rfl hQ hmb (by rw [hty]; rfl) rfl ?_; simp only [SV.den, resV]
      simp only [shps, hc, hdrop, shpsL, hv', decide_true, decide_false, if_true, if_false, Bool.true_and, Bool.false_and, Bool.and_false, Bool.and_true, Bool.false_eq_true, Bool.true_eq_false, reduceIte]
    · have hv' : shps l[j] = true := by simpa using hv
      refine rn_ ?_; intros
      rw [wr (by omega) (by omega)]
      refine go_keep [9, 10, 11] [] ?_
      refine st_ ?_
      refine ih (l.length - (j + 1)) _ (by omega) ⟨j + 1, G'', by omega, rfl, hle.trans hle', ?_, by simp⟩
      rw [hc, hdrop]; simp only [shpsL, hv', decide_true, decide_false, if_true, if_false, Bool.true_and, Bool.false_and, Bool.and_false, Bool.and_true, Bool.false_eq_true, Bool.true_eq_false, reduceIte]
  · have hge : l.length ≤ j := by simp at ht; omega
    refine rn_ ?_; intros
    refine x_ret rfl hQ hmb (by rw [hty]; rfl) rfl ?_; simp only [SV.den, resV]
    simp only [shps, h1', hc, List.drop_eq_nil_of_le hge, shpsL, decide_true, decide_false, if_true, if_false, Bool.true_and, Bool.false_and, Bool.and_false, Bool.and_true, Bool.false_eq_true, Bool.true_eq_false, reduceIte]

def sml (x : VT) : Bool := decide (cnt x 0 ≤ 256)
def vld (x : VT) : Bool := sml x && shps x

theorem small_ok (x : VT) (sl : Value) (G : Hp) (hr : x.rep G sl) : Pure Try.prog 65 [.agg #[.int .i64 x.k, .int .i64 x.n, sl]] G (fun r _ => r = .bool (sml x)) := by
  obtain ⟨ad, cap, rfl⟩ := VT.rep_slice hr
  refine enterX ty tyok Try.func65 rfl Try.ntmps65 [.a [.v (.int .i64 x.k), .v (.int .i64 x.n), .v _]] (by simp) ?_
  intro C hP hQ hnt hty hmb hmh hro; have hQp := qp_body hQ; refine st_ ?_
  refine rn_ ?_; intros
  refine go_call (by rw [hnt]; rfl) (by rw [hP]; kernel_rfl) rfl (hP ▸ count_ok x _ 0 G hr (by omega) (by omega)) ?_
  rintro v G1 hle1 rfl
  refine rn_ ?_; intros
  refine x_ret rfl hQ hmb (by rw [hty]; rfl) rfl ?_; simp only [SV.den, resV]
  simp only [sml]
theorem valid_ok (x : VT) (sl : Value) (G : Hp) (hr : x.rep G sl) : Pure Try.prog 72 [.agg #[.int .i64 x.k, .int .i64 x.n, sl]] G (fun r _ => r = .bool (vld x)) := by
  obtain ⟨ad, cap, rfl⟩ := VT.rep_slice hr
  refine enterX ty tyok Try.func72 rfl Try.ntmps72 [.a [.v (.int .i64 x.k), .v (.int .i64 x.n), .v _]] (by simp) ?_
  intro C hP hQ hnt hty hmb hmh hro; have hQp := qp_body hQ; refine st_ ?_
  refine rn_ ?_; intros
  refine go_call (by rw [hnt]; rfl) (by rw [hP]; kernel_rfl) rfl (hP ▸ small_ok x _ G hr) ?_
  rintro v G1 hle1 rfl
  refine rn_ ?_; intros
  refine go_gsplit rfl rfl (fun g1 => ?_) (fun g1 => ?_) <;> (refine st_ ?_; (refine rn_ ?_; intros))
  · refine go_call (by rw [hnt]; rfl) (by rw [hP]; kernel_rfl) rfl (hP ▸ shapes_ok x _ G1 (VT.rep_mono hle1 hr)) ?_
    rintro v G2 hle2 rfl
    refine rn_ ?_; intros
    refine x_ret rfl hQ hmb (by rw [hty]; rfl) rfl ?_; simp only [SV.den, resV]
    simp only [vld, g1, decide_true, decide_false, if_true, if_false, Bool.true_and, Bool.false_and, Bool.and_false, Bool.and_true, Bool.false_eq_true, Bool.true_eq_false, reduceIte]
  · refine x_ret rfl hQ hmb (by rw [hty]; rfl) rfl ?_; simp only [SV.den, resV]
    simp only [vld, g1, decide_true, decide_false, if_true, if_false, Bool.true_and, Bool.false_and, Bool.and_false, Bool.and_true, Bool.false_eq_true, Bool.true_eq_false, reduceIte]
def chk (x : VT) : Int := if vld x then 0 else 40
theorem check_ok (x : VT) (sl : Value) (G : Hp) (hr : x.rep G sl) : Pure Try.prog 58 [.agg #[.int .i64 x.k, .int .i64 x.n, sl]] G (fun r _ => r = .int .i64 (chk x)) := by
  obtain ⟨ad, cap, rfl⟩ := VT.rep_slice hr
  refine enterX ty tyok Try.func58 rfl Try.ntmps58 [.a [.v (.int .i64 x.k), .v (.int .i64 x.n), .v _]] (by simp) ?_
  intro C hP hQ hnt hty hmb hmh hro; have hQp := qp_body hQ; refine st_ ?_
  refine rn_ ?_; intros
  refine go_call (by rw [hnt]; rfl) (by rw [hP]; kernel_rfl) rfl (hP ▸ valid_ok x _ G hr) ?_
  rintro v G1 hle1 rfl
  refine rn_ ?_; intros
  refine x_if rfl rfl rfl rfl (fun g1 => ?_) (fun g1 => ?_)
  all_goals (refine rn_ ?_; intros; refine x_ret rfl hQ hmb (by rw [hty]; rfl) rfl ?_; simp only [SV.den, resV]; simp only [chk]; simp at g1; simp [g1])
end Go.Proofs.Ytpmmbjcgabnloaa
namespace Go.Proofs.Ytpmmbjcgabnloaa
set_option linter.unusedSimpArgs false
set_option linter.unusedVariables false
open Go.Sx

mutual
def tsz : VT → Nat
  | .mk _ _ l => 1 + tszL l
def tszL : List VT → Nat
  | [] => 0
  | x :: l => tsz x + tszL l
end
theorem tsz_pos (x : VT) : 1 ≤ tsz x := by cases x; simp only [tsz]; omega
theorem tszL_append (l r : List VT) : tszL (l ++ r) = tszL l + tszL r := by
  induction l with
  | nil => simp [tszL]
  | cons x l ih => simp only [List.cons_append, tszL, ih]; omega
theorem tszL_len (l : List VT) : l.length ≤ tszL l := by
  induction l with
  | nil => simp [tszL]
  | cons x l ih => have := tsz_pos x; simp only [tszL, List.length_cons]; omega
theorem tsz_l (x : VT) : tsz x = 1 + tszL x.l := by cases x; simp only [tsz, VT.l]

mutual
theorem cnt_eq : ∀ (x : VT) (n : Int), n ≤ 256 → cnt x n = min (n + tsz x) 257
  | .mk _ _ l, n, h => by simp only [cnt, tsz]; rw [cntL_eq l (n + 1) (by omega)]; congr 1; omega
theorem cntL_eq : ∀ (l : List VT) (n : Int), n ≤ 257 → cntL l n = min (n + tszL l) 257
  | [], n, h => by simp only [cntL, tszL]; omega
  | x :: l, n, h => by
    simp only [cntL, tszL]
    split
    · omega
    · rw [cnt_eq x n (by omega), cntL_eq l _ (by omega)]; omega
end

theorem src_rep {G : Hp} {l : List VT} {ad : Option Addr} {cap : Nat} (h : l = [] ∨ ∃ b off cs, ad = some ⟨b, off, none⟩ ∧ At G b off cs ∧ repV G l cs) :
    ∃ cs, repV G l cs ∧ ((∃ c, (SV.v (.slice ad l.length cap)).den = .slice none 0 c ∧ l.length = 0 ∧ cs = []) ∨ ∀ (C : Ctx) (s : St), s.G = G → Src C s (.v (.slice ad l.length cap)) l.length cs) := by
  rcases h with rfl | ⟨b, off, cs, rfl, ha, hr⟩
  · refine ⟨[], by simp [repV], ?_⟩
    cases ad with
    | none => exact .inl ⟨cap, rfl, rfl, rfl⟩
    | some a => exact .inr fun _ _ _ => src_empty rfl
  · exact ⟨cs, hr, .inr fun _ s hs => src_at (by rw [hs]; exact ha)⟩

theorem VT.rep_cs {G : Hp} : ∀ {x : VT} {ad : Option Addr} {n cap : Nat}, x.rep G (.slice ad n cap) → x.l = [] ∨ ∃ b off cs, ad = some ⟨b, off, none⟩ ∧ At G b off cs ∧ repV G x.l cs
  | .mk k n l, ad, _, cap, h => by
    simp only [VT.rep] at h
    obtain ⟨_, _, _, ad', cap', h4, h5⟩ := h
    cases h4
    exact h5
theorem src_sliced {C : Ctx} {s : St} {ts : List VT} {cs : List Value} {b off capj : Nat} (ha : At s.G b off cs) (hr : repV s.G ts cs) (h1 : 1 ≤ ts.length) (h2 : ts.length ≤ capj) :
    Src C s (.v (Sx.sliced (some ⟨b, off, none⟩) capj 1 ts.length 3)) (ts.length - 1) (cs.drop 3) := by
  have hlen := repV_len hr
  by_cases h : ts.length = 1
  · have e : cs.drop 3 = [] := List.drop_eq_nil_of_le (by omega)
    rw [e, h]
    simp only [Sx.sliced]
    by_cases hc : capj = 1
    · exact src_empty (by simp only [hc, if_true]; rfl)
    · exact src_empty (by simp only [hc, if_false, Option.map_some]; rfl)
  · rw [sliced_some b off capj 1 ts.length 3 (by omega) h2]
    exact src_at (ha.drop 3 (by omega))

set_option maxHeartbeats 2000000 in
theorem refsize_ok (x : VT) (sl : Value) (G : Hp) (hr : x.rep G sl) (hb : tsz x ≤ 2000000) : Pure Try.prog 10 [.agg #[.int .i64 x.k, .int .i64 x.n, sl]] G (fun r _ => r = .int .i64 (cnt x 0)) := by
  obtain ⟨ad, cap, rfl⟩ := VT.rep_slice hr
  refine enterX ty tyok Try.func10 rfl Try.ntmps10 [.a [.v (.int .i64 x.k), .v (.int .i64 x.n), .v _]] (by simp) ?_
  intro C hP hQ hnt hty hmb hmh hro; have hQp := qp_body hQ; refine st_ ?_
  refine rn_ ?_; intros
  refine go_pub 1 rfl (by omega) ?_
  rename_i b0 b1
  intro G1 (hle1 : Le G G1) hG1
  refine go_slot 3 (.v (.slice (some ⟨b1, 0, none⟩) 1 1)) rfl rfl ?_
  refine st_ ?_
  refine go_keep [3, 4] [] ?_
  refine st_ ?_
  have hat1 := at_block hG1
  simp only [dens, SV.den] at hat1
  have hrV1 : repV G1 [x] [.int .i64 x.k, .int .i64 x.n, .slice ad x.l.length cap] := by
    simp only [repV]
    exact ⟨_, _, rfl, VT.rep_mono hle1 hr, rfl⟩
  refine x_loop rfl (fun q s => ∃ (ts : List VT) (nj : Int) (adj : Option Addr) (capj : Nat) (G' : Hp), 0 ≤ nj ∧ nj ≤ 257 ∧ q = (257 - nj).toNat ∧ Le G G' ∧ nj + tszL ts = tsz x ∧ ts.length ≤ capj ∧
    (ts = [] ∨ ∃ b off cs, adj = some ⟨b, off, none⟩ ∧ At G' b off cs ∧ repV G' ts cs) ∧
    s = ⟨[(3, .v (.slice adj ts.length capj)), (4, .v (.int .i64 nj))], [], G', []⟩)
    ⟨[x], 0, some ⟨b1, 0, none⟩, 1, G1, by omega, by omega, rfl, hle1, by simp [tszL], by simp, .inr ⟨b1, 0, _, rfl, hat1, hrV1⟩, rfl⟩ ?_
  rintro q s ⟨ts, nj, adj, capj, G', hn0, hn1, hq, hle, hsum, hcap, hts, rfl⟩ ih
  have htl := tszL_len ts
  refine rn_ ?_; intros
  refine go_gsplit rfl rfl (fun g1 => ?_) (fun g1 => ?_) <;> (refine st_ ?_; (refine rn_ ?_; intros))
  · refine x_split rfl rfl rfl (fun g2 => ?_) (fun g2 => ?_) <;> (refine st_ ?_; (refine ru_ ?_; intros))
    · have hlt : 0 < ts.length := by simp at g1; omega
      have hn256 : nj ≤ 256 := by simpa using g2
      rcases hts with rfl | ⟨b, off, cs, rfl, ha, hrV⟩
      · simp at hlt
      obtain ⟨adx, capx, hat, hrx⟩ := At_get ha hrV hlt
      have hdrop : ts = ts[0] :: ts.drop 1 := by simpa using (List.drop_eq_getElem_cons (i := 0) hlt)
      refine go_q (by rw [hnt]; rfl) (quiet_index (by rw [hty]; rfl) (by rw [hty]; rfl) rfl rfl rfl (by omega) (by omega)) ?_
      refine go_q (by rw [hnt]; rfl) (quiet_load (by rw [hty]; rfl) rfl (by simp [TK.agg]) hat rfl) ?_
      refine rn_ ?_; intros
      rename_i bx
      refine go_keep [3, 4, 5] [0] ?_
      refine st_ ?_
      refine x_held [(0, bx, .c 28 [.v (.int .i64 ts[0].k), .v (.int .i64 ts[0].n), .v (.slice adx ts[0].l.length capx)])] rfl (by rw [hP]; kernel_rfl) rfl rfl rfl ?_; refine st_ ?_
      refine h_take 1 rfl (by kernel_rfl) (by kernel_rfl) (by kernel_rfl) hQp (by rw [hnt]; rfl) (allIn (by repeat (first | exact trivial | refine ⟨rfl, ?_⟩))) (by first | exact Le.refl _ | assumption) (quiet_op (by rw [hty]; first | rfl | (refine st_ ?_; rfl))) ?_; refine st_ ?_
      refine h_take 2 rfl (by kernel_rfl) (by kernel_rfl) (by kernel_rfl) hQp (by rw [hnt]; rfl) (allIn (by repeat (first | exact trivial | refine ⟨rfl, ?_⟩))) (by first | exact Le.refl _ | assumption) (x := .v (Sx.sliced (some ⟨b, off, none⟩) capj 1 ts.length 3)) ((quiet_sliceLo (k := .i64) (n := 1) (by rw [hty]; rfl) (by rw [hty]; rfl) rfl rfl rfl (by omega) (by omega)).cast rfl) ?_
      refine st_ ?_
      refine h_take 4 rfl (by kernel_rfl) (by kernel_rfl) (by kernel_rfl) hQp (by rw [hnt]; rfl) (allIn (by repeat (first | exact trivial | refine ⟨rfl, ?_⟩))) (by first | exact Le.refl _ | assumption) (quiet_op (by rw [hty]; first | rfl | (refine st_ ?_; rfl))) ?_; refine st_ ?_
      refine h_take 5 rfl (by kernel_rfl) (by kernel_rfl) (by kernel_rfl) hQp (by rw [hnt]; rfl) (allIn (by repeat (first | exact trivial | refine ⟨rfl, ?_⟩))) (by first | exact Le.refl _ | assumption) (quiet_op (by rw [hty]; first | rfl | (refine st_ ?_; rfl))) ?_; refine st_ ?_
      refine h_one 0 rfl (by kernel_rfl) ?_
      refine rn_ ?_; intros
      refine h_hs (allIn (by repeat (first | exact trivial | refine ⟨rfl, ?_⟩))) (by first | exact Le.refl _ | assumption) ?_
      refine h_one 3 rfl (by kernel_rfl) ?_
      rename_i br
      have hlen := repV_len hrV
      have hone := repV_one hrV
      have hrV1' : repV G' (ts.drop 1) (cs.drop 3) := repV_drop 1 hrV
      have hts0 : tszL (ts[0] :: ts.drop 1) = tsz ts[0] + tszL (ts.drop 1) := by simp only [tszL]
      rw [← hdrop] at hts0
      have htx : tsz ts[0] = 1 + tszL ts[0].l := tsz_l _
      have htl2 := tszL_len ts[0].l
      refine go_litrow 1 (n := 0) (size := 3) rfl (by omega) rfl (by omega) ?_
      refine st_ ?_
      refine go_append_any 1 (by rw [hnt]; rfl) (by rw [hty]; rfl) (by rw [hty]; rfl) (by decide) rfl rfl rfl (by omega) rfl (.inr (src_sliced ha hrV (by omega) hcap)) (by simp only [List.length_drop]; omega) (fun u hu => hone u (List.mem_of_mem_drop hu)) (by omega) (by simp only [] ; omega) ?_
      intro v1
      refine rn_ ?_; intros
      refine h_hs (allIn (by repeat (first | exact trivial | refine ⟨rfl, ?_⟩))) (by first | exact Le.refl _ | assumption) ?_
      refine h_one 6 rfl (by kernel_rfl) ?_
      obtain ⟨cs2, hr2, hs2⟩ := src_rep (VT.rep_cs hrx) (cap := capx)
      have hlen2 := repV_len hr2
      refine go_append_any 1 (by rw [hnt]; rfl) (by rw [hty]; rfl) (by rw [hty]; rfl) (by decide) rfl rfl rfl (by omega) rfl (hs2.imp id fun f => f _ _ rfl) (by simp only []; omega) (repV_one hr2) (by omega) (by simp only []; omega) ?_
      intro v2
      refine rn_ ?_; intros
      refine h_hs (allIn (by repeat (first | exact trivial | refine ⟨rfl, ?_⟩))) (by first | exact Le.refl _ | assumption) ?_
      refine h_one 7 rfl (by kernel_rfl) ?_
      refine rn_ ?_; intros
      refine h_hs (allIn (by repeat (first | exact trivial | refine ⟨rfl, ?_⟩))) (by first | exact Le.refl _ | assumption) ?_
      refine h_end (by kernel_rfl) ?_
      refine rn_ ?_; intros
      rw [wr (by omega) (by omega)]
      refine go_keep [3, 4] [1] ?_
      refine st_ ?_
      have hrr := repV_append hrV1' hr2
      have hsum2 : tszL (ts.drop 1 ++ ts[0].l) + 1 = tszL ts := by rw [tszL_append]; omega
      refine go_rowcases 1 rfl ?_ ?_
      · intro hv hn hx
        subst hv
        have h0 : ts.drop 1 ++ ts[0].l = [] := by
          apply List.length_eq_zero_iff.1
          simp only [List.length_append, List.length_drop]; omega
        refine go_keep [3, 4] [] ?_
        refine st_ ?_
        rw [h0] at hsum2
        simp only [tszL] at hsum2
        exact ih (257 - (nj + 1)).toNat _ (by omega) ⟨[], nj + 1, none, 0, G', by omega, by omega, rfl, hle, by simp only [tszL]; omega, by simp, .inl rfl, rfl⟩
      · intro g capv hv hcv hxl
        subst hv
        refine go_pubrow 1 rfl (by omega) ?_
        intro G2 (hle2 : Le G' G2) hat2
        refine st_ ?_
        have e : ts.length - 1 + ts[0].l.length = (ts.drop 1 ++ ts[0].l).length := by simp only [List.length_append, List.length_drop]
        rw [e] at hcv ⊢
        refine ih (257 - (nj + 1)).toNat _ (by omega) ⟨ts.drop 1 ++ ts[0].l, nj + 1, some ⟨g, 0, none⟩, capv, G2, by omega, by omega, rfl, hle.trans hle2, by omega, hcv, .inr ⟨g, 0, _, rfl, hat2, repV_mono hle2 ?_⟩, rfl⟩
        exact hrr
    · refine x_ret rfl hQ hmb (by rw [hty]; rfl) rfl ?_; simp only [SV.den, resV]
      rw [cnt_eq x 0 (by omega)]
      have : ¬ nj ≤ 256 := by simpa using g2
      have e : min (0 + (tsz x : Int)) 257 = nj := by omega
      rw [e]
  · refine x_ret rfl hQ hmb (by rw [hty]; rfl) rfl ?_; simp only [SV.den, resV]
    have : ts = [] := by simpa using g1
    subst this
    rw [cnt_eq x 0 (by omega)]
    simp only [tszL] at hsum
    have e : min (0 + (tsz x : Int)) 257 = nj := by omega
    rw [e]

end Go.Proofs.Ytpmmbjcgabnloaa
namespace Go.Proofs.Ytpmmbjcgabnloaa
set_option linter.unusedSimpArgs false
set_option linter.unusedVariables false
open Go.Sx

mutual
def veq : VT → VT → Bool
  | .mk k n l, .mk k' n' l' => (k == k') && (n == n') && veqL l l'
def veqL : List VT → List VT → Bool
  | [], [] => true
  | x :: l, y :: l' => veq x y && veqL l l'
  | [], _ :: _ => false
  | _ :: _, [] => false
end
theorem veqL_len : ∀ (l l' : List VT), l.length ≠ l'.length → veqL l l' = false
  | [], [], h => by simp at h
  | [], _ :: _, _ => by simp only [veqL]
  | _ :: _, [], _ => by simp only [veqL]
  | x :: l, y :: l', h => by simp only [veqL]; rw [veqL_len l l' (by simpa using h)]; simp
theorem veqL_nil (l l' : List VT) (h : l.length ≤ 0) (h' : l'.length = l.length) : veqL l l' = true := by
  cases l with
  | nil => cases l' with
    | nil => simp only [veqL]
    | cons y l' => simp at h'
  | cons x l => simp at h

set_option maxHeartbeats 2000000 in
theorem equal_ok (x : VT) : ∀ (y : VT) (sl sl' : Value) (G : Hp) (hr : x.rep G sl) (hr' : y.rep G sl'), Pure Try.prog 70 [.agg #[.int .i64 x.k, .int .i64 x.n, sl], .agg #[.int .i64 y.k, .int .i64 y.n, sl']] G (fun r _ => r = .bool (veq x y)) := by
  induction x using VT.ind with
  | h k m l IH =>
  intro y sl sl' G hr hr'
  obtain ⟨k', m', l'⟩ := y
  refine enterX ty tyok Try.func70 rfl Try.ntmps70 [.a [.v (.int .i64 k), .v (.int .i64 m), .v sl], .a [.v (.int .i64 k'), .v (.int .i64 m'), .v sl']] (by simp) ?_
  intro C hP hQ hnt hty hmb hmh hro; have hQp := qp_body hQ; refine st_ ?_
  rw [rep_iff] at hr hr'
  obtain ⟨hk, hm, hl, ad, cap, rfl, hr⟩ := hr
  obtain ⟨hk', hm', hl', ad', cap', rfl, hr'⟩ := hr'
  refine rn_ ?_; intros
  refine go_gsplit rfl rfl (fun g1 => ?_) (fun g1 => ?_) <;> (refine st_ ?_; (refine rn_ ?_; intros))
  · refine x_ret rfl hQ hmb (by rw [hty]; rfl) rfl ?_; simp only [SV.den, resV]
    have : (k == k') = false := by simpa using g1
    simp only [veq, this, decide_true, decide_false, if_true, if_false, Bool.true_and, Bool.false_and, Bool.and_false, Bool.and_true, Bool.false_eq_true, Bool.true_eq_false, reduceIte]
  have e1 : (k == k') = true := by simpa using g1
  refine go_gsplit rfl rfl (fun g2 => ?_) (fun g2 => ?_) <;> (refine st_ ?_; (refine rn_ ?_; intros))
  · refine x_ret rfl hQ hmb (by rw [hty]; rfl) rfl ?_; simp only [SV.den, resV]
    have : (m == m') = false := by simpa using g2
    simp only [veq, this, decide_true, decide_false, if_true, if_false, Bool.true_and, Bool.false_and, Bool.and_false, Bool.and_true, Bool.false_eq_true, Bool.true_eq_false, reduceIte]
  have e2 : (m == m') = true := by simpa using g2
  refine x_split rfl rfl rfl (fun g3 => ?_) (fun g3 => ?_) <;> (refine st_ ?_; (refine ru_ ?_; intros))
  · have : l.length ≠ l'.length := by simp at g3; omega
    refine x_ret rfl hQ hmb (by rw [hty]; rfl) rfl ?_; simp only [SV.den, resV]
    simp only [veq, veqL_len l l' this, decide_true, decide_false, if_true, if_false, Bool.true_and, Bool.false_and, Bool.and_false, Bool.and_true, Bool.false_eq_true, Bool.true_eq_false, reduceIte]
  have hll : l'.length = l.length := by simp at g3; omega
  refine go_keep [2, 3, 29, 30] [0, 1] ?_
  refine st_ ?_
  rename_i b0 b1
  refine x_loop rfl (fun q s => ∃ (j : Nat) (G' : Hp), j ≤ l.length ∧ q = l.length - j ∧ Le G G' ∧ veqL l l' = veqL (l.drop j) (l'.drop j) ∧
    s = ⟨[(2, .p 0 b0 0), (3, .p 1 b1 0), (29, .v (.int .i64 l.length)), (30, .v (.int .i64 j))], [(0, b0, .c 28 [.v (.int .i64 k), .v (.int .i64 m), .v (.slice ad l.length cap)]), (1, b1, .c 28 [.v (.int .i64 k'), .v (.int .i64 m'), .v (.slice ad' l'.length cap')])], G', []⟩) ⟨0, G, by omega, rfl, Le.refl _, by simp, rfl⟩ ?_
  rintro q s ⟨j, G', hj, hq, hle, hc, rfl⟩ ih
  refine rn_ ?_; intros
  refine x_if rfl rfl rfl rfl (fun ht => ?_) (fun ht => ?_)
  · have hlt : j < l.length := by simp at ht; omega
    have hlt' : j < l'.length := by omega
    rcases hr with rfl | ⟨b, off, cs, rfl, ha, hrV⟩
    · simp at hlt
    rcases hr' with rfl | ⟨b', off', cs', rfl, ha', hrV'⟩
    · simp at hlt'
    obtain ⟨adx, capx, hat, hrx⟩ := At_get ha hrV hlt
    obtain ⟨ady, capy, haty, hry⟩ := At_get ha' hrV' hlt'
    have hdrop : l.drop j = l[j] :: l.drop (j + 1) := List.drop_eq_getElem_cons hlt
    have hdrop' : l'.drop j = l'[j] :: l'.drop (j + 1) := List.drop_eq_getElem_cons hlt'
    refine rn_ ?_; intros
    refine x_draw rfl (by rw [hP]; kernel_rfl) rfl (by kernel_rfl) ?_
    refine runq 400 hty hnt ?_; refine st_ ?_
    refine q_q (by rw [hnt]; rfl) (quiet_index (by rw [hty]; rfl) (by rw [hty]; rfl) rfl rfl rfl (by omega) (by omega)) ?_
    refine q_q (by rw [hnt]; rfl) (quiet_load (by rw [hty]; rfl) rfl (by simp [TK.agg]) (hat.mono hle) rfl) ?_
    refine runq 400 hty hnt ?_; refine st_ ?_
    refine q_q (by rw [hnt]; rfl) (quiet_index (by rw [hty]; rfl) (by rw [hty]; rfl) rfl rfl rfl (by omega) (by omega)) ?_
    refine q_q (by rw [hnt]; rfl) (quiet_load (by rw [hty]; rfl) rfl (by simp [TK.agg]) (haty.mono hle) rfl) ?_
    refine q_callf (by rw [hnt]; rfl) (by rw [hP]; kernel_rfl) rfl (hP ▸ IH l[j] (List.getElem_mem hlt) l'[j] _ _ G' (VT.rep_mono hle hrx) (VT.rep_mono hle hry)) ?_
    refine runq 400 hty hnt ?_; refine st_ ?_
    refine q_end ?_
    refine rn_ ?_; intros
    refine x_if rfl rfl rfl rfl (fun hv => ?_) (fun hv => ?_)
    · have hv' : veq l[j] l'[j] = false := by simpa using hv
      refine rn_ ?_; intros
      refine x_ret rfl hQ hmb (by rw [hty]; rfl) rfl ?_; simp only [SV.den, resV]
      simp only [veq, hc, hdrop, hdrop', veqL, hv', decide_true, decide_false, if_true, if_false, Bool.true_and, Bool.false_and, Bool.and_false, Bool.and_true, Bool.false_eq_true, Bool.true_eq_false, reduceIte]
    · have hv' : veq l[j] l'[j] = true := by simpa using hv
      refine rn_ ?_; intros
      rw [wr (by omega) (by omega)]
      refine go_keep [2, 3, 29, 30] [0, 1] ?_
      refine st_ ?_
      refine ih (l.length - (j + 1)) _ (by omega) ⟨j + 1, G', by omega, rfl, hle, ?_, by simp⟩
      rw [hc, hdrop, hdrop']; simp only [veqL, hv', decide_true, decide_false, if_true, if_false, Bool.true_and, Bool.false_and, Bool.and_false, Bool.and_true, Bool.false_eq_true, Bool.true_eq_false, reduceIte]
  · have hge : l.length ≤ j := by simp at ht; omega
    refine rn_ ?_; intros
    refine x_ret rfl hQ hmb (by rw [hty]; rfl) rfl ?_; simp only [SV.den, resV]
    simp only [veq, e1, e2, hc, veqL_nil (l.drop j) (l'.drop j) (by simp; omega) (by simp; omega), decide_true, decide_false, if_true, if_false, Bool.true_and, Bool.false_and, Bool.and_false, Bool.and_true, Bool.false_eq_true, Bool.true_eq_false, reduceIte]
end Go.Proofs.Ytpmmbjcgabnloaa
namespace Go.Proofs.Ytpmmbjcgabnloaa
set_option linter.unusedSimpArgs false
set_option linter.unusedVariables false
open Go.Sx

set_option maxHeartbeats 2000000 in
theorem refsame_ok (x : VT) : ∀ (y : VT) (sl sl' : Value) (G : Hp) (hr : x.rep G sl) (hr' : y.rep G sl'), Pure Try.prog 48 [.agg #[.int .i64 x.k, .int .i64 x.n, sl], .agg #[.int .i64 y.k, .int .i64 y.n, sl']] G (fun r _ => r = .bool (veq x y)) := by
  induction x using VT.ind with
  | h k m l IH =>
  intro y sl sl' G hr hr'
  obtain ⟨k', m', l'⟩ := y
  refine enterX ty tyok Try.func48 rfl Try.ntmps48 [.a [.v (.int .i64 k), .v (.int .i64 m), .v sl], .a [.v (.int .i64 k'), .v (.int .i64 m'), .v sl']] (by simp) ?_
  intro C hP hQ hnt hty hmb hmh hro; have hQp := qp_body hQ; refine st_ ?_
  rw [rep_iff] at hr hr'
  obtain ⟨hk, hm, hl, ad, cap, rfl, hr⟩ := hr
  obtain ⟨hk', hm', hl', ad', cap', rfl, hr'⟩ := hr'
  refine rn_ ?_; intros
  refine go_gsplit rfl rfl (fun g1 => ?_) (fun g1 => ?_) <;> (refine st_ ?_; (refine rn_ ?_; intros))
  · refine x_ret rfl hQ hmb (by rw [hty]; rfl) rfl ?_; simp only [SV.den, resV]
    have : (k == k') = false := by simpa using g1
    simp only [veq, this, decide_true, decide_false, if_true, if_false, Bool.true_and, Bool.false_and, Bool.and_false, Bool.and_true, Bool.false_eq_true, Bool.true_eq_false, reduceIte]
  have e1 : (k == k') = true := by simpa using g1
  refine go_gsplit rfl rfl (fun g2 => ?_) (fun g2 => ?_) <;> (refine st_ ?_; (refine rn_ ?_; intros))
  · refine x_ret rfl hQ hmb (by rw [hty]; rfl) rfl ?_; simp only [SV.den, resV]
    have : (m == m') = false := by simpa using g2
    simp only [veq, this, decide_true, decide_false, if_true, if_false, Bool.true_and, Bool.false_and, Bool.and_false, Bool.and_true, Bool.false_eq_true, Bool.true_eq_false, reduceIte]
  have e2 : (m == m') = true := by simpa using g2
  refine x_split rfl rfl rfl (fun g3 => ?_) (fun g3 => ?_) <;> (refine st_ ?_; (refine ru_ ?_; intros))
  · have : l.length ≠ l'.length := by simp at g3; omega
    refine x_ret rfl hQ hmb (by rw [hty]; rfl) rfl ?_; simp only [SV.den, resV]
    simp only [veq, veqL_len l l' this, decide_true, decide_false, if_true, if_false, Bool.true_and, Bool.false_and, Bool.and_false, Bool.and_true, Bool.false_eq_true, Bool.true_eq_false, reduceIte]
  have hll : l'.length = l.length := by simp at g3; omega
  refine go_keep [2, 3, 5] [0, 1] ?_
  refine st_ ?_
  rename_i b0 b1
  refine x_loop rfl (fun q s => ∃ (j : Nat) (G' : Hp), j ≤ l.length ∧ q = l.length - j ∧ Le G G' ∧ veqL l l' = veqL (l.drop j) (l'.drop j) ∧
    s = ⟨[(2, .p 0 b0 0), (3, .p 1 b1 0), (5, .v (.int .i64 j))], [(0, b0, .c 28 [.v (.int .i64 k), .v (.int .i64 m), .v (.slice ad l.length cap)]), (1, b1, .c 28 [.v (.int .i64 k'), .v (.int .i64 m'), .v (.slice ad' l'.length cap')])], G', []⟩) ⟨0, G, by omega, rfl, Le.refl _, by simp, rfl⟩ ?_
  rintro q s ⟨j, G', hj, hq, hle, hc, rfl⟩ ih
  refine rn_ ?_; intros
  refine x_if rfl rfl rfl rfl (fun ht => ?_) (fun ht => ?_)
  · have hlt : j < l.length := by simp at ht; omega
    have hlt' : j < l'.length := by omega
    rcases hr with rfl | ⟨b, off, cs, rfl, ha, hrV⟩
    · simp at hlt
    rcases hr' with rfl | ⟨b', off', cs', rfl, ha', hrV'⟩
    · simp at hlt'
    obtain ⟨adx, capx, hat, hrx⟩ := At_get ha hrV hlt
    obtain ⟨ady, capy, haty, hry⟩ := At_get ha' hrV' hlt'
    have hdrop : l.drop j = l[j] :: l.drop (j + 1) := List.drop_eq_getElem_cons hlt
    have hdrop' : l'.drop j = l'[j] :: l'.drop (j + 1) := List.drop_eq_getElem_cons hlt'
    refine rn_ ?_; intros
    refine x_draw rfl (by rw [hP]; kernel_rfl) rfl (by kernel_rfl) ?_
    refine runq 400 hty hnt ?_; refine st_ ?_
    refine q_q (by rw [hnt]; rfl) (quiet_index (by rw [hty]; rfl) (by rw [hty]; rfl) rfl rfl rfl (by omega) (by omega)) ?_
    refine q_q (by rw [hnt]; rfl) (quiet_load (by rw [hty]; rfl) rfl (by simp [TK.agg]) (hat.mono hle) rfl) ?_
    refine runq 400 hty hnt ?_; refine st_ ?_
    refine q_q (by rw [hnt]; rfl) (quiet_index (by rw [hty]; rfl) (by rw [hty]; rfl) rfl rfl rfl (by omega) (by omega)) ?_
    refine q_q (by rw [hnt]; rfl) (quiet_load (by rw [hty]; rfl) rfl (by simp [TK.agg]) (haty.mono hle) rfl) ?_
    refine q_callf (by rw [hnt]; rfl) (by rw [hP]; kernel_rfl) rfl (hP ▸ IH l[j] (List.getElem_mem hlt) l'[j] _ _ G' (VT.rep_mono hle hrx) (VT.rep_mono hle hry)) ?_
    refine runq 400 hty hnt ?_; refine st_ ?_
    refine q_end ?_
    refine rn_ ?_; intros
    refine x_if rfl rfl rfl rfl (fun hv => ?_) (fun hv => ?_)
    · have hv' : veq l[j] l'[j] = false := by simpa using hv
      refine rn_ ?_; intros
      refine x_ret rfl hQ hmb (by rw [hty]; rfl) rfl ?_; simp only [SV.den, resV]
      simp only [veq, hc, hdrop, hdrop', veqL, hv', decide_true, decide_false, if_true, if_false, Bool.true_and, Bool.false_and, Bool.and_false, Bool.and_true, Bool.false_eq_true, Bool.true_eq_false, reduceIte]
    · have hv' : veq l[j] l'[j] = true := by simpa using hv
      refine rn_ ?_; intros
      rw [wr (by omega) (by omega)]
      refine go_keep [2, 3, 5] [0, 1] ?_
      refine st_ ?_
      refine ih (l.length - (j + 1)) _ (by omega) ⟨j + 1, G', by omega, rfl, hle, ?_, by simp⟩
      rw [hc, hdrop, hdrop']; simp only [veqL, hv', decide_true, decide_false, if_true, if_false, Bool.true_and, Bool.false_and, Bool.and_false, Bool.and_true, Bool.false_eq_true, Bool.true_eq_false, reduceIte]
  · have hge : l.length ≤ j := by simp at ht; omega
    refine rn_ ?_; intros
    refine x_ret rfl hQ hmb (by rw [hty]; rfl) rfl ?_; simp only [SV.den, resV]
    simp only [veq, e1, e2, hc, veqL_nil (l.drop j) (l'.drop j) (by simp; omega) (by simp; omega), decide_true, decide_false, if_true, if_false, Bool.true_and, Bool.false_and, Bool.and_false, Bool.and_true, Bool.false_eq_true, Bool.true_eq_false, reduceIte]

theorem same_ok (x y : VT) (sl sl' : Value) (G : Hp) (hr : x.rep G sl) (hr' : y.rep G sl') : Pure Try.prog 54 [.agg #[.int .i64 x.k, .int .i64 x.n, sl], .agg #[.int .i64 y.k, .int .i64 y.n, sl']] G (fun r _ => r = .bool (sml x && sml y && veq x y)) := by
  obtain ⟨ad, cap, rfl⟩ := VT.rep_slice hr
  obtain ⟨ad', cap', rfl⟩ := VT.rep_slice hr'
  refine enterX ty tyok Try.func54 rfl Try.ntmps54 [.a [.v (.int .i64 x.k), .v (.int .i64 x.n), .v _], .a [.v (.int .i64 y.k), .v (.int .i64 y.n), .v _]] (by simp) ?_
  intro C hP hQ hnt hty hmb hmh hro; have hQp := qp_body hQ; refine st_ ?_
  refine rn_ ?_; intros
  refine go_call (by rw [hnt]; rfl) (by rw [hP]; kernel_rfl) rfl (hP ▸ small_ok x _ G hr) ?_
  rintro v G1 (hle1 : Le G G1) rfl
  refine rn_ ?_; intros
  refine go_gsplit rfl rfl (fun g1 => ?_) (fun g1 => ?_) <;> (refine st_ ?_; (refine rn_ ?_; intros))
  · refine go_call (by rw [hnt]; rfl) (by rw [hP]; kernel_rfl) rfl (hP ▸ small_ok y _ G1 (VT.rep_mono hle1 hr')) ?_
    rintro v G2 (hle2 : Le G1 G2) rfl
    refine rn_ ?_; intros
    refine go_gsplit rfl rfl (fun g2 => ?_) (fun g2 => ?_) <;> (refine st_ ?_; (refine rn_ ?_; intros))
    · have h02 := hle1.trans hle2
      refine go_call (by rw [hnt]; rfl) (by rw [hP]; kernel_rfl) rfl (hP ▸ equal_ok x y _ _ G2 (VT.rep_mono h02 hr) (VT.rep_mono h02 hr')) ?_
      rintro v G3 (hle3 : Le G2 G3) rfl
      refine rn_ ?_; intros
      refine x_ret rfl hQ hmb (by rw [hty]; rfl) rfl ?_; simp only [SV.den, resV]
      simp only [g1, g2, decide_true, decide_false, if_true, if_false, Bool.true_and, Bool.false_and, Bool.and_false, Bool.and_true, Bool.false_eq_true, Bool.true_eq_false, reduceIte]
    · refine x_ret rfl hQ hmb (by rw [hty]; rfl) rfl ?_; simp only [SV.den, resV]
      simp only [g1, g2, decide_true, decide_false, if_true, if_false, Bool.true_and, Bool.false_and, Bool.and_false, Bool.and_true, Bool.false_eq_true, Bool.true_eq_false, reduceIte]
  · refine x_ret rfl hQ hmb (by rw [hty]; rfl) rfl ?_; simp only [SV.den, resV]
    simp only [g1, decide_true, decide_false, if_true, if_false, Bool.true_and, Bool.false_and, Bool.and_false, Bool.and_true, Bool.false_eq_true, Bool.true_eq_false, reduceIte]
theorem refSame_ok (x y : VT) (sl sl' : Value) (G : Hp) (hr : x.rep G sl) (hr' : y.rep G sl') (hb : tsz x ≤ 2000000) (hb' : tsz y ≤ 2000000) : Pure Try.prog 20 [.agg #[.int .i64 x.k, .int .i64 x.n, sl], .agg #[.int .i64 y.k, .int .i64 y.n, sl']] G (fun r _ => r = .bool (sml x && sml y && veq x y)) := by
  obtain ⟨ad, cap, rfl⟩ := VT.rep_slice hr
  obtain ⟨ad', cap', rfl⟩ := VT.rep_slice hr'
  refine enterX ty tyok Try.func20 rfl Try.ntmps20 [.a [.v (.int .i64 x.k), .v (.int .i64 x.n), .v _], .a [.v (.int .i64 y.k), .v (.int .i64 y.n), .v _]] (by simp) ?_
  intro C hP hQ hnt hty hmb hmh hro; have hQp := qp_body hQ; refine st_ ?_
  refine rn_ ?_; intros
  refine go_call (by rw [hnt]; rfl) (by rw [hP]; kernel_rfl) rfl (hP ▸ refsize_ok x _ G hr hb) ?_
  rintro v G1 (hle1 : Le G G1) rfl
  refine rn_ ?_; intros
  refine go_gsplit rfl rfl (fun g1 => ?_) (fun g1 => ?_) <;> (refine st_ ?_; (refine rn_ ?_; intros))
  · refine go_call (by rw [hnt]; rfl) (by rw [hP]; kernel_rfl) rfl (hP ▸ refsize_ok y _ G1 (VT.rep_mono hle1 hr') hb') ?_
    rintro v G2 (hle2 : Le G1 G2) rfl
    refine rn_ ?_; intros
    refine go_gsplit rfl rfl (fun g2 => ?_) (fun g2 => ?_) <;> (refine st_ ?_; (refine rn_ ?_; intros))
    · have h02 := hle1.trans hle2
      refine go_call (by rw [hnt]; rfl) (by rw [hP]; kernel_rfl) rfl (hP ▸ refsame_ok x y _ _ G2 (VT.rep_mono h02 hr) (VT.rep_mono h02 hr')) ?_
      rintro v G3 (hle3 : Le G2 G3) rfl
      refine rn_ ?_; intros
      refine x_ret rfl hQ hmb (by rw [hty]; rfl) rfl ?_; simp only [SV.den, resV]
      simp only [sml, g1, g2, decide_true, decide_false, if_true, if_false, Bool.true_and, Bool.false_and, Bool.and_false, Bool.and_true, Bool.false_eq_true, Bool.true_eq_false, reduceIte]
    · refine x_ret rfl hQ hmb (by rw [hty]; rfl) rfl ?_; simp only [SV.den, resV]
      simp only [sml, g1, g2, decide_true, decide_false, if_true, if_false, Bool.true_and, Bool.false_and, Bool.and_false, Bool.and_true, Bool.false_eq_true, Bool.true_eq_false, reduceIte]
  · refine x_ret rfl hQ hmb (by rw [hty]; rfl) rfl ?_; simp only [SV.den, resV]
    simp only [sml, g1, decide_true, decide_false, if_true, if_false, Bool.true_and, Bool.false_and, Bool.and_false, Bool.and_true, Bool.false_eq_true, Bool.true_eq_false, reduceIte]
end Go.Proofs.Ytpmmbjcgabnloaa
namespace Go.Proofs.Ytpmmbjcgabnloaa
set_option linter.unusedSimpArgs false
set_option linter.unusedVariables false
open Go.Sx

theorem lay_at {α : Type} : ∀ (a b c d : List α), b.length = c.length → lay (a ++ b ++ d) a.length c = some (a ++ c ++ d)
  | [], [], [], d, _ => by simp [lay]
  | [], [], _ :: _, d, h => by simp at h
  | [], _ :: _, [], d, h => by simp at h
  | [], x :: b, y :: c, d, h => by
    have := lay_at [] b c d (by simpa using h)
    simp only [List.nil_append, List.length_nil] at this
    simp [lay, this]
  | x :: a, b, [], d, h => by
    have hb : b = [] := List.length_eq_zero_iff.1 (by simpa using h)
    subst hb
    simp [lay]
  | x :: a, b, y :: c, d, h => by
    have := lay_at a b (y :: c) d h
    rw [List.append_assoc, List.append_assoc] at this
    simp only [List.cons_append, List.length_cons, List.append_assoc] at this ⊢
    simp [lay, this]
theorem tszL_mem : ∀ {l : List VT} {x : VT}, x ∈ l → tsz x ≤ tszL l
  | y :: l, x, h => by
    simp only [tszL]
    rcases List.mem_cons.1 h with rfl | h
    · omega
    · have := tszL_mem h; omega
def Copied (x : VT) (v : Value) (G : Hp) : Prop := ∃ ad cap, v = .agg #[.int .i64 x.k, .int .i64 x.n, .slice ad x.l.length cap] ∧ x.rep G (.slice ad x.l.length cap)

set_option maxHeartbeats 4000000 in
theorem clone_ok (x : VT) : ∀ (sl : Value) (G : Hp) (hr : x.rep G sl) (hb : tsz x ≤ 2000000), Pure Try.prog 66 [.agg #[.int .i64 x.k, .int .i64 x.n, sl]] G (Copied x) := by
  induction x using VT.ind with
  | h k m l IH =>
  intro sl G hr hb
  have hr0 := hr
  refine enterX ty tyok Try.func66 rfl Try.ntmps66 [.a [.v (.int .i64 k), .v (.int .i64 m), .v sl]] (by simp) ?_
  intro C hP hQ hnt hty hmb hmh hro; have hQp := qp_body hQ; refine st_ ?_
  rw [rep_iff] at hr
  obtain ⟨hk, hm, hl, ad, cap, rfl, hr⟩ := hr
  have htl := tszL_len l
  have htx : tsz (.mk k m l) = 1 + tszL l := by simp only [tsz]
  refine rn_ ?_; intros
  refine x_if rfl rfl rfl rfl (fun ht => ?_) (fun ht => ?_)
  · have hpos : 0 < l.length := by simp at ht; first | exact ht | exact List.length_pos_iff.2 ht
    rcases hr with rfl | ⟨b, off, cs, rfl, ha, hrV⟩
    · simp at hpos
    refine rn_ ?_; intros
    refine go_make 3 (by rw [hnt]; rfl) (by rw [hty]; rfl) (by rw [hty]; rfl) rfl rfl (Nat.le_refl _) rfl (by omega) (by omega) (by simp only []; omega) (by simp) ?_
    intro g
    refine rn_ ?_; intros
    refine go_keep [2, 3, 21, 22, 23] [1, 2, 3] ?_
    refine st_ ?_
    rename_i b0 b1 b2
    refine x_loop rfl (fun q s => ∃ (j : Nat) (G' : Hp) (xs : List Value), j ≤ l.length ∧ q = l.length - j ∧ Le G G' ∧ repV G' (l.take j) xs ∧
      s = ⟨[(2, .p 1 b1 0), (3, .p 2 b2 0), (21, .v (.slice (some ⟨b, off, none⟩) l.length cap)), (22, .v (.int .i64 l.length)), (23, .v (.int .i64 j))],
        [(1, b1, .c 28 [.v (.int .i64 0), .v (.int .i64 0), .v (.slice none 0 0)]), (2, b2, .c 28 [.v (.int .i64 k), .v (.int .i64 m), .v (.slice (some ⟨g, 0, none⟩) l.length l.length)]),
         (3, g, .row (.slice (some ⟨g, 0, none⟩) l.length l.length) 28 3 l.length (xs ++ rep [.int .i64 0, .int .i64 0, .slice none 0 0] (l.length - j)))], G', []⟩)
      ⟨0, G, [], by omega, rfl, Le.refl _, by simp [repV], by simp⟩ ?_
    rintro q s ⟨j, G', xs, hj, hq, hle, hxs, rfl⟩ ih
    refine rn_ ?_; intros
    refine x_if rfl rfl rfl rfl (fun hj2 => ?_) (fun hj2 => ?_)
    · have hlt : j < l.length := by simp at hj2; omega
      obtain ⟨adx, capx, hat, hrx⟩ := At_get ha hrV hlt
      have hxl := repV_len hxs
      refine rn_ ?_; intros
      refine go_q (by rw [hnt]; rfl) (quiet_index (by rw [hty]; rfl) (by rw [hty]; rfl) rfl rfl rfl (by omega) (by omega)) ?_
      refine go_q (by rw [hnt]; rfl) (quiet_load (by rw [hty]; rfl) rfl (by simp [TK.agg]) (hat.mono hle) rfl) ?_
      refine rn_ ?_; intros
      rename_i b4
      refine go_keep [2, 3, 4, 5, 21, 22, 23] [1, 2, 3, 4] ?_
      refine st_ ?_
      refine x_held [(2, b2, .c 28 [.v (.int .i64 k), .v (.int .i64 m), .v (.slice (some ⟨g, 0, none⟩) l.length l.length)]), (4, b4, .c 28 [.v (.int .i64 l[j].k), .v (.int .i64 l[j].n), .v (.slice adx l[j].l.length capx)])] rfl (by rw [hP]; kernel_rfl) rfl rfl rfl ?_; refine st_ ?_
      refine h_take 0 rfl (by kernel_rfl) (by kernel_rfl) (by kernel_rfl) hQp (by rw [hnt]; rfl) (allIn (by repeat (first | exact trivial | refine ⟨rfl, ?_⟩))) (by first | exact Le.refl _ | assumption) (quiet_op (by rw [hty]; first | rfl | (refine st_ ?_; rfl))) ?_; refine st_ ?_
      refine h_take 1 rfl (by kernel_rfl) (by kernel_rfl) (by kernel_rfl) hQp (by rw [hnt]; rfl) (allIn (by repeat (first | exact trivial | refine ⟨rfl, ?_⟩))) (by first | exact Le.refl _ | assumption) (quiet_op (by rw [hty]; first | rfl | (refine st_ ?_; rfl))) ?_; refine st_ ?_
      refine h_take 2 rfl (by kernel_rfl) (by kernel_rfl) (by kernel_rfl) hQp (by rw [hnt]; rfl) (allIn (by repeat (first | exact trivial | refine ⟨rfl, ?_⟩))) (by first | exact Le.refl _ | assumption) (quiet_op (by rw [hty]; first | rfl | (refine st_ ?_; rfl))) ?_; refine st_ ?_
      refine h_take 3 rfl (by kernel_rfl) (by kernel_rfl) (by kernel_rfl) hQp (by rw [hnt]; rfl) (allIn (by repeat (first | exact trivial | refine ⟨rfl, ?_⟩))) (by first | exact Le.refl _ | assumption) (quiet_op (by rw [hty]; first | rfl | (refine st_ ?_; rfl))) ?_; refine st_ ?_
      refine h_one 4 rfl (by kernel_rfl) ?_
      have htj := tszL_mem (List.getElem_mem hlt)
      have htj' : tsz l[j] ≤ 2000000 := by omega
      refine go_call (by rw [hnt]; rfl) (by rw [hP]; kernel_rfl) rfl (hP ▸ IH l[j] (List.getElem_mem hlt) _ G' (VT.rep_mono hle hrx) htj') ?_
      rintro v G1 (hle1 : Le G' G1) ⟨adc, capc, rfl, hrc⟩
      refine rn_ ?_; intros
      refine h_hs (allIn (by repeat (first | exact trivial | refine ⟨rfl, ?_⟩))) (by first | exact Le.refl _ | assumption) ?_
      refine h_one 5 rfl (by kernel_rfl) ?_
      refine go_q (by rw [hnt]; rfl) (quiet_index (by rw [hty]; rfl) (by rw [hty]; rfl) rfl rfl rfl (by omega) (by omega)) ?_
      refine rn_ ?_; intros
      refine h_hs (allIn (by repeat (first | exact trivial | refine ⟨rfl, ?_⟩))) (by first | exact Le.refl _ | assumption) ?_
      refine h_one 6 rfl (by kernel_rfl) ?_
      have hsucc : l.length - j = (l.length - (j + 1)) + 1 := by omega
      have hlay : lay (xs ++ rep [.int .i64 0, .int .i64 0, .slice none 0 0] (l.length - j)) (j * 3) [.int .i64 l[j].k, .int .i64 l[j].n, .slice adc l[j].l.length capc] =
          some (xs ++ [.int .i64 l[j].k, .int .i64 l[j].n, .slice adc l[j].l.length capc] ++ rep [.int .i64 0, .int .i64 0, .slice none 0 0] (l.length - (j + 1))) := by
        have h0 : j * 3 = xs.length := by rw [hxl, List.length_take, Nat.min_eq_left hj]
        rw [hsucc, h0, rep, ← List.append_assoc]
        exact lay_at xs _ _ _ (by simp)
      refine go_storeR 3 rfl (by rw [hty]; rfl) rfl rfl rfl rfl rfl rfl hlay ?_
      refine rn_ ?_; intros
      refine h_hs (allIn (by repeat (first | exact trivial | refine ⟨rfl, ?_⟩))) (by first | exact Le.refl _ | assumption) ?_
      refine h_end (by kernel_rfl) ?_
      refine rn_ ?_; intros
      rw [wr (by omega) (by omega)]
      refine go_keep [2, 3, 21, 22, 23] [1, 2, 3] ?_
      refine st_ ?_
      refine ih (l.length - (j + 1)) _ (by omega) ⟨j + 1, G1, xs ++ [.int .i64 l[j].k, .int .i64 l[j].n, .slice adc l[j].l.length capc], by omega, rfl, hle.trans hle1, ?_, by simp⟩
      have htk : l.take (j + 1) = l.take j ++ [l[j]] := by rw [List.take_append_getElem]
      rw [htk]
      exact repV_append (repV_mono hle1 hxs) (by simp only [repV]; exact ⟨_, _, rfl, hrc, rfl⟩)
    · have hge : j = l.length := by simp at hj2; omega
      subst hge
      refine rn_ ?_; intros
      simp only [Nat.sub_self, rep, List.append_nil]
      refine go_pubrow 3 rfl (by omega) ?_
      intro G2 (hle2 : Le G' G2) hat2
      refine st_ ?_
      refine x_retc rfl hQ hmb rfl (by rw [hty]; simp only [so, sq, zy, zz, tyE, SO', SQ', opQ, opStore, opAlloc, ev, putS, dOk, cv, SV.cs, SV.one, SV.bool?, eqB, Value.oneCell', ldOwn, binInt, binConst, binBool, binStr, isC, TK.agg, rv, rv1, ldV, resOne, resV, Nat.reduceAdd, Nat.reduceMul, Nat.reduceSub, Nat.reduceLT, Nat.reduceLeDiff, Nat.reduceEqDiff, Nat.reduceBEq, reduceIte, reduceCtorEq, eq_self]; try rfl) rfl ?_; simp only [SV.den, resV, dens]
      refine ⟨_, _, rfl, ?_⟩
      rw [rep_iff]
      rw [List.take_length] at hxs
      exact ⟨hk, hm, hl, _, _, rfl, .inr ⟨g, 0, xs, rfl, hat2, repV_mono hle2 hxs⟩⟩
  · refine rn_ ?_; intros
    refine x_retc rfl hQ hmb rfl (by rw [hty]; simp only [so, sq, zy, zz, tyE, SO', SQ', opQ, opStore, opAlloc, ev, putS, dOk, cv, SV.cs, SV.one, SV.bool?, eqB, Value.oneCell', ldOwn, binInt, binConst, binBool, binStr, isC, TK.agg, rv, rv1, ldV, resOne, resV, Nat.reduceAdd, Nat.reduceMul, Nat.reduceSub, Nat.reduceLT, Nat.reduceLeDiff, Nat.reduceEqDiff, Nat.reduceBEq, reduceIte, reduceCtorEq, eq_self]; try rfl) rfl ?_; simp only [SV.den, resV, dens]
    have hl0 : l = [] := List.length_eq_zero_iff.1 (by simp at ht; first | omega | (subst ht; rfl))
    subst hl0
    refine ⟨none, 0, rfl, ?_⟩
    rw [rep_iff]
    refine ⟨hk, hm, hl, none, 0, rfl, .inl rfl⟩
end Go.Proofs.Ytpmmbjcgabnloaa
namespace Go.Proofs.Ytpmmbjcgabnloaa
set_option linter.unusedSimpArgs false
set_option linter.unusedVariables false
open Go.Sx

abbrev zeroV : Value := .agg #[.int .i64 0, .int .i64 0, .slice none 0 0]
set_option maxHeartbeats 4000000
theorem unit_ok (G : Hp) : Pure Try.prog 75 [] G (fun v _ => v = .agg #[.int .i64 1, .int .i64 0, .slice none 0 0]) := by
  refine enterX ty tyok Try.func75 rfl Try.ntmps75 [] (by simp) ?_
  intro C hP hQ hnt hty hmb hmh hro; have hQp := qp_body hQ; refine st_ ?_
  refine rn_ ?_; intros
  refine x_retc rfl hQ hmb rfl (by rw [hty]; simp only [so, sq, zy, zz, tyE, SO', SQ', opQ, opStore, opAlloc, ev, putS, dOk, cv, SV.cs, SV.one, SV.bool?, eqB, Value.oneCell', ldOwn, binInt, binConst, binBool, binStr, isC, TK.agg, rv, rv1, ldV, resOne, resV, Nat.reduceAdd, Nat.reduceMul, Nat.reduceSub, Nat.reduceLT, Nat.reduceLeDiff, Nat.reduceEqDiff, Nat.reduceBEq, reduceIte, reduceCtorEq, eq_self]; try rfl) rfl ?_; simp only [SV.den, resV, dens]
theorem int_ok (n : Int) (G : Hp) : Pure Try.prog 74 [.int .i64 n] G (fun v _ => v = .agg #[.int .i64 2, .int .i64 n, .slice none 0 0]) := by
  refine enterX ty tyok Try.func74 rfl Try.ntmps74 [.v (.int .i64 n)] (by simp) ?_
  intro C hP hQ hnt hty hmb hmh hro; have hQp := qp_body hQ; refine st_ ?_
  refine rn_ ?_; intros
  refine x_retc rfl hQ hmb rfl (by rw [hty]; simp only [so, sq, zy, zz, tyE, SO', SQ', opQ, opStore, opAlloc, ev, putS, dOk, cv, SV.cs, SV.one, SV.bool?, eqB, Value.oneCell', ldOwn, binInt, binConst, binBool, binStr, isC, TK.agg, rv, rv1, ldV, resOne, resV, Nat.reduceAdd, Nat.reduceMul, Nat.reduceSub, Nat.reduceLT, Nat.reduceLeDiff, Nat.reduceEqDiff, Nat.reduceBEq, reduceIte, reduceCtorEq, eq_self]; try rfl) rfl ?_; simp only [SV.den, resV, dens]
theorem refint_ok (n : Int) (G : Hp) : Pure Try.prog 33 [.int .i64 n] G (fun v _ => v = .agg #[.int .i64 2, .int .i64 n, .slice none 0 0]) := by
  refine enterX ty tyok Try.func33 rfl Try.ntmps33 [.v (.int .i64 n)] (by simp) ?_
  intro C hP hQ hnt hty hmb hmh hro; have hQp := qp_body hQ; refine st_ ?_
  refine rn_ ?_; intros
  refine x_retc rfl hQ hmb rfl (by rw [hty]; simp only [so, sq, zy, zz, tyE, SO', SQ', opQ, opStore, opAlloc, ev, putS, dOk, cv, SV.cs, SV.one, SV.bool?, eqB, Value.oneCell', ldOwn, binInt, binConst, binBool, binStr, isC, TK.agg, rv, rv1, ldV, resOne, resV, Nat.reduceAdd, Nat.reduceMul, Nat.reduceSub, Nat.reduceLT, Nat.reduceLeDiff, Nat.reduceEqDiff, Nat.reduceBEq, reduceIte, reduceCtorEq, eq_self]; try rfl) rfl ?_; simp only [SV.den, resV, dens]
theorem vld_pair {x : VT} (hv : vld x = true) (hk : (x.k == 3) = true) : x.l.length = 2 := by
  obtain ⟨k, n, l⟩ := x
  simp only [VT.k, beq_iff_eq] at hk
  subst hk
  simp [vld, shps, shp] at hv
  simp only [VT.l]
  omega
end Go.Proofs.Ytpmmbjcgabnloaa
namespace Go.Proofs.Ytpmmbjcgabnloaa
set_option linter.unusedSimpArgs false
set_option linter.unusedVariables false
open Go.Sx

theorem rep_leaf (G : Hp) (k n : Int) (hk : isI64 k) (hn : isI64 n) : (VT.mk k n []).rep G (.slice none 0 0) := by
  rw [rep_iff]
  exact ⟨hk, hn, by simp, none, 0, rfl, .inl rfl⟩
set_option maxHeartbeats 8000000
end Go.Proofs.Ytpmmbjcgabnloaa
namespace Go.Proofs.Ytpmmbjcgabnloaa
set_option linter.unusedSimpArgs false
set_option linter.unusedVariables false
open Go.Sx

set_option maxHeartbeats 4000000
theorem copy_ok (x : VT) (sl : Value) (G : Hp) (hr : x.rep G sl) (hb : tsz x ≤ 2000000) : Pure Try.prog 44 [.agg #[.int .i64 x.k, .int .i64 x.n, sl]] G (fun v G' => (sml x = true ∧ Copied x v G') ∨ (sml x = false ∧ v = zeroV)) := by
  obtain ⟨ad, cap, rfl⟩ := VT.rep_slice hr
  refine enterX ty tyok Try.func44 rfl Try.ntmps44 [.a [.v (.int .i64 x.k), .v (.int .i64 x.n), .v _]] (by simp) ?_
  intro C hP hQ hnt hty hmb hmh hro; have hQp := qp_body hQ; refine st_ ?_
  refine rn_ ?_; intros
  refine go_callf (by rw [hnt]; rfl) (by rw [hP]; kernel_rfl) rfl (hP ▸ small_ok x _ G hr) ?_; refine rn_ ?_; intros
  refine x_if rfl rfl rfl rfl (fun ht => ?_) (fun ht => ?_)
  · refine rn_ ?_; intros
    refine x_retc rfl hQ hmb rfl (by rw [hty]; simp only [so, sq, zy, zz, tyE, SO', SQ', opQ, opStore, opAlloc, ev, putS, dOk, cv, SV.cs, SV.one, SV.bool?, eqB, Value.oneCell', ldOwn, binInt, binConst, binBool, binStr, isC, TK.agg, rv, rv1, ldV, resOne, resV, Nat.reduceAdd, Nat.reduceMul, Nat.reduceSub, Nat.reduceLT, Nat.reduceLeDiff, Nat.reduceEqDiff, Nat.reduceBEq, reduceIte, reduceCtorEq, eq_self]; try rfl) rfl ?_; simp only [SV.den, resV, dens]
    exact .inr ⟨by simpa using ht, by first | rfl | trivial⟩
  · refine rn_ ?_; intros
    refine go_call (by rw [hnt]; rfl) (by rw [hP]; kernel_rfl) rfl (hP ▸ clone_ok x _ G hr hb) ?_
    rintro v G2 (hle2 : Le G G2) ⟨adc, capc, rfl, hrc⟩
    refine rn_ ?_; intros
    refine x_retc rfl hQ hmb rfl (by rw [hty]; simp only [so, sq, zy, zz, tyE, SO', SQ', opQ, opStore, opAlloc, ev, putS, dOk, cv, SV.cs, SV.one, SV.bool?, eqB, Value.oneCell', ldOwn, binInt, binConst, binBool, binStr, isC, TK.agg, rv, rv1, ldV, resOne, resV, Nat.reduceAdd, Nat.reduceMul, Nat.reduceSub, Nat.reduceLT, Nat.reduceLeDiff, Nat.reduceEqDiff, Nat.reduceBEq, reduceIte, reduceCtorEq, eq_self]; try rfl) rfl ?_; simp only [SV.den, resV, dens]
    exact .inl ⟨by simpa using ht, _, _, rfl, hrc⟩
end Go.Proofs.Ytpmmbjcgabnloaa
namespace Go.Proofs.Ytpmmbjcgabnloaa
set_option linter.unusedSimpArgs false
set_option linter.unusedVariables false
open Go.Sx

end Go.Proofs.Ytpmmbjcgabnloaa
namespace Go.Proofs.Ytpmmbjcgabnloaa
set_option linter.unusedSimpArgs false
set_option linter.unusedVariables false
open Go.Sx

set_option maxHeartbeats 4000000
end Go.Proofs.Ytpmmbjcgabnloaa
namespace Go.Proofs.Ytpmmbjcgabnloaa
set_option linter.unusedSimpArgs false
set_option linter.unusedVariables false
open Go.Sx

set_option maxHeartbeats 4000000
end Go.Proofs.Ytpmmbjcgabnloaa
namespace Go.Sx
set_option linter.unusedSimpArgs false
set_option linter.unusedVariables false
section
variable {α : Type} {r : Rp α} {G : Hp} {l : List α}
theorem Rp.srcS {v : Value} (h : r.S G l v) : ∃ cs, r.L G l cs ∧ ((∃ c, (SV.v v).den = .slice none 0 c ∧ l.length = 0 ∧ cs = []) ∨ ∀ (C : Ctx) (s : St), s.G = G → Src C s (.v v) l.length cs) := by
  obtain ⟨_, ad, cap, rfl, h⟩ := h
  exact Rp.src h
end
end Go.Sx
namespace Go.Sx
set_option linter.unusedSimpArgs false
set_option linter.unusedVariables false
section
variable {C : Ctx} {K : List KI} {s : St} {R : Array Oper} {l : List Oper} {d : Option Tmp} {t : TypeId} {pos : String} {aft : Array Edge}
theorem q_gundef {op : Op} {j g : Nat} {want : Bool} (hj : (R[j]?).bind (·.dst) = some g) (hd : dOk C.nt d = true) (hu : lk g s.sl = some (.v undef))
    (h2 : SGo C (.q (Mem C s.own s.G) R l :: K) ⟨putS d (.v undef) s.sl, s.own, s.G, s.df⟩) : SGo C (.q (Mem C s.own s.G) R (⟨d, op, t, pos, aft, some (j, want)⟩ :: l) :: K) s := by
  intro a w hS
  have hy : yielded R a.tmps j = none := by
    have := hS.sl g _ hu
    simp [yielded, hj, this, SV.den, undef]
  simp only [wpK, wpQuiet, Region.wanted, hy]
  have := h2 _ _ (hS.put hd (.v undef) hS.mem)
  simp only [wpK] at this
  rw [if_neg (by simp)]
  exact this
end
end Go.Sx
namespace Go.Sx
set_option linter.unusedSimpArgs false
set_option linter.unusedVariables false
open Go.RowKit
section
variable {C : Ctx} {K : List KI} {s : St} {R : Array Oper} {t : TypeId} {pos : String} {aft : Array Edge} {own0 : Owns} {G0 : Hp}
end
end Go.Sx
namespace Go.Sx
set_option linter.unusedSimpArgs false
set_option linter.unusedVariables false
open Go.RowKit
section
variable {P : Program} {ro : Option Nat} {Q : Exit → Act → World → Prop}
theorem wpK_pan (ch : List PanicEntry) : ∀ (K : List KI) (a : Act) (w : World), noBr K = true → Q (.panic ch) a w → wpK P ro Q K (.panic ch) a w
  | [], _, _, _, h => h
  | .code _ :: K, a, w, hn, h => wpK_pan ch K a w hn h
  | .loop _ :: K, a, w, hn, h => wpK_pan ch K a w hn h
  | .ops _ _ :: K, a, w, hn, h => wpK_pan ch K a w hn h
  | .q _ _ _ :: K, a, w, hn, h => wpK_pan ch K a w hn h
  | .h _ _ _ _ :: K, a, w, hn, h => wpK_pan ch K a w hn h
  | .hs _ :: K, a, w, hn, h => wpK_pan ch K a w hn h
  | .hu _ _ _ _ _ :: K, a, w, hn, h => wpK_pan ch K a w hn h
  | .blk _ :: K, a, w, hn, h => wpK_pan ch K a w hn h
  | .br _ :: _, _, _, hn, _ => by simp [noBr] at hn
def pE (v : Value) : PanicEntry := { v := v, recovered := false }
def RetP (w : World) (ow : Lds) (v : Value) : Ending → World → Prop := fun e w' =>
  e = .panicked [pE v] ∧ Fr w w' ∧ ∀ g, g < w.heap.size → ¬ mutOf ow g → w'.heap[g]? = w.heap[g]?
def rmAll : List Nat → Owns → Owns
  | [], own => own
  | k :: ks, own => rmAll ks (rmk k own)
theorem lk_rmAll : ∀ (ks : List Nat) (own : Owns) (k : Nat), lk k (rmAll ks own) = if k ∈ ks then none else lk k own
  | [], own, k => by simp [rmAll]
  | j :: ks, own, k => by
    rw [rmAll, lk_rmAll ks, lk_rmk]
    by_cases h : k ∈ ks <;> by_cases h' : k = j <;> simp [h, h']
variable {C : Ctx} {K : List KI} {s : St} {R : Array Oper} {l : List Oper} {d : Option Tmp} {t : TypeId} {pos : String} {aft : Array Edge}
theorem Mem.panicked {own : Owns} {G : Hp} {w w' : World} (h : Mem C own G w) {ks : List Nat} {ow : Lds} (hk : lkAll own ks = some ow) (hn : noDup ks = true) (hf : Fr w w') (hs : ∀ g, g < w.heap.size → ¬ mutOf ow g → w'.heap[g]? = w.heap[g]?) : Mem C (rmAll ks own) G w' := by
  obtain ⟨hl, hget⟩ := lkAll_get hk
  have hmut : ∀ g, mutOf ow g → ∃ k b o, k ∈ ks ∧ lk k own = some (b, o) ∧ o.mut b g := by
    rintro g ⟨i, b, o, hi, hm⟩
    have hlt : i < ks.length := by rw [← hl]; exact (List.getElem?_eq_some_iff.1 hi).1
    obtain ⟨x, hx, hxk⟩ := hget i ks[i] (List.getElem?_eq_getElem hlt)
    rw [hi] at hx; cases hx
    exact ⟨ks[i], b, o, List.getElem_mem hlt, hxk, hm⟩
  refine ⟨fun k b o e => ?_, fun k k' b b' o o' g e e' f f' => ?_, ?_⟩
  · rw [lk_rmAll] at e
    split at e
    · cases e
    · rename_i hkk
      obtain ⟨f1, f2⟩ := h.own _ _ _ e
      refine ⟨OO.holds_same f1 hf fun g hg => hs g (h.lt e hg) fun hm => ?_, f2⟩
      obtain ⟨j, b', o', hj, hjk, hjm⟩ := hmut g hm
      have := h.inj _ _ _ _ _ _ g e hjk hg (OO.mut_blks (h.own _ _ _ hjk).1 hjm)
      subst this; exact hkk hj
  · rw [lk_rmAll] at e e'
    split at e
    · cases e
    · split at e'
      · cases e'
      · exact h.inj _ _ _ _ _ _ _ e e' f f'
  · have hg := h.grow
    have hno : ∀ g, mutOf ow g → G g = none ∧ (C.w0.heap.size ≤ g ∨ g ∈ C.mb) := by
      intro g hm
      obtain ⟨j, b', o', hj, hjk, hjm⟩ := hmut g hm
      obtain ⟨q1, q2, q3⟩ := (h.own _ _ _ hjk).2 g hjm
      refine ⟨q1, ?_⟩
      rcases Nat.lt_or_ge j C.mh with r | r
      · exact (q3 r).symm
      · exact .inl (q2 r)
    refine ⟨hf.os.trans hg.os, hf.tape.trans hg.tape, hf.output.trans hg.output, Nat.le_trans hg.size hf.size, fun j hj hm => ?_, fun j x e => ?_, hg.old⟩
    · rw [hs j (by have := hg.size; omega) fun q => ?_]
      · exact hg.blk j hj hm
      · rcases (hno j q).2 with r | r
        · omega
        · exact hm r
    · have hlt := lt_of_heap (hg.has j x e)
      rw [hs j hlt fun q => by rw [(hno j q).1] at e; cases e]
      exact hg.has j x e
def SPan (C : Ctx) (v : Value) (s : St) : Prop := ∀ a w, Sat C s a w → C.Q (.panic [pE v]) a w
theorem Lent.of {own : Owns} {G : Hp} {w : World} (h : Mem C own G w) {ks : List Nat} {ow : Lds} (hk : lkAll own ks = some ow) (hn : noDup ks = true) : Lent ow G w := by
  obtain ⟨hl, hget⟩ := lkAll_get hk
  have hat : ∀ (i b : Nat) (o : OO), ow[i]? = some (b, o) → ∃ k, ks[i]? = some k ∧ lk k own = some (b, o) := by
    intro i b o hi
    have hlt : i < ks.length := by rw [← hl]; exact (List.getElem?_eq_some_iff.1 hi).1
    obtain ⟨x, hx, hxk⟩ := hget i ks[i] (List.getElem?_eq_getElem hlt)
    rw [hi] at hx; cases hx
    exact ⟨ks[i], List.getElem?_eq_getElem hlt, hxk⟩
  have hnd : ∀ (ks : List Nat), noDup ks = true → ∀ (i j k : Nat), ks[i]? = some k → ks[j]? = some k → i = j := by
    intro ks
    induction ks with
    | nil => intro _ i j k h; simp at h
    | cons x ks ih =>
      intro h i j k hi hj
      simp only [noDup, Bool.and_eq_true, Bool.not_eq_true', List.contains_eq_mem, decide_eq_false_iff_not] at h
      cases i <;> cases j
      · rfl
      · simp at hi hj; subst hi; exact absurd (List.mem_of_getElem? hj) h.1
      · simp at hi hj; subst hj; exact absurd (List.mem_of_getElem? hi) h.1
      · simp at hi hj; rw [ih h.2 _ _ k hi hj]
  refine ⟨fun i b o hi => ?_, fun i j b b' o o' g hi hj f f' => ?_⟩
  · obtain ⟨k, _, hk2⟩ := hat i b o hi
    obtain ⟨f1, f2⟩ := h.own _ _ _ hk2
    refine ⟨?_, fun g hg => (f2 g hg).1⟩
    cases o <;> exact f1
  · obtain ⟨k, hk1, hk2⟩ := hat i b o hi
    obtain ⟨k', hk1', hk2'⟩ := hat j b' o' hj
    have e := h.inj _ _ _ _ _ _ g hk2 hk2' f f'
    subst e
    exact hnd ks hn i j k hk1 hk1'
def RetWP (w : World) (G : Hp) (ow : Lds) (φ : Value → Hp → Lds → Prop) (ψ : Value → Prop) : Ending → World → Prop := fun e w' => RetW w G ow φ e w' ∨ ∃ v, ψ v ∧ RetP w ow v e w'
def PureWP (P : Program) (f : FuncId) (args : List Value) (G : Hp) (ow : Lds) (φ : Value → Hp → Lds → Prop) (ψ : Value → Prop) : Prop :=
  ∀ w, Has w G → Lent ow G w → Calls P f args.toArray w (RetWP w G ow φ ψ)
theorem op_enterP {o : Oper} {a : Act} {w w' : World} {f : FuncId} {args : Array Value} (hrun : (execOp a.eval o).run P w = .ok (.enter f args) w') {Q : Exit → Act → World → Prop} {next : Act → World → Prop}
    (h : Calls P f args w' fun e w'' => (∃ v, e = .returned v ∧ next (a.put o.dst v) w'') ∨ ∃ ch, e = .panicked ch ∧ Q (.panic ch) a w'') : o.wpIn (FR ro) 0 P a w next Q := by
  refine ⟨fun _ _ => trivial, ?_⟩
  have := semAt_run (ro := ro) hrun (by simp)
  show o.uponIn _ _ _ _ _ _ ((o.semAt ro a.eval).run P w)
  rw [this]
  refine ⟨FR_depth _ _, callsFR.2 (h.mono ?_)⟩
  rintro e w'' (⟨v, rfl, hv⟩ | ⟨ch, rfl, hv⟩)
  · exact hv
  · exact hv
theorem go_callWP (ks : List Nat) {f : FuncId} {args : Array Operand} {tys : Array TypeId} {vs : List SV} {ow : Lds} {φ : Value → Hp → Lds → Prop} {ψ : Value → Prop} (hd : dOk C.nt d = true) (hnb : noBr K = true) (hf : canCall C.P f = true) (ha : evs s.sl args.toList = some vs)
    (hk : lkAll s.own ks = some ow) (hn : noDup ks = true) (hks : (∀ k ∈ ks, C.mh ≤ k) ∨ (∀ k ∈ ks, k < C.mh)) (hc : PureWP C.P f (dens vs) s.G ow φ ψ)
    (h : ∀ v G' ow', Le s.G G' → φ v G' ow' → SGo C (.ops R l :: K) ⟨putS d (rv v) s.sl, setO ks ow' s.own, G', s.df⟩)
    (h' : ∀ v, ψ v → SPan C v ⟨s.sl, rmAll ks s.own, s.G, s.df⟩) : SGo C (.ops R (⟨d, .call ⟨.value (.func f), args, tys⟩, t, pos, aft, none⟩ :: l) :: K) s := by
  intro a w hS
  have hargs : args.map a.eval = (dens vs).toArray := by apply Array.ext'; rw [Array.toList_map]; exact evs_ok hS.sl ha
  have hrun : (execOp a.eval ⟨d, .call ⟨.value (.func f), args, tys⟩, t, pos, aft, none⟩).run C.P w = .ok (.enter f (dens vs).toArray) w := by
    simp only [execOp, resolve, hargs, Act.eval, Deferred.ofValue, Sem.run_bind, Sem.run_pure, Result.andThen_ok, invoke]
    simp [callFunc_ok hf]
  refine K_op rfl (op_enterP hrun ((hc w hS.mem.has (Lent.of hS.mem hk hn)).mono ?_))
  rintro e w' (⟨v, G', ow', rfl, q1, q2, q3, q4, q5, q6, q7, q8, q9⟩ | ⟨v, hv, rfl, hf', hs'⟩)
  · refine .inl ⟨v, rfl, ?_⟩
    have hm := hS.mem.lentM hk hn hks q1 q2 q3 q4 q5 q6 q7 q8
    have hle : Le s.G G' := fun b o e => by
      rw [q4 b (lt_of_heap (hS.mem.has b o e))]; exact e
    have hS' := hS.put hd (rv v) hm
    rw [rv_den] at hS'
    exact h v G' ow' hle q9 _ _ hS'
  · refine .inr ⟨_, rfl, wpK_pan _ (.ops R l :: K) a w' hnb (h' v hv a w' ⟨hS.sl, hS.nt, hS.df, hS.mem.panicked hk hn hf' hs'⟩)⟩
theorem go_panic {x : Operand} {y : SV} {T : TypeId} {v : Value} (hnb : noBr K = true) (hx : ev s.sl x = some y) (hy : y.den = .iface T v) (h : SPan C (.iface T v) s) : SGo C (.ops R (⟨d, .panic x, t, pos, aft, none⟩ :: l) :: K) s := by
  intro a w hS
  have hxv := ev_ok hS.sl hx
  rw [hy] at hxv
  refine K_op rfl ⟨fun _ _ => trivial, ?_⟩
  have hp : (Instr.panic (.iface T v)).run C.P w = .halt (.panic (.iface T v)) w := rfl
  have hrun : ∀ ro, ((⟨d, .panic x, t, pos, aft, none⟩ : Oper).semAt ro a.eval).run C.P w = .halt (.panic (.iface T v)) w := by
    intro ro
    cases ro <;> simp [Oper.semAt, execOp, hxv, hp, Sem.run_bind]
  show Oper.uponIn _ _ _ _ _ _ _ _
  rw [hrun]
  exact wpK_pan _ (.ops R l :: K) a w hnb (h a w hS)
theorem x_panWP {fn : Func} {G : Hp} {ow : Lds} {φ : Value → Hp → Lds → Prop} {ψ : Value → Prop} {v : Value} (hQ : C.Q = bodyPost C.P fn (RetWP C.w0 G ow φ ψ)) (hmb : ∀ g, g ∈ C.mb → mutOf ow g) (hdf : s.df = []) (h : ψ v) : SPan C v s := by
  intro a w hS
  rw [hQ]
  have hg := hS.mem.grow
  exact ⟨by rw [hS.df, hdf], .inr ⟨v, h, rfl, hg.fr, fun g hg1 hg2 => hg.blk g hg1 fun q => hg2 (hmb g q)⟩⟩
theorem enterWP {P : Program} {f : FuncId} {fn : Func} {G : Hp} {ow : Lds} {φ : Value → Hp → Lds → Prop} {ψ : Value → Prop} (ty : TypeId → Option TI) (tyok : ∀ T i, ty T = some i → i.ok P T) {nt : Nat}
    (hf : P.funcs[f]? = some fn) (hb : fn.body.isSome = true) (hn : fn.ntmps = nt) (svs : List SV) (hargs : svs.length ≤ nt) {mh : Nat} (hmh : ow.length = mh)
    (h : ∀ C : Ctx, C.P = P → C.Q = bodyPost C.P fn (RetWP C.w0 G ow φ ψ) → C.nt = nt → C.ty = ty → (∀ g, g ∈ C.mb → mutOf ow g) → C.mh = mh → C.ro = none → C.G0 = G → (∀ g, mutOf ow g → blkOf ow g) → SGo C [.code (fn.body.getD .skip)] ⟨enumS 0 svs, enumO 0 ow, G, []⟩) : PureWP P f (dens svs) G ow φ ψ := by
  intro w hw hL
  classical
  refine calls_of_wp hf (body_eq hb) ((wpIn_wide (n := 0)).1 ?_)
  have hlt : ∀ g, blkOf ow g → g < w.heap.size := fun g ⟨i, b, o, e, hg⟩ => OO.holds_lt (hL.own i b o e).1 hg
  have hml : ∀ g, mutOf ow g → g < w.heap.size := fun g ⟨i, b, o, e, hg⟩ => hlt g ⟨i, b, o, e, OO.mut_blks (hL.own i b o e).1 hg⟩
  have hmem : ∀ g, g ∈ (List.range w.heap.size).filter (fun g => decide (mutOf ow g)) ↔ mutOf ow g := fun g => by
    simp only [List.mem_filter, List.mem_range, decide_eq_true_eq]
    exact ⟨fun q => q.2, fun q => ⟨hml g q, q⟩⟩
  have hlk : ∀ k b o, lk k (enumO 0 ow) = some (b, o) → ow[k]? = some (b, o) := fun k b o e => by
    rw [lk_enumO] at e; simpa using e
  have := h ⟨P, bodyPost P fn (RetWP w G ow φ ψ), nt, ty, tyok, w, G, (List.range w.heap.size).filter (fun g => decide (mutOf ow g)), mh, none⟩ rfl rfl rfl rfl (fun g hg => (hmem g).1 hg) rfl rfl rfl (fun g ⟨i, b, o, e, hg⟩ => ⟨i, b, o, e, OO.mut_blks (hL.own i b o e).1 hg⟩) { tmps := (dens svs).toArray ++ Array.replicate (fn.ntmps - (dens svs).toArray.size) undef, defers := [] } w
    ⟨slots_args _ _ _ (fun i x e => by have := (lk_enumS svs 0 i x e).2; simpa using this), by simp [hn, dens_eq]; omega, rfl, ⟨fun k b o e => ?_, fun k k' b b' o o' g e e' f f' => ?_, Grow.refl hw⟩⟩
  · simp only [wpK] at this
    exact this
  · have e' := hlk _ _ _ e
    obtain ⟨h1, h2⟩ := hL.own _ _ _ e'
    refine ⟨h1, fun g hg => ⟨h2 g hg, fun q => ?_, fun _ => .inl ((hmem g).2 ⟨_, _, _, e', hg⟩)⟩⟩
    have hk : k < ow.length := by
      rcases Nat.lt_or_ge k ow.length with q | q
      · exact q
      · rw [List.getElem?_eq_none q] at e'; cases e'
    have q : mh ≤ k := q
    omega
  · exact hL.inj _ _ _ _ _ _ g (hlk _ _ _ e) (hlk _ _ _ e') f f'
def CloD (P : Program) (f : FuncId) (args : List Value) (G : Hp) (ow : Lds) (u : FrameMode) (φ : FrameMode → Hp → Lds → Prop) : Prop :=
  ∀ w, Has w G → Lent ow G w → CallsDIn Fence.wide 0 P f args.toArray u w fun e u' w' => RetW w G ow (fun _ G' ow' => φ u' G' ow') e w'
def dfn (f : FuncId) (cap : List Value) : Deferred := { target := .fn (.func f) cap.toArray, args := #[] }
theorem enterDf {P : Program} {f : FuncId} {fn : Func} {G : Hp} {φ : Value → Hp → Prop} (ty : TypeId → Option TI) (tyok : ∀ T i, ty T = some i → i.ok P T) {nt : Nat}
    (hf : P.funcs[f]? = some fn) (hb : fn.body.isSome = true) (hn : fn.ntmps = nt) (svs : List SV) (hargs : svs.length ≤ nt)
    (h : ∀ C : Ctx, C.P = P → C.Q = bodyPostDIn Fence.wide 0 C.P fn (Ret [] C.w0 C.G0 φ) → C.nt = nt → C.ty = ty → C.mb = [] → C.mh = 0 → C.ro = none → SGo C [.code (fn.body.getD .skip)] ⟨enumS 0 svs, [], G, []⟩) : Pure P f (dens svs) G φ := by
  intro w hw
  refine callsIn_wide.1 (callsIn_of_wp_defers (F := Fence.wide) (n := 0) hf (body_eq hb) trivial ?_)
  have := h ⟨P, bodyPostDIn Fence.wide 0 P fn (Ret [] w G φ), nt, ty, tyok, w, G, [], 0, none⟩ rfl rfl rfl rfl rfl rfl rfl { tmps := (dens svs).toArray ++ Array.replicate (fn.ntmps - (dens svs).toArray.size) undef, defers := [] } w
    ⟨slots_args _ _ _ (fun i x e => by have := (lk_enumS svs 0 i x e).2; simpa using this), by simp [hn, dens_eq]; omega, rfl, ⟨fun k b o e => by simp [lk] at e, fun k k' b b' o o' g e e' f f' => by simp [lk] at e, Grow.refl hw⟩⟩
  simp only [wpK] at this
  exact this
theorem go_defer (hro : C.ro = none) {x : Operand} {tys : Array TypeId} {f : FuncId} {cap : List Value} {y : SV} (hd : dOk C.nt d = true) (hx : ev s.sl x = some y) (hy : y.den = .func (.func f) #[] cap.toArray)
    (h : SGo C (.ops R l :: K) ⟨putS d (.v undef) s.sl, s.own, s.G, dfn f cap :: s.df⟩) : SGo C (.ops R (⟨d, .defer ⟨.value x, #[], tys⟩, t, pos, aft, none⟩ :: l) :: K) s := by
  intro a w hS
  have hxv := ev_ok hS.sl hx
  rw [hy] at hxv
  refine K_op rfl ⟨fun _ _ => trivial, ?_⟩
  have hrun : ((⟨d, .defer ⟨.value x, #[], tys⟩, t, pos, aft, none⟩ : Oper).semAt none a.eval).run C.P w = .ok (.defer (dfn f cap)) w := by
    simp [Oper.semAt, execOp, resolve, hxv, Deferred.ofValue, dfn, Sem.run_bind]
  show Oper.uponIn _ _ _ _ _ _ _ _
  have hrun' : ((⟨d, .defer ⟨.value x, #[], tys⟩, t, pos, aft, none⟩ : Oper).semAt (FR C.ro).round a.eval).run C.P w = .ok (.defer (dfn f cap)) w := by
    rw [hro]; exact hrun
  rw [hrun']
  show wpK _ _ _ _ _ _ _
  have hS' := hS.put hd (.v undef) hS.mem
  have e : ({ a with defers := dfn f cap :: a.defers } : Act).put d undef = { a.put d undef with defers := dfn f cap :: a.defers } := by cases d <;> rfl
  rw [e]
  exact h _ w ⟨hS'.sl, hS'.nt, by simp only []; rw [hS.df], hS'.mem⟩
theorem leave_clo {fn : Func} {φ : Value → Hp → Prop} {a : Act} {w : World} (hS : Sat C s a w) (hmb : C.mb = []) {f : FuncId} {cap : List Value} (hdf : s.df = [dfn f cap]) {u : FrameMode} (hu : u ≠ .run) (hf : canCall C.P f = true) {ks : List Nat} {ow : Lds}
    (hk : lkAll s.own ks = some ow) (hn : noDup ks = true) (hks : (∀ k ∈ ks, C.mh ≤ k) ∨ (∀ k ∈ ks, k < C.mh)) {ψ : FrameMode → Hp → Lds → Prop} (hc : CloD C.P f cap s.G ow u ψ)
    (h : ∀ u' G' ow', Le s.G G' → ψ u' G' ow' → settle u' = .returning ∧ ∃ xs, resAll s.sl C.ty (setO ks ow' s.own) fn.results.toList = some xs ∧ φ (resV xs).den G') :
    LeavesIn Fence.wide 0 C.P fn a.tmps (Ret [] C.w0 C.G0 φ) a.defers u w := by
  rw [hS.df, hdf]
  refine leavesIn_cons (f := f) (args := cap.toArray) hu (by simp [Fence.wide]) (by simp [invoke, callFunc_ok hf]) (fun _ _ => trivial) ?_
  refine (hc w hS.mem.has (Lent.of hS.mem hk hn)).mono ?_
  rintro e u' w' ⟨v, G', ow', rfl, q1, q2, q3, q4, q5, q6, q7, q8, q9⟩
  have hle : Le s.G G' := fun b o e => by
    rw [q4 b (lt_of_heap (hS.mem.has b o e))]; exact e
  obtain ⟨h1, xs, h2, h3⟩ := h u' G' ow' hle q9
  have hm := hS.mem.lentM hk hn hks q1 q2 q3 q4 q5 q6 q7 q8
  have hS' : Sat C ⟨s.sl, setO ks ow' s.own, G', s.df⟩ a w' := ⟨hS.sl, hS.nt, hS.df, hm⟩
  simp only [h1]
  have hg := hm.grow
  rw [hmb] at hg
  exact ⟨_, results_ok hS' h2, _, _, rfl, hg, h3⟩
theorem x_retD {kc : Code} (ht : tag kc = 7) {fn : Func} {φ : Value → Hp → Prop} (hQ : C.Q = bodyPostDIn Fence.wide 0 C.P fn (Ret [] C.w0 C.G0 φ)) (hmb : C.mb = []) {f : FuncId} {cap : List Value} (hdf : s.df = [dfn f cap]) (hf : canCall C.P f = true) {ks : List Nat} {ow : Lds}
    (hk : lkAll s.own ks = some ow) (hn : noDup ks = true) (hks : (∀ k ∈ ks, C.mh ≤ k) ∨ (∀ k ∈ ks, k < C.mh)) {ψ : FrameMode → Hp → Lds → Prop} (hc : CloD C.P f cap s.G ow .returning ψ)
    (h : ∀ u' G' ow', Le s.G G' → ψ u' G' ow' → settle u' = .returning ∧ ∃ xs, resAll s.sl C.ty (setO ks ow' s.own) fn.results.toList = some xs ∧ φ (resV xs).den G') (hnb : noBr K = true := by rfl) : SGo C (.code kc :: K) s := by
  intro a w hS
  cases kc <;> simp [tag] at ht
  · rename_i a b c; cases c <;> simp at ht
  refine wpIn_ret ?_
  rw [wpK_ret _ _ _ hnb, hQ]
  exact leave_clo hS hmb hdf (by simp) hf hk hn hks hc h
theorem x_panD {fn : Func} {φ : Value → Hp → Prop} {v : Value} (hQ : C.Q = bodyPostDIn Fence.wide 0 C.P fn (Ret [] C.w0 C.G0 φ)) (hmb : C.mb = []) {f : FuncId} {cap : List Value} (hdf : s.df = [dfn f cap]) (hf : canCall C.P f = true) {ks : List Nat} {ow : Lds}
    (hk : lkAll s.own ks = some ow) (hn : noDup ks = true) (hks : (∀ k ∈ ks, C.mh ≤ k) ∨ (∀ k ∈ ks, k < C.mh)) {ψ : FrameMode → Hp → Lds → Prop} (hc : CloD C.P f cap s.G ow (.panicking [pE v]) ψ)
    (h : ∀ u' G' ow', Le s.G G' → ψ u' G' ow' → settle u' = .returning ∧ ∃ xs, resAll s.sl C.ty (setO ks ow' s.own) fn.results.toList = some xs ∧ φ (resV xs).den G') : SPan C v s := by
  intro a w hS
  rw [hQ]
  exact leave_clo hS hmb hdf (by simp) hf hk hn hks hc h
end
end Go.Sx
namespace Go.Sx
set_option linter.unusedSimpArgs false
set_option linter.unusedVariables false
open Go.RowKit
section
variable {C : Ctx} {K : List KI} {s : St} {R : Array Oper} {l : List Oper} {d : Option Tmp} {t : TypeId} {pos : String} {aft : Array Edge} {sl : List (Nat × SV)} {own : Owns} {G : Hp}
end
end Go.Sx
namespace Go.Sx
set_option linter.unusedSimpArgs false
set_option linter.unusedVariables false
open Go.RowKit
section
variable {C : Ctx} {K : List KI} {s : St} {R : Array Oper} {l : List Oper} {d : Option Tmp} {t : TypeId} {pos : String} {aft : Array Edge} {v : Value}
theorem go_lend2 (k k2 : Nat) {f : FuncId} {args : Array Operand} {tys : Array TypeId} {vs : List SV} {b b2 g n cap size : Nat} {e e2 : TypeId} {xs : List Value} {cells : List SV} (hd : dOk C.nt d = true) (hf : canCall C.P f = true) (ha : evs s.sl args.toList = some vs)
    (hk : lk k s.own = some (b, .row (.slice (some ⟨g, 0, none⟩) n cap) e size n xs)) (hk2 : lk k2 s.own = some (b2, .c e2 cells)) (hc : ∀ G1, Le s.G G1 → At G1 g 0 xs → At G1 b2 0 (dens cells) → Pure C.P f (dens vs) G1 (fun r _ => r = v))
    (h : SGo C (.ops R l :: K) ⟨putS d (rv v) s.sl, s.own, s.G, s.df⟩) : SGo C (.ops R (⟨d, .call ⟨.value (.func f), args, tys⟩, t, pos, aft, none⟩ :: l) :: K) s := by
  intro a w hS
  have hargs : args.map a.eval = (dens vs).toArray := by apply Array.ext'; rw [Array.toList_map]; exact evs_ok hS.sl ha
  have hrun : (execOp a.eval ⟨d, .call ⟨.value (.func f), args, tys⟩, t, pos, aft, none⟩).run C.P w = .ok (.enter f (dens vs).toArray) w := by
    simp only [execOp, resolve, hargs, Act.eval, Deferred.ofValue, Sem.run_bind, Sem.run_pure, Result.andThen_ok, invoke]
    simp [callFunc_ok hf]
  obtain ⟨x, hx, hat⟩ := row_block (hS.mem.own _ _ _ hk).1
  obtain ⟨c1, c2⟩ := hS.mem.own _ _ _ hk2
  simp only [OO.holds] at c1
  have g1 := ((hS.mem.own _ _ _ hk).2 g rfl).1
  have g2 := (c2 b2 rfl).1
  have l1 : Le s.G (fun j => if j = g then some x else if j = b2 then w.heap[b2]? else s.G j) := by
    intro j y e
    have n1 : j ≠ g := by intro q; subst q; rw [g1] at e; cases e
    have n2 : j ≠ b2 := by intro q; subst q; rw [g2] at e; cases e
    simp [n1, n2, e]
  have l2 : Has w (fun j => if j = g then some x else if j = b2 then w.heap[b2]? else s.G j) := by
    intro j y e
    simp only at e
    split at e
    · rename_i q; subst q; cases e; exact hx
    · split at e
      · rename_i q; subst q; exact e
      · exact hS.mem.has j y e
  have l3 : (fun j => if j = g then some x else if j = b2 then w.heap[b2]? else s.G j : Hp) b2 = w.heap[b2]? := by
    simp only
    split
    · rename_i q; subst q; exact hx.symm
    · simp
  refine K_enter rfl hrun ((hc _ l1 (hat _ (by simp)) ⟨_, _, _, l3.trans c1, by simp, fun i hi => by simp [hi]⟩ w l2).mono ?_)
  rintro e w' ⟨v', G', rfl, hg, rfl⟩
  have hS' := hS.put hd (rv v') (hS.mem.stay hg)
  rw [rv_den] at hS'
  have := h _ _ hS'
  exact ⟨_, rfl, this⟩
theorem quiet_bin {sl : List (Nat × SV)} {own : Owns} {G : Hp} {op : BinOp} {k k' : IntKind} {m n : Int} {x y : Operand} {T T' : TypeId} {r : Value} {vx vy : SV} (hx : ev sl x = some vx) (hvx : vx.den = .int k m) (hy : ev sl y = some vy) (hvy : vy.den = .int k' n) (h : binConst op k k' m n = some r) :
    Quiet C sl own G (.binOp op T x y T') r := by
  intro aa w dd t pos aft g hsl hh
  have hxv := ev_ok hsl hx
  rw [hvx] at hxv
  have hyv := ev_ok hsl hy
  rw [hvy] at hyv
  simp only [execOp, hxv, hyv]
  rw [Sem.run_bind, binConst_ok h]
  simp
theorem shl_ok {k k' : IntKind} {m n : Int} (h : 0 ≤ n) : binConst .shl k k' m n = some (.int k (k.wrap (m * 2 ^ (min n.toNat k.bits)))) := by
  simp only [binConst]; rw [if_neg (by omega)]
end
end Go.Sx
namespace Go.Sx
set_option linter.unusedSimpArgs false
set_option linter.unusedVariables false
open Go.RowKit
section
variable {C : Ctx} {K : List KI} {s : St} {R : Array Oper} {l : List Oper} {d : Option Tmp} {t : TypeId} {pos : String} {aft : Array Edge} {v : Value} {α : Type}
theorem go_rowC (k : Nat) {b n size : Nat} {e : TypeId} {v : Value} {xs : List Value} (hk : lk k s.own = some (b, .row v e size n xs)) (h : ∀ ad cap, v = .slice ad n cap → n ≤ cap → SGo C K s) : SGo C K s :=
  go_rowcases k hk (fun hv hn0 _ => h none 0 (by rw [hv, hn0]) (by omega)) (fun g cap hv hc _ => h _ cap hv hc)
end
end Go.Sx
namespace Go.Proofs.Ytpmmbjcgabnloaa
set_option linter.unusedSimpArgs false
set_option linter.unusedVariables false
open Go.Sx
structure Op where
  th : Int
  kd : Int
  arg : VT
  res : VT
  fr : Int
  to : Int
  dn : Bool
abbrev opC (x : Op) (sa sr : Value) : List SV := [.v (.int .i64 x.th), .v (.int .i64 x.kd), .v (.int .i64 x.arg.k), .v (.int .i64 x.arg.n), .v sa, .v (.int .i64 x.res.k), .v (.int .i64 x.res.n), .v sr, .v (.int .i64 x.fr), .v (.int .i64 x.to), .v (.bool x.dn)]
def opL (x : Op) (sa sr : Value) : List Value := [.int .i64 x.th, .int .i64 x.kd, .int .i64 x.arg.k, .int .i64 x.arg.n, sa, .int .i64 x.res.k, .int .i64 x.res.n, sr, .int .i64 x.fr, .int .i64 x.to, .bool x.dn]
structure Op.ok (x : Op) : Prop where
  th : isI64 x.th
  kd : isI64 x.kd
  fr : isI64 x.fr
  to : isI64 x.to
  ba : tsz x.arg ≤ 1048576
  br : tsz x.res ≤ 1048576
structure Op.rep (G : Hp) (x : Op) (sa sr : Value) : Prop where
  ok : x.ok
  a : x.arg.rep G sa
  r : x.res.rep G sr
theorem Op.rep.mono {G G' : Hp} {x : Op} {sa sr : Value} (h : x.rep G sa sr) (hl : Le G G') : x.rep G' sa sr := ⟨h.ok, VT.rep_mono hl h.a, VT.rep_mono hl h.r⟩
def rO : Rp Op where
  size := 11
  e G x cs := ∃ sa sr, cs = opL x sa sr ∧ x.rep G sa sr
  mono hl h := by obtain ⟨sa, sr, h1, h2⟩ := h; exact ⟨sa, sr, h1, h2.mono hl⟩
  len h := by obtain ⟨sa, sr, rfl, _⟩ := h; rfl
  one h u hu := by
    obtain ⟨sa, sr, rfl, h2⟩ := h
    obtain ⟨_, _, rfl⟩ := VT.rep_slice h2.a
    obtain ⟨_, _, rfl⟩ := VT.rep_slice h2.r
    simp [opL] at hu
    rcases hu with rfl | rfl | rfl | rfl | rfl | rfl | rfl | rfl | rfl | rfl | rfl <;> rfl
theorem rO_at {G : Hp} {l : List Op} {ad : Option Addr} {n cap : Nat} (h : rO.S G l (.slice ad n cap)) {i : Nat} (hi : i < l.length) : ∃ b off sa sr, ad = some ⟨b, off, none⟩ ∧ At G b (off + i * 11) (opL l[i] sa sr) ∧ l[i].rep G sa sr := by
  obtain ⟨b, off, cap', c, hv, hat, sa, sr, rfl, h1⟩ := Rp.S_get h hi
  cases hv
  exact ⟨b, off, sa, sr, rfl, by simpa [rO] using hat, h1⟩
def vsm (x y : VT) : Bool := sml x && sml y && veq x y
def opEq (a b : Op) : Bool := a.th == b.th && a.kd == b.kd && vsm a.arg b.arg && vsm a.res b.res && a.fr == b.fr && a.to == b.to && a.dn == b.dn
def ahd (a b : Op) : Bool := a.dn && decide (a.to < b.fr)
theorem zlen (L : List VT) : ((L.length : Int) == 0) = L.isEmpty := by
  cases L with
  | nil => simp
  | cons x r => simp; omega
def zer (x : VT) : Bool := x.k == 0 && x.n == 0 && x.l.isEmpty
set_option maxHeartbeats 8000000
set_option maxRecDepth 20000
theorem num_ok (n : Int) (G : Hp) : Pure Try.prog 13 [.int .i64 n] G (fun r _ => r = .int .i64 n) := by
  refine enterX ty tyok Try.func13 rfl Try.ntmps13 [.v (.int .i64 n)] (by simp) ?_
  intro C hP hQ hnt hty hmb hmh hro; have hQp := qp_body hQ; refine st_ ?_
  refine rn_ ?_; intros
  refine x_ret rfl hQ hmb (by rw [hty]; rfl) rfl ?_; simp only [SV.den, resV]
theorem ahead_ok (a b : Op) (sa sr ta tr : Value) (G : Hp) (ha : a.rep G sa sr) (hb : b.rep G ta tr) : Pure Try.prog 25 [.agg (opL a sa sr).toArray, .agg (opL b ta tr).toArray] G (fun r _ => r = .bool (ahd a b)) := by
  refine enterX ty tyok Try.func25 rfl Try.ntmps25 [.a (opC a sa sr), .a (opC b ta tr)] (by simp) ?_
  simp only [opC]
  intro C hP hQ hnt hty hmb hmh hro; have hQp := qp_body hQ; refine st_ ?_
  refine rn_ ?_; intros
  refine go_gsplit rfl rfl (fun h1 => ?_) (fun h1 => ?_) <;> (refine st_ ?_; (refine rn_ ?_; intros))
  · refine rn_ ?_; intros
    refine x_retc rfl hQ hmb rfl (by rw [hty]; simp only [so, sq, zy, zz, tyE, SO', SQ', opQ, opStore, opAlloc, ev, putS, dOk, cv, SV.cs, SV.one, SV.bool?, eqB, Value.oneCell', ldOwn, binInt, binConst, binBool, binStr, isC, TK.agg, rv, rv1, ldV, resOne, resV, Nat.reduceAdd, Nat.reduceMul, Nat.reduceSub, Nat.reduceLT, Nat.reduceLeDiff, Nat.reduceEqDiff, Nat.reduceBEq, reduceIte, reduceCtorEq, eq_self]; try rfl) rfl ?_; simp only [SV.den, resV, dens]
    simp [ahd, h1]
  · refine rn_ ?_; intros
    refine x_retc rfl hQ hmb rfl (by rw [hty]; simp only [so, sq, zy, zz, tyE, SO', SQ', opQ, opStore, opAlloc, ev, putS, dOk, cv, SV.cs, SV.one, SV.bool?, eqB, Value.oneCell', ldOwn, binInt, binConst, binBool, binStr, isC, TK.agg, rv, rv1, ldV, resOne, resV, Nat.reduceAdd, Nat.reduceMul, Nat.reduceSub, Nat.reduceLT, Nat.reduceLeDiff, Nat.reduceEqDiff, Nat.reduceBEq, reduceIte, reduceCtorEq, eq_self]; try rfl) rfl ?_; simp only [SV.den, resV, dens]
    simp [ahd, h1]
theorem zero_ok (x : VT) (sl : Value) (G : Hp) (hr : x.rep G sl) : Pure Try.prog 64 [.agg #[.int .i64 x.k, .int .i64 x.n, sl]] G (fun r _ => r = .bool (zer x)) := by
  obtain ⟨ad, cap, rfl⟩ := VT.rep_slice hr
  refine enterX ty tyok Try.func64 rfl Try.ntmps64 [.a [.v (.int .i64 x.k), .v (.int .i64 x.n), .v _]] (by simp) ?_
  intro C hP hQ hnt hty hmb hmh hro; have hQp := qp_body hQ; refine st_ ?_
  refine rn_ ?_; intros
  refine go_gsplit rfl rfl (fun h1 => ?_) (fun h1 => ?_) <;> (refine st_ ?_; (refine rn_ ?_; intros))
  · refine go_gsplit rfl rfl (fun h2 => ?_) (fun h2 => ?_) <;> (refine st_ ?_; (refine rn_ ?_; intros))
    · refine rn_ ?_; intros
      refine x_retc rfl hQ hmb rfl (by rw [hty]; simp only [so, sq, zy, zz, tyE, SO', SQ', opQ, opStore, opAlloc, ev, putS, dOk, cv, SV.cs, SV.one, SV.bool?, eqB, Value.oneCell', ldOwn, binInt, binConst, binBool, binStr, isC, TK.agg, rv, rv1, ldV, resOne, resV, Nat.reduceAdd, Nat.reduceMul, Nat.reduceSub, Nat.reduceLT, Nat.reduceLeDiff, Nat.reduceEqDiff, Nat.reduceBEq, reduceIte, reduceCtorEq, eq_self]; try rfl) rfl ?_; simp only [SV.den, resV, dens]
      simp at h1 h2
      simp [zer, h1, h2]
      try exact zlen _
    · refine rn_ ?_; intros
      refine x_retc rfl hQ hmb rfl (by rw [hty]; simp only [so, sq, zy, zz, tyE, SO', SQ', opQ, opStore, opAlloc, ev, putS, dOk, cv, SV.cs, SV.one, SV.bool?, eqB, Value.oneCell', ldOwn, binInt, binConst, binBool, binStr, isC, TK.agg, rv, rv1, ldV, resOne, resV, Nat.reduceAdd, Nat.reduceMul, Nat.reduceSub, Nat.reduceLT, Nat.reduceLeDiff, Nat.reduceEqDiff, Nat.reduceBEq, reduceIte, reduceCtorEq, eq_self]; try rfl) rfl ?_; simp only [SV.den, resV, dens]
      simp at h1 h2
      simp [zer, h1, h2]
      try exact zlen _
  · repeat (refine go_gundef rfl (by rw [hnt]; rfl) rfl ?_; (refine st_ ?_; (refine rn_ ?_; intros)))
    refine rn_ ?_; intros
    refine x_retc rfl hQ hmb rfl (by rw [hty]; simp only [so, sq, zy, zz, tyE, SO', SQ', opQ, opStore, opAlloc, ev, putS, dOk, cv, SV.cs, SV.one, SV.bool?, eqB, Value.oneCell', ldOwn, binInt, binConst, binBool, binStr, isC, TK.agg, rv, rv1, ldV, resOne, resV, Nat.reduceAdd, Nat.reduceMul, Nat.reduceSub, Nat.reduceLT, Nat.reduceLeDiff, Nat.reduceEqDiff, Nat.reduceBEq, reduceIte, reduceCtorEq, eq_self]; try rfl) rfl ?_; simp only [SV.den, resV, dens]
    simp at h1
    simp [zer, h1]
theorem rsame_ok (a b : Op) (sa sr ta tr : Value) (G : Hp) (ha : a.rep G sa sr) (hb : b.rep G ta tr) : Pure Try.prog 14 [.agg (opL a sa sr).toArray, .agg (opL b ta tr).toArray] G (fun r _ => r = .bool (opEq a b)) := by
  have h1a := ha.ok.ba
  have h1b := ha.ok.br
  have h2a := hb.ok.ba
  have h2b := hb.ok.br
  refine enterX ty tyok Try.func14 rfl Try.ntmps14 [.a (opC a sa sr), .a (opC b ta tr)] (by simp) ?_
  simp only [opC]
  rw [opEq]
  intro C hP hQ hnt hty hmb hmh hro; have hQp := qp_body hQ; refine st_ ?_
  refine rn_ ?_; intros
  refine go_gsplit rfl rfl (fun h1 => ?_) (fun h1 => ?_) <;> (refine st_ ?_; (refine rn_ ?_; intros))
  · refine go_gsplit rfl rfl (fun h2 => ?_) (fun h2 => ?_) <;> (refine st_ ?_; (refine rn_ ?_; intros))
    · refine go_call (by rw [hnt]; rfl) (by rw [hP]; kernel_rfl) rfl (hP ▸ refSame_ok a.arg b.arg _ _ G ha.a hb.a (by omega) (by omega)) ?_
      rintro v G1 (hle1 : Le G G1) rfl
      refine rn_ ?_; intros
      refine go_gsplit rfl rfl (fun h3 => ?_) (fun h3 => ?_) <;> (refine st_ ?_; (refine rn_ ?_; intros))
      · refine go_call (by rw [hnt]; rfl) (by rw [hP]; kernel_rfl) rfl (hP ▸ refSame_ok a.res b.res _ _ G1 (VT.rep_mono hle1 ha.r) (VT.rep_mono hle1 hb.r) (by omega) (by omega)) ?_
        rintro v G2 (hle2 : Le G1 G2) rfl
        refine rn_ ?_; intros
        refine go_gsplit rfl rfl (fun h4 => ?_) (fun h4 => ?_) <;> (refine st_ ?_; (refine rn_ ?_; intros))
        · refine go_gsplit rfl rfl (fun h5 => ?_) (fun h5 => ?_) <;> (refine st_ ?_; (refine rn_ ?_; intros))
          · refine go_gsplit rfl rfl (fun h6 => ?_) (fun h6 => ?_) <;> (refine st_ ?_; (refine rn_ ?_; intros))
            · refine rn_ ?_; intros
              refine x_retc rfl hQ hmb rfl (by rw [hty]; simp only [so, sq, zy, zz, tyE, SO', SQ', opQ, opStore, opAlloc, ev, putS, dOk, cv, SV.cs, SV.one, SV.bool?, eqB, Value.oneCell', ldOwn, binInt, binConst, binBool, binStr, isC, TK.agg, rv, rv1, ldV, resOne, resV, Nat.reduceAdd, Nat.reduceMul, Nat.reduceSub, Nat.reduceLT, Nat.reduceLeDiff, Nat.reduceEqDiff, Nat.reduceBEq, reduceIte, reduceCtorEq, eq_self]; try rfl) rfl ?_; simp only [SV.den, resV, dens]
              simp only [beq_iff_eq] at h1 h2 h5 h6
              simp [vsm] at h3 h4 ⊢
              simp [h1, h2, h3, h4, h5, h6]
            · refine rn_ ?_; intros
              refine x_retc rfl hQ hmb rfl (by rw [hty]; simp only [so, sq, zy, zz, tyE, SO', SQ', opQ, opStore, opAlloc, ev, putS, dOk, cv, SV.cs, SV.one, SV.bool?, eqB, Value.oneCell', ldOwn, binInt, binConst, binBool, binStr, isC, TK.agg, rv, rv1, ldV, resOne, resV, Nat.reduceAdd, Nat.reduceMul, Nat.reduceSub, Nat.reduceLT, Nat.reduceLeDiff, Nat.reduceEqDiff, Nat.reduceBEq, reduceIte, reduceCtorEq, eq_self]; try rfl) rfl ?_; simp only [SV.den, resV, dens]
              simp [h1, h2, h6]
          · repeat (refine go_gundef rfl (by rw [hnt]; rfl) rfl ?_; (refine st_ ?_; (refine rn_ ?_; intros)))
            refine rn_ ?_; intros
            refine x_retc rfl hQ hmb rfl (by rw [hty]; simp only [so, sq, zy, zz, tyE, SO', SQ', opQ, opStore, opAlloc, ev, putS, dOk, cv, SV.cs, SV.one, SV.bool?, eqB, Value.oneCell', ldOwn, binInt, binConst, binBool, binStr, isC, TK.agg, rv, rv1, ldV, resOne, resV, Nat.reduceAdd, Nat.reduceMul, Nat.reduceSub, Nat.reduceLT, Nat.reduceLeDiff, Nat.reduceEqDiff, Nat.reduceBEq, reduceIte, reduceCtorEq, eq_self]; try rfl) rfl ?_; simp only [SV.den, resV, dens]
            simp [h1, h2, h5]
        · repeat (refine go_gundef rfl (by rw [hnt]; rfl) rfl ?_; (refine st_ ?_; (refine rn_ ?_; intros)))
          refine rn_ ?_; intros
          refine x_retc rfl hQ hmb rfl (by rw [hty]; simp only [so, sq, zy, zz, tyE, SO', SQ', opQ, opStore, opAlloc, ev, putS, dOk, cv, SV.cs, SV.one, SV.bool?, eqB, Value.oneCell', ldOwn, binInt, binConst, binBool, binStr, isC, TK.agg, rv, rv1, ldV, resOne, resV, Nat.reduceAdd, Nat.reduceMul, Nat.reduceSub, Nat.reduceLT, Nat.reduceLeDiff, Nat.reduceEqDiff, Nat.reduceBEq, reduceIte, reduceCtorEq, eq_self]; try rfl) rfl ?_; simp only [SV.den, resV, dens]
          simp [vsm, h1, h2, h4]
      · repeat (refine go_gundef rfl (by rw [hnt]; rfl) rfl ?_; (refine st_ ?_; (refine rn_ ?_; intros)))
        refine rn_ ?_; intros
        refine x_retc rfl hQ hmb rfl (by rw [hty]; simp only [so, sq, zy, zz, tyE, SO', SQ', opQ, opStore, opAlloc, ev, putS, dOk, cv, SV.cs, SV.one, SV.bool?, eqB, Value.oneCell', ldOwn, binInt, binConst, binBool, binStr, isC, TK.agg, rv, rv1, ldV, resOne, resV, Nat.reduceAdd, Nat.reduceMul, Nat.reduceSub, Nat.reduceLT, Nat.reduceLeDiff, Nat.reduceEqDiff, Nat.reduceBEq, reduceIte, reduceCtorEq, eq_self]; try rfl) rfl ?_; simp only [SV.den, resV, dens]
        simp [vsm, h1, h2, h3]
    · repeat (refine go_gundef rfl (by rw [hnt]; rfl) rfl ?_; (refine st_ ?_; (refine rn_ ?_; intros)))
      refine rn_ ?_; intros
      refine x_retc rfl hQ hmb rfl (by rw [hty]; simp only [so, sq, zy, zz, tyE, SO', SQ', opQ, opStore, opAlloc, ev, putS, dOk, cv, SV.cs, SV.one, SV.bool?, eqB, Value.oneCell', ldOwn, binInt, binConst, binBool, binStr, isC, TK.agg, rv, rv1, ldV, resOne, resV, Nat.reduceAdd, Nat.reduceMul, Nat.reduceSub, Nat.reduceLT, Nat.reduceLeDiff, Nat.reduceEqDiff, Nat.reduceBEq, reduceIte, reduceCtorEq, eq_self]; try rfl) rfl ?_; simp only [SV.den, resV, dens]
      simp [h1, h2]
  · repeat (refine go_gundef rfl (by rw [hnt]; rfl) rfl ?_; (refine st_ ?_; (refine rn_ ?_; intros)))
    refine rn_ ?_; intros
    refine x_retc rfl hQ hmb rfl (by rw [hty]; simp only [so, sq, zy, zz, tyE, SO', SQ', opQ, opStore, opAlloc, ev, putS, dOk, cv, SV.cs, SV.one, SV.bool?, eqB, Value.oneCell', ldOwn, binInt, binConst, binBool, binStr, isC, TK.agg, rv, rv1, ldV, resOne, resV, Nat.reduceAdd, Nat.reduceMul, Nat.reduceSub, Nat.reduceLT, Nat.reduceLeDiff, Nat.reduceEqDiff, Nat.reduceBEq, reduceIte, reduceCtorEq, eq_self]; try rfl) rfl ?_; simp only [SV.den, resV, dens]
    simp [h1]
end Go.Proofs.Ytpmmbjcgabnloaa
namespace Go.Proofs.Ytpmmbjcgabnloaa
set_option linter.unusedSimpArgs false
set_option linter.unusedVariables false
open Go.Sx
set_option maxHeartbeats 8000000
set_option maxRecDepth 20000
theorem pair_ok (a b : Int) (G : Hp) (ha : isI64 a) (hb : isI64 b) : Pure Try.prog 31 [.int .i64 a, .int .i64 b] G (fun v G' => ∃ sl, v = .agg #[.int .i64 3, .int .i64 0, sl] ∧ (VT.mk 3 0 [.mk 2 a [], .mk 2 b []]).rep G' sl) := by
  refine enterX ty tyok Try.func31 rfl Try.ntmps31 [.v (.int .i64 a), .v (.int .i64 b)] (by simp) ?_
  intro C hP hQ hnt hty hmb hmh hro; have hQp := qp_body hQ; refine st_ ?_
  refine rn_ ?_; intros
  refine go_callf (by rw [hnt]; rfl) (by rw [hP]; kernel_rfl) rfl (hP ▸ refint_ok a _) ?_; refine rn_ ?_; intros
  refine go_callf (by rw [hnt]; rfl) (by rw [hP]; kernel_rfl) rfl (hP ▸ refint_ok b _) ?_; refine rn_ ?_; intros
  rename_i b0 b1
  refine go_pub 1 rfl (by omega) ?_
  intro G1 (hle1 : Le G G1) hG1
  have hat := at_block hG1
  simp only [dens, SV.den] at hat
  refine x_retc rfl hQ hmb rfl (by rw [hty]; simp only [so, sq, zy, zz, tyE, SO', SQ', opQ, opStore, opAlloc, ev, putS, dOk, cv, SV.cs, SV.one, SV.bool?, eqB, Value.oneCell', ldOwn, binInt, binConst, binBool, binStr, isC, TK.agg, rv, rv1, ldV, resOne, resV, Nat.reduceAdd, Nat.reduceMul, Nat.reduceSub, Nat.reduceLT, Nat.reduceLeDiff, Nat.reduceEqDiff, Nat.reduceBEq, reduceIte, reduceCtorEq, eq_self]; try rfl) rfl ?_; simp only [SV.den, resV, dens]
  refine ⟨_, rfl, rep_iff.2 ⟨by simp [isI64], by simp [isI64], by simp, some ⟨b1, 0, none⟩, 2, rfl, .inr ⟨b1, 0, _, rfl, hat, ?_⟩⟩⟩
  simp only [repV]
  exact ⟨_, _, rfl, rep_leaf _ 2 a (by simp [isI64]) ha, _, _, rfl, rep_leaf _ 2 b (by simp [isI64]) hb, rfl⟩
theorem of_ok (k a r fr to : Int) (G : Hp) : Pure Try.prog 32 [.int .i64 k, .int .i64 a, .int .i64 r, .int .i64 fr, .int .i64 to] G (fun v _ => v = .agg (opL ⟨0, k, .mk 2 a [], .mk 2 r [], fr, to, true⟩ (.slice none 0 0) (.slice none 0 0)).toArray) := by
  refine enterX ty tyok Try.func32 rfl Try.ntmps32 [.v (.int .i64 k), .v (.int .i64 a), .v (.int .i64 r), .v (.int .i64 fr), .v (.int .i64 to)] (by simp) ?_
  intro C hP hQ hnt hty hmb hmh hro; have hQp := qp_body hQ; refine st_ ?_
  refine rn_ ?_; intros
  refine go_callf (by rw [hnt]; rfl) (by rw [hP]; kernel_rfl) rfl (hP ▸ refint_ok a _) ?_; refine rn_ ?_; intros
  refine go_callf (by rw [hnt]; rfl) (by rw [hP]; kernel_rfl) rfl (hP ▸ refint_ok r _) ?_; refine rn_ ?_; intros
  refine x_retc rfl hQ hmb rfl (by rw [hty]; simp only [so, sq, zy, zz, tyE, SO', SQ', opQ, opStore, opAlloc, ev, putS, dOk, cv, SV.cs, SV.one, SV.bool?, eqB, Value.oneCell', ldOwn, binInt, binConst, binBool, binStr, isC, TK.agg, rv, rv1, ldV, resOne, resV, Nat.reduceAdd, Nat.reduceMul, Nat.reduceSub, Nat.reduceLT, Nat.reduceLeDiff, Nat.reduceEqDiff, Nat.reduceBEq, reduceIte, reduceCtorEq, eq_self]; try rfl) rfl ?_; simp only [SV.den, resV, dens]
  rfl
def kns (m : Int) : Int := if m = 1 ∨ m = 2 ∨ m = 3 then 2 else if m = 4 then 3 else 0
end Go.Proofs.Ytpmmbjcgabnloaa
namespace Go.Proofs.Ytpmmbjcgabnloaa
set_option linter.unusedSimpArgs false
set_option linter.unusedVariables false
open Go.Sx
set_option maxHeartbeats 8000000
set_option maxRecDepth 20000
def rV : Rp VT where
  size := 3
  e G x cs := ∃ sl, cs = [.int .i64 x.k, .int .i64 x.n, sl] ∧ x.rep G sl ∧ tsz x ≤ 1048576
  mono hl h := by obtain ⟨sl, h1, h2, h3⟩ := h; exact ⟨sl, h1, VT.rep_mono hl h2, h3⟩
  len h := by obtain ⟨sl, rfl, _⟩ := h; rfl
  one h u hu := by
    obtain ⟨sl, rfl, h2, _⟩ := h
    obtain ⟨_, _, rfl⟩ := VT.rep_slice h2
    simp at hu
    rcases hu with rfl | rfl | rfl <;> rfl
theorem rV_at {G : Hp} {l : List VT} {ad : Option Addr} {n cap : Nat} (h : rV.S G l (.slice ad n cap)) {i : Nat} (hi : i < l.length) : ∃ b off sl, ad = some ⟨b, off, none⟩ ∧ At G b (off + i * 3) [.int .i64 l[i].k, .int .i64 l[i].n, sl] ∧ l[i].rep G sl ∧ tsz l[i] ≤ 1048576 := by
  obtain ⟨b, off, cap', c, hv, hat, sl, rfl, h1⟩ := Rp.S_get h hi
  cases hv
  exact ⟨b, off, sl, rfl, by simpa [rV] using hat, h1⟩
structure Po where
  nm : VT
  pt : Int
def rPo : Rp Po where
  size := 4
  e G x cs := ∃ sl, cs = [.int .i64 x.nm.k, .int .i64 x.nm.n, sl, .int .i64 x.pt] ∧ x.nm.rep G sl ∧ tsz x.nm ≤ 1048576 ∧ isI64 x.pt
  mono hl h := by obtain ⟨sl, h1, h2, h3⟩ := h; exact ⟨sl, h1, VT.rep_mono hl h2, h3⟩
  len h := by obtain ⟨sl, rfl, _⟩ := h; rfl
  one h u hu := by
    obtain ⟨sl, rfl, h2, _⟩ := h
    obtain ⟨_, _, rfl⟩ := VT.rep_slice h2
    simp at hu
    rcases hu with rfl | rfl | rfl | rfl <;> rfl
theorem rPo_at {G : Hp} {l : List Po} {ad : Option Addr} {n cap : Nat} (h : rPo.S G l (.slice ad n cap)) {i : Nat} (hi : i < l.length) : ∃ b off sl, ad = some ⟨b, off, none⟩ ∧ At G b (off + i * 4) [.int .i64 l[i].nm.k, .int .i64 l[i].nm.n, sl, .int .i64 l[i].pt] ∧ l[i].nm.rep G sl ∧ tsz l[i].nm ≤ 1048576 ∧ isI64 l[i].pt := by
  obtain ⟨b, off, cap', c, hv, hat, sl, rfl, h1⟩ := Rp.S_get h hi
  cases hv
  exact ⟨b, off, sl, rfl, by simpa [rPo] using hat, h1⟩
def rgtO (K : Int) (o : Op) : Bool := decide (0 ≤ o.th) && decide (0 ≤ o.kd) && decide (o.kd < K) && decide (0 ≤ o.fr) && vld o.arg && if o.dn then vld o.res && decide (o.fr ≤ o.to) else zer o.res && o.to == 0
theorem chk_eq0 (x : VT) : (chk x == 0) = vld x := by rw [chk]; cases vld x <;> rfl
theorem chk_ne0 (x : VT) : (chk x != 0) = !vld x := by rw [chk]; cases vld x <;> rfl
def fewO (l : List Op) (m : Int) : Bool := decide ((l.length : Int) ≤ m) && l.all fun o => decide (cnt o.arg 0 ≤ 40) && decide (cnt o.res 0 ≤ 40)
theorem opAt2 {G : Hp} {b off : Nat} {x : Op} {sa sr : Value} (h : At G b off (opL x sa sr)) : At G b (off + 2) [.int .i64 x.arg.k, .int .i64 x.arg.n, sa] := by simpa [opL] using h.sub 2 3 (by simp [opL])
theorem opAt5 {G : Hp} {b off : Nat} {x : Op} {sa sr : Value} (h : At G b off (opL x sa sr)) : At G b (off + 5) [.int .i64 x.res.k, .int .i64 x.res.n, sr] := by simpa [opL] using h.sub 5 3 (by simp [opL])
theorem few_ok (l : List Op) (s1 : Value) (m : Int) (G : Hp) (h1 : rO.S G l s1) : Pure Try.prog 16 [s1, .int .i64 m] G (fun r _ => r = .bool (fewO l m)) := by
  have h10 := h1
  obtain ⟨ad1, cap1, rfl⟩ := Rp.S_slice h1
  have h63 := Rp.S_len h1
  refine enterX ty tyok Try.func16 rfl Try.ntmps16 [.v (.slice ad1 l.length cap1), .v (.int .i64 m)] (by simp) ?_
  intro C hP hQ hnt hty hmb hmh hro; have hQp := qp_body hQ; refine st_ ?_
  refine rn_ ?_; intros
  refine x_split rfl rfl rfl (fun hm => ?_) (fun hm => ?_) <;> (refine st_ ?_; (refine ru_ ?_; intros))
  · refine rn_ ?_; intros
    refine x_retc rfl hQ hmb rfl (by rw [hty]; simp only [so, sq, zy, zz, tyE, SO', SQ', opQ, opStore, opAlloc, ev, putS, dOk, cv, SV.cs, SV.one, SV.bool?, eqB, Value.oneCell', ldOwn, binInt, binConst, binBool, binStr, isC, TK.agg, rv, rv1, ldV, resOne, resV, Nat.reduceAdd, Nat.reduceMul, Nat.reduceSub, Nat.reduceLT, Nat.reduceLeDiff, Nat.reduceEqDiff, Nat.reduceBEq, reduceIte, reduceCtorEq, eq_self]; try rfl) rfl ?_; simp only [SV.den, resV, dens]
    have := of_decide_eq_true hm
    rw [fewO, decide_eq_false (by omega)]; rfl
  have hm' := of_decide_eq_false hm
  have hfe : fewO l m = (l.all fun o => decide (cnt o.arg 0 ≤ 40) && decide (cnt o.res 0 ≤ 40)) := by rw [fewO, decide_eq_true (by omega), Bool.true_and]
  refine rn_ ?_; intros
  refine go_keep [0, 5] [] ?_
  refine st_ ?_
  refine x_loop rfl (fun q s => ∃ (k : Nat) (G' : Hp), k ≤ l.length ∧ q = l.length - k ∧ Le G G' ∧ (l.all fun o => decide (cnt o.arg 0 ≤ 40) && decide (cnt o.res 0 ≤ 40)) = ((l.drop k).all fun o => decide (cnt o.arg 0 ≤ 40) && decide (cnt o.res 0 ≤ 40)) ∧
    s = ⟨[(0, .v (.slice ad1 l.length cap1)), (5, .v (.int .i64 k))], [], G', []⟩) ⟨0, G, by omega, rfl, Le.refl _, rfl, rfl⟩ ?_
  rintro q s ⟨k, G1, hk, hq, hle, hinv, rfl⟩ ih
  refine rn_ ?_; intros
  refine x_if rfl rfl rfl rfl (fun hjl => ?_) (fun hjl => ?_)
  · have hlt : k < l.length := by simp at hjl; omega
    obtain ⟨c1, o1, sa, sr, rfl, hat, hrep⟩ := rO_at h10 (i := k) hlt
    rw [List.drop_eq_getElem_cons hlt, List.all_cons] at hinv
    have ba := hrep.ok.ba
    have br := hrep.ok.br
    refine rn_ ?_; intros
    refine go_q (by rw [hnt]; rfl) (quiet_index (by rw [hty]; rfl) (by rw [hty]; rfl) rfl rfl rfl (by omega) (by omega)) ?_
    refine rn_ ?_; intros
    refine go_q (by rw [hnt]; rfl) (quiet_load (by rw [hty]; rfl) rfl (by simp [TK.agg]) (opAt2 (hat.mono hle)) rfl) ?_
    refine rn_ ?_; intros
    refine go_call (by rw [hnt]; rfl) (by rw [hP]; kernel_rfl) rfl (hP ▸ refsize_ok l[k].arg sa G1 (VT.rep_mono hle hrep.a) (by omega)) ?_
    rintro v G2 (hle2 : Le G1 G2) rfl
    refine rn_ ?_; intros
    refine go_gsplit rfl rfl (fun ha => ?_) (fun ha => ?_) <;> (refine st_ ?_; (refine rn_ ?_; intros))
    · repeat (refine go_gundef rfl (by rw [hnt]; rfl) rfl ?_; (refine st_ ?_; (refine rn_ ?_; intros)))
      refine rn_ ?_; intros
      refine x_retc rfl hQ hmb rfl (by rw [hty]; simp only [so, sq, zy, zz, tyE, SO', SQ', opQ, opStore, opAlloc, ev, putS, dOk, cv, SV.cs, SV.one, SV.bool?, eqB, Value.oneCell', ldOwn, binInt, binConst, binBool, binStr, isC, TK.agg, rv, rv1, ldV, resOne, resV, Nat.reduceAdd, Nat.reduceMul, Nat.reduceSub, Nat.reduceLT, Nat.reduceLeDiff, Nat.reduceEqDiff, Nat.reduceBEq, reduceIte, reduceCtorEq, eq_self]; try rfl) rfl ?_; simp only [SV.den, resV, dens]
      have := of_decide_eq_true ha
      rw [hfe, hinv, decide_eq_false (by omega)]; rfl
    have ha' := of_decide_eq_false ha
    rw [decide_eq_true (by omega), Bool.true_and] at hinv
    refine go_q (by rw [hnt]; rfl) (quiet_index (by rw [hty]; rfl) (by rw [hty]; rfl) rfl rfl rfl (by omega) (by omega)) ?_
    refine rn_ ?_; intros
    refine go_q (by rw [hnt]; rfl) (quiet_load (by rw [hty]; rfl) rfl (by simp [TK.agg]) (opAt5 (hat.mono (hle.trans hle2))) rfl) ?_
    refine rn_ ?_; intros
    refine go_call (by rw [hnt]; rfl) (by rw [hP]; kernel_rfl) rfl (hP ▸ refsize_ok l[k].res sr G2 (VT.rep_mono (hle.trans hle2) hrep.r) (by omega)) ?_
    rintro v G3 (hle3 : Le G2 G3) rfl
    refine rn_ ?_; intros
    refine x_split rfl rfl rfl (fun hb => ?_) (fun hb => ?_) <;> (refine st_ ?_; (refine ru_ ?_; intros))
    · refine rn_ ?_; intros
      refine x_retc rfl hQ hmb rfl (by rw [hty]; simp only [so, sq, zy, zz, tyE, SO', SQ', opQ, opStore, opAlloc, ev, putS, dOk, cv, SV.cs, SV.one, SV.bool?, eqB, Value.oneCell', ldOwn, binInt, binConst, binBool, binStr, isC, TK.agg, rv, rv1, ldV, resOne, resV, Nat.reduceAdd, Nat.reduceMul, Nat.reduceSub, Nat.reduceLT, Nat.reduceLeDiff, Nat.reduceEqDiff, Nat.reduceBEq, reduceIte, reduceCtorEq, eq_self]; try rfl) rfl ?_; simp only [SV.den, resV, dens]
      have := of_decide_eq_true hb
      rw [hfe, hinv, decide_eq_false (by omega)]; rfl
    have hb' := of_decide_eq_false hb
    rw [decide_eq_true (by omega), Bool.true_and] at hinv
    refine rn_ ?_; intros
    rw [wr (n := (k : Int) + 1) (by omega) (by omega)]
    refine go_keep [0, 5] [] ?_
    refine st_ ?_
    exact ih (l.length - (k + 1)) _ (by omega) ⟨k + 1, G3, by omega, rfl, hle.trans (hle2.trans hle3), hinv, by simp⟩
  · have hge : k = l.length := by simp at hjl; omega
    subst hge
    refine rn_ ?_; intros
    refine x_retc rfl hQ hmb rfl (by rw [hty]; simp only [so, sq, zy, zz, tyE, SO', SQ', opQ, opStore, opAlloc, ev, putS, dOk, cv, SV.cs, SV.one, SV.bool?, eqB, Value.oneCell', ldOwn, binInt, binConst, binBool, binStr, isC, TK.agg, rv, rv1, ldV, resOne, resV, Nat.reduceAdd, Nat.reduceMul, Nat.reduceSub, Nat.reduceLT, Nat.reduceLeDiff, Nat.reduceEqDiff, Nat.reduceBEq, reduceIte, reduceCtorEq, eq_self]; try rfl) rfl ?_; simp only [SV.den, resV, dens]
    rw [hfe, hinv, List.drop_length]; rfl
theorem valid_ok2 (K mo : Int) (pt : Bool) (fn : Value) (o : Op) (sa sr : Value) (G : Hp) (hfn : fn.oneCell' = true) (ho : o.rep G sa sr) : Pure Try.prog 41 [.agg #[.int .i64 K, .int .i64 mo, .bool pt, fn], .agg (opL o sa sr).toArray] G (fun r _ => r = .bool (rgtO K o)) := by
  refine enterX ty tyok Try.func41 rfl Try.ntmps41 [.a [.v (.int .i64 K), .v (.int .i64 mo), .v (.bool pt), .v fn], .a (opC o sa sr)] (by simp) ?_
  simp only [opC]
  intro C hP hQ hnt hty hmb hmh hro; have hQp := qp_body hQ; refine st_ ?_
  refine rn_ ?_; intros
  refine go_gsplit rfl rfl (fun h1 => ?_) (fun h1 => ?_) <;> (refine st_ ?_; (refine rn_ ?_; intros))
  · repeat (refine go_gundef rfl (by rw [hnt]; rfl) rfl ?_; (refine st_ ?_; (refine rn_ ?_; intros)))
    refine rn_ ?_; intros
    refine x_retc rfl hQ hmb rfl (by rw [hty]; simp only [so, sq, zy, zz, tyE, SO', SQ', opQ, opStore, opAlloc, ev, putS, dOk, cv, SV.cs, SV.one, SV.bool?, eqB, Value.oneCell', ldOwn, binInt, binConst, binBool, binStr, isC, TK.agg, rv, rv1, ldV, resOne, resV, Nat.reduceAdd, Nat.reduceMul, Nat.reduceSub, Nat.reduceLT, Nat.reduceLeDiff, Nat.reduceEqDiff, Nat.reduceBEq, reduceIte, reduceCtorEq, eq_self]; try rfl) rfl ?_; simp only [SV.den, resV, dens]
    have := of_decide_eq_true h1
    simp [rgtO]
    intros
    omega
  refine go_gsplit rfl rfl (fun h2 => ?_) (fun h2 => ?_) <;> (refine st_ ?_; (refine rn_ ?_; intros))
  · repeat (refine go_gundef rfl (by rw [hnt]; rfl) rfl ?_; (refine st_ ?_; (refine rn_ ?_; intros)))
    refine rn_ ?_; intros
    refine x_retc rfl hQ hmb rfl (by rw [hty]; simp only [so, sq, zy, zz, tyE, SO', SQ', opQ, opStore, opAlloc, ev, putS, dOk, cv, SV.cs, SV.one, SV.bool?, eqB, Value.oneCell', ldOwn, binInt, binConst, binBool, binStr, isC, TK.agg, rv, rv1, ldV, resOne, resV, Nat.reduceAdd, Nat.reduceMul, Nat.reduceSub, Nat.reduceLT, Nat.reduceLeDiff, Nat.reduceEqDiff, Nat.reduceBEq, reduceIte, reduceCtorEq, eq_self]; try rfl) rfl ?_; simp only [SV.den, resV, dens]
    have := of_decide_eq_true h2
    simp [rgtO]
    intros
    omega
  refine go_gsplit rfl rfl (fun h3 => ?_) (fun h3 => ?_) <;> (refine st_ ?_; (refine rn_ ?_; intros))
  · repeat (refine go_gundef rfl (by rw [hnt]; rfl) rfl ?_; (refine st_ ?_; (refine rn_ ?_; intros)))
    refine rn_ ?_; intros
    refine x_retc rfl hQ hmb rfl (by rw [hty]; simp only [so, sq, zy, zz, tyE, SO', SQ', opQ, opStore, opAlloc, ev, putS, dOk, cv, SV.cs, SV.one, SV.bool?, eqB, Value.oneCell', ldOwn, binInt, binConst, binBool, binStr, isC, TK.agg, rv, rv1, ldV, resOne, resV, Nat.reduceAdd, Nat.reduceMul, Nat.reduceSub, Nat.reduceLT, Nat.reduceLeDiff, Nat.reduceEqDiff, Nat.reduceBEq, reduceIte, reduceCtorEq, eq_self]; try rfl) rfl ?_; simp only [SV.den, resV, dens]
    have := of_decide_eq_true h3
    simp [rgtO]
    intros
    omega
  refine go_gsplit rfl rfl (fun h4 => ?_) (fun h4 => ?_) <;> (refine st_ ?_; (refine rn_ ?_; intros))
  · repeat (refine go_gundef rfl (by rw [hnt]; rfl) rfl ?_; (refine st_ ?_; (refine rn_ ?_; intros)))
    refine rn_ ?_; intros
    refine x_retc rfl hQ hmb rfl (by rw [hty]; simp only [so, sq, zy, zz, tyE, SO', SQ', opQ, opStore, opAlloc, ev, putS, dOk, cv, SV.cs, SV.one, SV.bool?, eqB, Value.oneCell', ldOwn, binInt, binConst, binBool, binStr, isC, TK.agg, rv, rv1, ldV, resOne, resV, Nat.reduceAdd, Nat.reduceMul, Nat.reduceSub, Nat.reduceLT, Nat.reduceLeDiff, Nat.reduceEqDiff, Nat.reduceBEq, reduceIte, reduceCtorEq, eq_self]; try rfl) rfl ?_; simp only [SV.den, resV, dens]
    have := of_decide_eq_true h4
    simp [rgtO]
    intros
    omega
  have p1 := of_decide_eq_false h1
  have p2 := of_decide_eq_false h2
  have p3 := of_decide_eq_false h3
  have p4 := of_decide_eq_false h4
  have hrg : rgtO K o = (vld o.arg && if o.dn then vld o.res && decide (o.fr ≤ o.to) else zer o.res && o.to == 0) := by
    rw [rgtO, decide_eq_true (by omega), decide_eq_true (by omega), decide_eq_true (by omega), decide_eq_true (by omega)]; rfl
  refine go_callf (by rw [hnt]; rfl) (by rw [hP]; kernel_rfl) rfl (hP ▸ check_ok o.arg sa _ ho.a) ?_; refine rn_ ?_; intros
  refine x_split rfl rfl rfl (fun h5 => ?_) (fun h5 => ?_) <;> (refine st_ ?_; (refine ru_ ?_; intros))
  · refine rn_ ?_; intros
    refine x_retc rfl hQ hmb rfl (by rw [hty]; simp only [so, sq, zy, zz, tyE, SO', SQ', opQ, opStore, opAlloc, ev, putS, dOk, cv, SV.cs, SV.one, SV.bool?, eqB, Value.oneCell', ldOwn, binInt, binConst, binBool, binStr, isC, TK.agg, rv, rv1, ldV, resOne, resV, Nat.reduceAdd, Nat.reduceMul, Nat.reduceSub, Nat.reduceLT, Nat.reduceLeDiff, Nat.reduceEqDiff, Nat.reduceBEq, reduceIte, reduceCtorEq, eq_self]; try rfl) rfl ?_; simp only [SV.den, resV, dens]
    rw [hrg]
    have : (chk o.arg != 0) = true := h5
    rw [chk] at this
    split at this
    · simp at this
    · rename_i h; simp at h; rw [h]; rfl
  have hva : vld o.arg = true := by
    have : (chk o.arg != 0) = false := h5
    rw [chk] at this
    split at this
    · assumption
    · simp at this
  rw [hva, Bool.true_and] at hrg
  refine rn_ ?_; intros
  refine x_split rfl rfl rfl (fun hd => ?_) (fun hd => ?_) <;> (refine st_ ?_; (refine ru_ ?_; intros))
  · rw [if_pos hd] at hrg
    refine go_callf (by rw [hnt]; rfl) (by rw [hP]; kernel_rfl) rfl (hP ▸ check_ok o.res sr _ ho.r) ?_; refine rn_ ?_; intros
    rw [chk_eq0]
    refine go_gsplit rfl rfl (fun h6 => ?_) (fun h6 => ?_) <;> (refine st_ ?_; (refine rn_ ?_; intros))
    · refine rn_ ?_; intros
      refine x_retc rfl hQ hmb rfl (by rw [hty]; simp only [so, sq, zy, zz, tyE, SO', SQ', opQ, opStore, opAlloc, ev, putS, dOk, cv, SV.cs, SV.one, SV.bool?, eqB, Value.oneCell', ldOwn, binInt, binConst, binBool, binStr, isC, TK.agg, rv, rv1, ldV, resOne, resV, Nat.reduceAdd, Nat.reduceMul, Nat.reduceSub, Nat.reduceLT, Nat.reduceLeDiff, Nat.reduceEqDiff, Nat.reduceBEq, reduceIte, reduceCtorEq, eq_self]; try rfl) rfl ?_; simp only [SV.den, resV, dens]
      rw [hrg, h6, Bool.true_and]
    · refine rn_ ?_; intros
      refine x_retc rfl hQ hmb rfl (by rw [hty]; simp only [so, sq, zy, zz, tyE, SO', SQ', opQ, opStore, opAlloc, ev, putS, dOk, cv, SV.cs, SV.one, SV.bool?, eqB, Value.oneCell', ldOwn, binInt, binConst, binBool, binStr, isC, TK.agg, rv, rv1, ldV, resOne, resV, Nat.reduceAdd, Nat.reduceMul, Nat.reduceSub, Nat.reduceLT, Nat.reduceLeDiff, Nat.reduceEqDiff, Nat.reduceBEq, reduceIte, reduceCtorEq, eq_self]; try rfl) rfl ?_; simp only [SV.den, resV, dens]
      rw [hrg, h6, Bool.false_and]
  · rw [if_neg (by rw [hd]; decide)] at hrg
    refine go_callf (by rw [hnt]; rfl) (by rw [hP]; kernel_rfl) rfl (hP ▸ zero_ok o.res sr _ ho.r) ?_; refine rn_ ?_; intros
    refine go_gsplit rfl rfl (fun h6 => ?_) (fun h6 => ?_) <;> (refine st_ ?_; (refine rn_ ?_; intros))
    · refine rn_ ?_; intros
      refine x_retc rfl hQ hmb rfl (by rw [hty]; simp only [so, sq, zy, zz, tyE, SO', SQ', opQ, opStore, opAlloc, ev, putS, dOk, cv, SV.cs, SV.one, SV.bool?, eqB, Value.oneCell', ldOwn, binInt, binConst, binBool, binStr, isC, TK.agg, rv, rv1, ldV, resOne, resV, Nat.reduceAdd, Nat.reduceMul, Nat.reduceSub, Nat.reduceLT, Nat.reduceLeDiff, Nat.reduceEqDiff, Nat.reduceBEq, reduceIte, reduceCtorEq, eq_self]; try rfl) rfl ?_; simp only [SV.den, resV, dens]
      rw [hrg, h6, Bool.true_and]
    · refine rn_ ?_; intros
      refine x_retc rfl hQ hmb rfl (by rw [hty]; simp only [so, sq, zy, zz, tyE, SO', SQ', opQ, opStore, opAlloc, ev, putS, dOk, cv, SV.cs, SV.one, SV.bool?, eqB, Value.oneCell', ldOwn, binInt, binConst, binBool, binStr, isC, TK.agg, rv, rv1, ldV, resOne, resV, Nat.reduceAdd, Nat.reduceMul, Nat.reduceSub, Nat.reduceLT, Nat.reduceLeDiff, Nat.reduceEqDiff, Nat.reduceBEq, reduceIte, reduceCtorEq, eq_self]; try rfl) rfl ?_; simp only [SV.den, resV, dens]
      rw [hrg, h6, Bool.false_and]
end Go.Proofs.Ytpmmbjcgabnloaa
namespace Go.Proofs.Ytpmmbjcgabnloaa
set_option linter.unusedSimpArgs false
set_option linter.unusedVariables false
open Go.Sx
set_option maxHeartbeats 8000000
set_option maxRecDepth 20000
structure MS where
  vals : List VT
  ps : List Po
structure MS.rep (G : Hp) (s : MS) (sv sp : Value) : Prop where
  v : rV.S G s.vals sv
  p : rPo.S G s.ps sp
theorem MS.rep.mono {G G' : Hp} {s : MS} {sv sp : Value} (h : s.rep G sv sp) (hl : Le G G') : s.rep G' sv sp := ⟨Rp.S_mono hl h.v, Rp.S_mono hl h.p⟩
end Go.Proofs.Ytpmmbjcgabnloaa
namespace Go.Proofs.Ytpmmbjcgabnloaa
set_option linter.unusedSimpArgs false
set_option linter.unusedVariables false
open Go.Sx
set_option maxHeartbeats 8000000
set_option maxRecDepth 20000
end Go.Proofs.Ytpmmbjcgabnloaa
