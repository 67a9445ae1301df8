/-
  A symbolic walk over the model's code: the statement 'for .. := range f'. Generic: names no program.
-/
import Derived.Test.YtimoldnagdlbcaaSxM
namespace Go.Sx
set_option linter.unusedSimpArgs false
set_option linter.unusedVariables false
open Go.RowKit

abbrev Owns := List (Nat × Nat × OO)

def putsS : List Nat → List Value → List (Nat × SV) → List (Nat × SV)
  | p :: ps, v :: vs, sl => putsS ps vs (stk p (rv v) sl)
  | _, _, sl => sl

theorem slots_puts : ∀ (ps : List Nat) (vs : List Value) (sl : List (Nat × SV)) (tmps : Array Value) (df : List Deferred), (∀ p ∈ ps, p < tmps.size) → Slots sl ⟨tmps, df⟩ →
    Slots (putsS ps vs sl) ⟨(ps.zip vs).foldl (fun t (p, v) => t.setIfInBounds p v) tmps, df⟩ ∧ ((ps.zip vs).foldl (fun t (p, v) => t.setIfInBounds p v) tmps).size = tmps.size
  | [], vs, sl, tmps, df, _, h => by simp [putsS, h]
  | p :: ps, [], sl, tmps, df, _, h => by simp [putsS, h]
  | p :: ps, v :: vs, sl, tmps, df, hp, h => by
    simp only [putsS, List.zip_cons_cons, List.foldl_cons]
    have := slots_puts ps vs (stk p (rv v) sl) (tmps.setIfInBounds p v) df (fun q hq => by simpa using hp q (by simp [hq])) (fun i x e => by
      rw [lk_stk] at e
      show (tmps.setIfInBounds p v)[i]? = _
      split at e
      · rename_i hi; subst hi; cases e
        rw [Array.getElem?_setIfInBounds_self_of_lt (hp i (by simp)), rv_den]
      · rename_i hi
        rw [Array.getElem?_setIfInBounds_ne (Ne.symm hi)]
        exact h i x e)
    refine ⟨this.1, ?_⟩
    rw [this.2]; simp

/-- Every block of these things may be written. -/
def Plain (own : Owns) : Prop := ∀ h b o, lk h own = some (b, o) → ∀ g, o.blks b g → o.mut b g

/-- What the caller holds while an iterator runs: its things, the loop's record, the block for deferred calls. -/
def RZ (C : Ctx) (Gs : Hp) (l D : Nat) (p : Obj → Owns → Prop) : Zn where
  A Z M W := ∃ own G rc, p rc own ∧ Plain own ∧ Mem C own G W ∧ Le Gs G ∧ W.heap[l]? = some rc ∧ W.heap[D]? = some (.deferred (some [])) ∧ G l = none ∧ G D = none ∧ (∀ h b o, lk h own = some (b, o) → ¬ o.blks b l ∧ ¬ o.blks b D) ∧
    (∀ g, Z g ↔ g = l ∨ g = D ∨ (∃ h b o, lk h own = some (b, o) ∧ o.blks b g) ∨ (∃ x, G g = some x) ∨ g < C.w0.heap.size) ∧ (∀ g, M g ↔ g = l ∨ g = D ∨ ∃ h b o, lk h own = some (b, o) ∧ o.mut b g)
  lt Z M W h g hg := by
    obtain ⟨own, G, rc, _, _, hm, _, hl, hD, _, _, _, hZ, _⟩ := h
    rcases (hZ g).1 hg with rfl | rfl | ⟨k, b, o, h1, h2⟩ | ⟨x, h1⟩ | h1
    · exact lt_of_heap hl
    · exact lt_of_heap hD
    · exact hm.lt h1 h2
    · exact lt_of_heap (hm.has g x h1)
    · have := hm.grow.size; omega
  sub Z M W h g hg := by
    obtain ⟨own, G, rc, _, _, hm, _, hl, hD, _, _, _, hZ, hM⟩ := h
    rcases (hM g).1 hg with rfl | rfl | ⟨k, b, o, h1, h2⟩
    · exact (hZ _).2 (.inl rfl)
    · exact (hZ _).2 (.inr (.inl rfl))
    · exact (hZ _).2 (.inr (.inr (.inl ⟨k, b, o, h1, OO.mut_blks (hm.own _ _ _ h1).1 h2⟩)))
  st Z M W W' h hf hs := by
    obtain ⟨own, G, rc, hp, hpl, hm, hle, hl, hD, hGl, hGD, hno, hZ, hM⟩ := h
    refine ⟨own, G, rc, hp, hpl, ⟨fun k b o e => ?_, hm.inj, ?_⟩, hle, ?_, ?_, hGl, hGD, hno, hZ, hM⟩
    · obtain ⟨f1, f2⟩ := hm.own k b o e
      exact ⟨OO.holds_same f1 hf fun g hg => hs g ((hZ g).2 (.inr (.inr (.inl ⟨k, b, o, e, hg⟩)))), f2⟩
    · have q := hm.grow
      refine ⟨hf.os.trans q.os, hf.tape.trans q.tape, hf.output.trans q.output, Nat.le_trans q.size hf.size, fun k hk hmb => ?_, fun b o e => ?_, q.old⟩
      · rw [hs k ((hZ k).2 (.inr (.inr (.inr (.inr hk)))))]; exact q.blk k hk hmb
      · rw [hs b ((hZ b).2 (.inr (.inr (.inr (.inl ⟨o, e⟩)))))]; exact q.has b o e
    · rw [hs l ((hZ l).2 (.inl rfl))]; exact hl
    · rw [hs D ((hZ D).2 (.inr (.inl rfl)))]; exact hD

/-- How a round may end: 'r' is the loop's record while the round runs. -/
def QR (C0 : Ctx) (I : Nat → Owns → Prop) (J : Code → Owns → Prop) (l D : Nat) (r : Loop) (k : Nat) : Exit → Act → World → Prop := fun e _ w =>
  ∃ own G, Mem C0 own G w ∧ lk 999 own = some (l, .o (.loop { r with state := .busy })) ∧ lk 998 own = some (D, .o (.deferred (some []))) ∧
    match e with
    | .normal => I (k + 1) (rmk 998 (rmk 999 own))
    | .ret => J .ret (rmk 998 (rmk 999 own))
    | .exit id => J (.exit id) (rmk 998 (rmk 999 own))
    | .goto t => J (.goto t) (rmk 998 (rmk 999 own))
    | _ => False

/-- The context of a round. -/
structure Round (C' C0 : Ctx) (C : Ctx) (I : Nat → Owns → Prop) (J : Code → Owns → Prop) (l D : Nat) (r : Loop) (k : Nat) : Prop where
  P : C'.P = C.P
  ty : C'.ty = C.ty
  nt : C'.nt = C.nt
  mh : C'.mh = 1000
  ro : C'.ro = some l
  Q : C'.Q = QR C0 I J l D r k
  mem : ∀ own G w, Mem C' own G w → Mem C0 own G w
  ready : r.state = .ready

section
variable {C C' C0 : Ctx} {K : List KI} {s : St} {I : Nat → Owns → Prop} {J : Code → Owns → Prop} {l D k : Nat} {r : Loop}

theorem Round.qp (h : Round C' C0 C I J l D r k) : QP C' := by
  intro c a w d v hp
  rw [h.Q] at hp ⊢
  exact hp

/-- The round's beginning. -/
theorem go_br (h9 : lk 999 s.own = some (l, .o (.loop r))) (hr : r.state = .ready) (h : SGo C K ⟨s.sl, stk 999 (l, .o (.loop { r with state := .busy })) s.own, s.G, s.df⟩) : SGo C (.br l :: K) s := by
  intro a w hS
  have hl : w.heap[l]? = some (.loop r) := (hS.mem.own _ _ _ h9).1
  refine ⟨_, run_beginRound hl hr, ?_⟩
  refine h a _ ⟨hS.sl, hS.nt, hS.df, ?_⟩
  refine hS.mem.put h9 rfl rfl rfl (by simp) (fun j _ hj => World.putObj_heap_other hj) (World.putObj_heap_same (lt_of_heap hl)) (fun g => ⟨.inl, .inl⟩)
/-- The round's end. -/
theorem go_rend (hR : Round C' C0 C I J l D r k) (h9 : lk 999 s.own = some (l, .o (.loop { r with state := .busy }))) (h8 : lk 998 s.own = some (D, .o (.deferred (some [])))) (h : I (k + 1) (rmk 998 (rmk 999 s.own))) : SGo C' [] s := by
  intro a w hS
  show C'.Q .normal a w
  rw [hR.Q]
  exact ⟨s.own, s.G, hR.mem _ _ _ hS.mem, h9, h8, h⟩
theorem x_rret {kc : Code} (ht : tag kc = 7) (hR : Round C' C0 C I J l D r k) (h9 : lk 999 s.own = some (l, .o (.loop { r with state := .busy }))) (h8 : lk 998 s.own = some (D, .o (.deferred (some [])))) (h : J .ret (rmk 998 (rmk 999 s.own))) (hnb : noBr K = true := by rfl) : SGo C' (.code kc :: K) s := by
  intro a w hS
  cases kc <;> simp [tag] at ht
  · rename_i a b c; cases c <;> simp at ht
  refine wpIn_ret ?_
  rw [wpK_ret _ _ _ hnb, hR.Q]
  exact ⟨s.own, s.G, hR.mem _ _ _ hS.mem, h9, h8, h⟩
theorem wpK_exit0 {P : Program} {ro : Option Nat} {Q : Exit → Act → World → Prop} (id : Nat) : ∀ (K : List KI) (a : Act) (w : World), noBr K = true → popTo id K = none → Q (.exit id) a w → wpK P ro Q K (.exit id) a w
  | [], _, _, _, _, g => g
  | .code _ :: K, a, w, h, e, g => wpK_exit0 id K a w h e g
  | .loop _ :: K, a, w, h, e, g => wpK_exit0 id K a w h e g
  | .ops _ _ :: K, a, w, h, e, g => wpK_exit0 id K a w h e g
  | .q _ _ _ :: K, a, w, h, e, g => wpK_exit0 id K a w h e g
  | .h _ _ _ _ :: K, a, w, h, e, g => wpK_exit0 id K a w h e g
  | .hs _ :: K, a, w, h, e, g => wpK_exit0 id K a w h e g
  | .hu _ _ _ _ _ :: K, a, w, h, e, g => wpK_exit0 id K a w h e g
  | .br _ :: K, a, w, h, e, g => by cases h
  | .blk id' :: K, a, w, h, e, g => by
    simp only [popTo] at e
    simp only [wpK]
    split at e
    · cases e
    · rename_i q; rw [if_neg q]; exact wpK_exit0 id K a w h e g
theorem x_rexit {kc : Code} (ht : tag kc = 4) {id : Nat} (hi : cid kc = id) (hp : popTo id K = none) (hR : Round C' C0 C I J l D r k) (h9 : lk 999 s.own = some (l, .o (.loop { r with state := .busy }))) (h8 : lk 998 s.own = some (D, .o (.deferred (some [])))) (h : J (.exit id) (rmk 998 (rmk 999 s.own))) (hnb : noBr K = true := by rfl) : SGo C' (.code kc :: K) s := by
  subst hi
  intro a w hS
  cases kc <;> simp [tag] at ht
  · rename_i a b c; cases c <;> simp at ht
  refine wpIn_exit (wpK_exit0 _ K a w hnb hp ?_)
  rw [hR.Q]
  exact ⟨s.own, s.G, hR.mem _ _ _ hS.mem, h9, h8, h⟩

theorem Mem.alloc0 {own : Owns} {G : Hp} {w : World} (h : Mem C own G w) (o : Obj) : Mem C own G (w.alloc o) :=
  h.stay (G1 := G) (G' := G) ((Grow.refl h.has).alloc o)

/-- A block that no one knows is written. -/
theorem Mem.other {own : Owns} {G : Hp} {w : World} (h : Mem C own G w) {l : Nat} {o : Obj} (hG : G l = none) (hl : C.w0.heap.size ≤ l) (hno : ∀ k b x, lk k own = some (b, x) → ¬ x.blks b l) : Mem C own G (w.putObj l o) := by
  have hs : ∀ j, j ≠ l → (w.putObj l o).heap[j]? = w.heap[j]? := fun j hj => World.putObj_heap_other hj
  refine ⟨fun k b x e => ?_, h.inj, ?_⟩
  · obtain ⟨f1, f2⟩ := h.own k b x e
    exact ⟨OO.holds_same f1 ⟨rfl, rfl, rfl, by simp⟩ fun g hg => hs g (fun q => hno k b x e (q ▸ hg)), f2⟩
  · have q := h.grow
    refine ⟨q.os, q.tape, q.output, by simpa using q.size, fun k hk hm => ?_, fun b x e => ?_, q.old⟩
    · rw [hs k (by omega)]; exact q.blk k hk hm
    · rw [hs b (by intro e'; subst e'; rw [hG] at e; cases e)]; exact q.has b x e

/-- A block for deferred calls joins the others. -/
theorem Mem.addD {own : Owns} {G : Hp} {w : World} (h : Mem C own G w) {kd b D : Nat} {ds : List Nat} (hk : lk kd own = some (b, dzO ds)) (hD : w.heap[D]? = some (.deferred (some []))) (hG : G D = none) (hl : C.w0.heap.size ≤ D) (hno : ∀ k b x, lk k own = some (b, x) → ¬ x.blks b D) : Mem C (stk kd (b, dzO (D :: ds)) own) G w := by
  obtain ⟨g1, g2⟩ := h.own _ _ _ hk
  obtain ⟨z1, z2, z3, z4⟩ := g1
  refine ⟨fun j c x e => ?_, fun j j' c c' x x' g e e' f f' => ?_, h.grow⟩
  · rw [lk_stk] at e
    split at e
    · rename_i hj; subst hj; cases e
      refine ⟨⟨fun _ => Iff.rfl, fun _ => Iff.rfl, ?_, ?_⟩, fun g hg => ?_⟩
      · refine List.nodup_cons.2 ⟨fun q => hno _ _ _ hk q, z3⟩
      · intro g hg
        rcases List.mem_cons.1 hg with rfl | hg
        · exact hD
        · exact z4 g hg
      · rcases List.mem_cons.1 hg with rfl | hg
        · exact ⟨hG, fun _ => hl, fun _ => .inr hl⟩
        · exact g2 g hg
    · exact h.own _ _ _ e
  · have key : ∀ {j c x}, lk j own = some (c, x) → x.blks c g → g ∈ D :: ds → j = kd := by
      intro j2 c2 x2 e2 f2 f3
      rcases List.mem_cons.1 f3 with hg | hg
      · rw [hg] at f2; exact absurd f2 (hno _ _ _ e2)
      · exact h.inj _ _ _ _ _ _ g e2 hk f2 hg
    rw [lk_stk] at e e'
    split at e <;> split at e'
    · omega
    · rename_i h1 h2; cases e; exact absurd (key e' f' f) h2
    · rename_i h1 h2; cases e'; exact absurd (key e f f') h1
    · exact h.inj _ _ _ _ _ _ _ e e' f f'

open Classical in
theorem go_range (kd : Nat) {g : Operand} {ps : Array Tmp} {assign body : Code} {gf : FuncId} {cap : List Value} {zg : SV} {enc : Nat → List Value → Hp → Prop} {N bd : Nat} {ds : List Nat}
    (hro : C.ro = none) (hmh : C.mh = 0) (hg : ev s.sl g = some zg) (hgv : zg.den = .func (.func gf) #[] cap.toArray) (hcall : canCall C.P gf = true) (hps : ∀ p ∈ ps.toList, p < C.nt)
    (hit : Iter C.P gf cap s.G enc N) (hmono : ∀ k vs G G', Le G G' → enc k vs G → enc k vs G') (hlen : ∀ k vs G, enc k vs G → vs.length = ps.size)
    (I : Nat → Owns → Prop) (J : Code → Owns → Prop) (hI : ∀ k own, I k own → (∀ h x, lk h own = some x → h < 998) ∧ Plain own ∧ lk kd own = some (bd, dzO ds)) (hJ : ∀ c own, J c own → Plain own ∧ lk kd own = some (bd, dzO ds)) (h0 : I 0 s.own)
    (hbody : ∀ C' C0 k own vs G1 l D r, k < N → I k own → Le s.G G1 → enc k vs G1 → Round C' C0 C I J l D r k →
      SGo C' [.code assign, .br l, .code body] ⟨putsS ps.toList vs s.sl, (998, D, .o (.deferred (some []))) :: (999, l, .o (.loop r)) :: own, G1, []⟩)
    (hdone : ∀ D own G', I N own → Le s.G G' → SGo C K ⟨s.sl, stk kd (bd, dzO (D :: ds)) own, G', mkD D :: s.df⟩)
    (hstop : ∀ D c own G', J c own → Le s.G G' → SGo C (.code c :: K) ⟨s.sl, stk kd (bd, dzO (D :: ds)) own, G', mkD D :: s.df⟩) : SGo C (.code (.rangeFunc g ps assign body) :: K) s := by
  intro a w hS
  have hgv' := ev_ok hS.sl hg
  rw [hgv] at hgv'
  show Code.wpIn (FR C.ro) 0 C.P _ _ a w
  rw [hro]
  refine wpIn_rangeFunc ?_
  intro fn _
  obtain ⟨rec, hrec⟩ : ∃ rec : LoopState → Option Code → Loop, rec = fun st pe => { state := st, pending := pe, fn, tmps := a.tmps, params := ps, assign, body, defers := w.heap.size } := ⟨_, rfl⟩
  obtain ⟨W1, hW1⟩ : ∃ W1, (w.alloc (.deferred (some []))).alloc (.loop (rec .ready none)) = W1 := ⟨_, rfl⟩
  obtain ⟨l, hl⟩ : ∃ l, w.heap.size + 1 = l := ⟨_, rfl⟩
  obtain ⟨D, hD⟩ : ∃ D, w.heap.size = D := ⟨_, rfl⟩
  have hsz := hS.mem.grow.size
  have hL1 : W1.heap[l]? = some (.loop (rec .ready none)) := by
    rw [← hW1, ← hl]; have := World.alloc_heap_new (w.alloc (.deferred (some []))) (.loop (rec .ready none)); rwa [World.size_alloc] at this
  have hD1 : W1.heap[D]? = some (.deferred (some [])) := by
    rw [← hW1, ← hD]; exact (Below.heap_alloc _ _ _ (by simp)).trans (World.alloc_heap_new w _)
  have hm1 : Mem C s.own s.G W1 := by rw [← hW1]; exact (hS.mem.alloc0 _).alloc0 _
  have hGn : ∀ g, w.heap.size ≤ g → s.G g = none := fun g hg => by
    cases hG : s.G g with
    | none => rfl
    | some x => have := lt_of_heap (hS.mem.has g x hG); omega
  have hbn : ∀ g, w.heap.size ≤ g → ∀ h b o, lk h s.own = some (b, o) → ¬ o.blks b g := fun g hg h b o e q => by
    have := hS.mem.lt e q; omega
  -- the zones
  obtain ⟨A, hA⟩ : ∃ A : Nat → Zn, A = fun k => RZ C s.G l D (fun rc own => rc = .loop (rec .ready none) ∧ I k own) := ⟨_, rfl⟩
  obtain ⟨B, hB⟩ : ∃ B : Zn, B = RZ C s.G l D (fun rc own => ∃ c, rc = .loop (rec .done (some c)) ∧ J c own) := ⟨_, rfl⟩
  have hlD : l ≠ D := by omega
  have hyok : YOk C.P l A B enc N := by
    intro k vs W Z M G2 hkN hAk hG2 hM2 henc
    rw [hA] at hAk
    obtain ⟨own, G, rc, ⟨rfl, hIk⟩, hpl, hm, hle, hLl, hLD, hGl, hGD, hno, hZ, hM⟩ := hAk
    obtain ⟨hI1, _, hIkd⟩ := hI k own hIk
    have hsz2 := hm.grow.size
    have hyl := run_yield (P := C.P) (args := vs.toArray) hLl (by rw [hrec]; simpa using hlen k vs G2 henc)
    refine ⟨_, _, _, _, hyl, ?_⟩
    -- what is known in the round
    obtain ⟨G1, hG1⟩ : ∃ G1 : Hp, G1 = fun b => match G b with | some o => some o | none => G2 b := ⟨_, rfl⟩
    have hG1s : ∀ b o, G b = some o → G1 b = some o := fun b o e => by rw [hG1]; simp [e]
    have hG1h : Has W G1 := fun b o e => by
      rw [hG1] at e
      simp only at e
      cases hb : G b with
      | some x => rw [hb] at e; cases e; exact hm.has b _ hb
      | none => rw [hb] at e; exact hG2 b o e
    have hle2 : Le G2 G1 := fun b o e => by
      cases hb : G b with
      | some x =>
        have e1 := hm.has b x hb
        have e2 := hG2 b o e
        rw [e1] at e2; cases e2
        exact hG1s b _ hb
      | none => rw [hG1]; simp [hb, e]
    have hG1n : ∀ g, M g → G1 g = none := fun g hg => by
      have e1 : G g = none := by
        rcases (hM g).1 hg with rfl | rfl | ⟨h, b, o, e, q⟩
        · exact hGl
        · exact hGD
        · exact ((hm.own _ _ _ e).2 g q).1
      rw [hG1]; simp [e1, hM2 g hg]
    obtain ⟨C0, hC0⟩ : ∃ C0 : Ctx, C0 = ⟨C.P, fun _ _ _ => True, C.nt, C.ty, C.tyok, W, G1, (List.range W.heap.size).filter (fun g => decide (M g)), 1000, some l⟩ := ⟨_, rfl⟩
    obtain ⟨C', hC'⟩ : ∃ C' : Ctx, C' = ⟨C.P, QR C0 I J l D (rec .ready none) k, C.nt, C.ty, C.tyok, W, G1, (List.range W.heap.size).filter (fun g => decide (M g)), 1000, some l⟩ := ⟨_, rfl⟩
    have hmem : ∀ own G w, Mem C' own G w → Mem C0 own G w := fun own G w h => by
      rw [hC'] at h; rw [hC0]; exact ⟨h.own, h.inj, h.grow⟩
    have hround : Round C' C0 C I J l D (rec .ready none) k := by
      refine ⟨?_, ?_, ?_, ?_, ?_, ?_, hmem, by rw [hrec]⟩ <;> rw [hC']
    have hgo := hbody C' C0 k own vs G1 l D (rec .ready none) hkN hIk (hle.trans hG1s) (hmono k vs G2 G1 hle2 henc) hround
    have hMl : M l := (hM l).2 (.inl rfl)
    have hMD : M D := (hM D).2 (.inr (.inl rfl))
    have hltl := lt_of_heap hLl
    have hltD := lt_of_heap hLD
    have hmb : ∀ g, g ∈ C'.mb ↔ g < W.heap.size ∧ M g := fun g => by rw [hC']; simp [List.mem_filter]
    have hw0 : C'.w0 = W := by rw [hC']
    have hmh' : C'.mh = 1000 := by rw [hC']
    have hmem1 : Mem C' ((998, D, .o (.deferred (some []))) :: (999, l, .o (.loop (rec .ready none))) :: own) G1 W := by
      refine ⟨fun h b o e => ?_, fun h h' b b' o o' g e e' f f' => ?_, ?_⟩
      · simp only [lk] at e
        split at e
        · rename_i q; subst q; cases e
          refine ⟨hLD, fun g hg => ?_⟩
          simp only [OO.mut] at hg
          subst hg
          exact ⟨hG1n _ hMD, fun q => by omega, fun _ => .inl ((hmb _).2 ⟨hltD, hMD⟩)⟩
        · split at e
          · rename_i q; subst q; cases e
            refine ⟨hLl, fun g hg => ?_⟩
            simp only [OO.mut] at hg
            subst hg
            exact ⟨hG1n _ hMl, fun q => by omega, fun _ => .inl ((hmb _).2 ⟨hltl, hMl⟩)⟩
          · obtain ⟨f1, f2⟩ := hm.own _ _ _ e
            have hh := hI1 _ _ e
            refine ⟨?_, fun g hg => ?_⟩
            · cases o <;> exact f1
            · have hMg := (hM g).2 (.inr (.inr ⟨h, b, o, e, hg⟩))
              exact ⟨hG1n g hMg, fun q => by omega, fun _ => .inl ((hmb g).2 ⟨hm.ltm e hg, hMg⟩)⟩
      · simp only [lk] at e e'
        split at e
        · rename_i q; subst q; cases e
          simp only [OO.blks] at f
          subst f
          split at e'
          · omega
          · split at e'
            · cases e'; simp only [OO.blks] at f'; omega
            · exact absurd f' (hno _ _ _ e').2
        · split at e
          · rename_i q; subst q; cases e
            simp only [OO.blks] at f
            subst f
            split at e'
            · cases e'; simp only [OO.blks] at f'; omega
            · split at e'
              · omega
              · exact absurd f' (hno _ _ _ e').1
          · split at e'
            · cases e'; simp only [OO.blks] at f'; subst f'; exact absurd f (hno _ _ _ e).2
            · split at e'
              · cases e'; simp only [OO.blks] at f'; subst f'; exact absurd f (hno _ _ _ e).1
              · exact hm.inj _ _ _ _ _ _ _ e e' f f'
      · have : Grow C'.mb W G1 W G1 := Grow.refl hG1h
        rw [hC'] at this ⊢
        exact this
    have hslots := slots_puts ps.toList vs s.sl a.tmps [] (fun p hp => by rw [hS.nt]; exact hps p hp) (fun i x e => hS.sl i x e)
    have hwp := hgo ⟨_, []⟩ W ⟨hslots.1, by rw [hslots.2, hround.nt]; exact hS.nt, rfl, hmem1⟩
    rw [hround.P, hround.ro] at hwp
    have hzip : (ps.zip vs.toArray).foldl (fun t (x : Tmp × Value) => match x with | (p, v) => t.setIfInBounds p v) a.tmps = (ps.toList.zip vs).foldl (fun t (p, v) => t.setIfInBounds p v) a.tmps := by
      rw [← Array.foldl_toList, Array.toList_zip]
    -- what a round's end leads to
    have fin : ∀ (W3 : World) (own3 : Owns) (G3 : Hp) (jump : Option Code) (p : Obj → Owns → Prop), Mem C0 own3 G3 W3 → lk 999 own3 = some (l, .o (.loop { rec .ready none with state := .busy })) → lk 998 own3 = some (D, .o (.deferred (some []))) →
        p (.loop (rec (if jump.isNone then .ready else .done) jump)) (rmk 998 (rmk 999 own3)) → Plain (rmk 998 (rmk 999 own3)) →
        ∃ W4 Z' M', (Instr.endRound l jump).run C.P W3 = .ok (.bool jump.isNone) W4 ∧ YRes W Z M W4 Z' M' ∧ (RZ C s.G l D p).A Z' M' W4 := by
      intro W3 own3 G3 jump p hm3 h9 h8 hp3 hpl3
      rw [hC0] at hm3
      have hl3 : W3.heap[l]? = some (.loop { rec .ready none with state := .busy }) := (hm3.own _ _ _ h9).1
      have hD3 : W3.heap[D]? = some (.deferred (some [])) := (hm3.own _ _ _ h8).1
      have hend := run_endRound (P := C.P) jump hl3
      have hgr := hm3.grow
      have hmb0 : ∀ g, g ∈ (List.range W.heap.size).filter (fun g => decide (M g)) ↔ g < W.heap.size ∧ M g := fun g => by simp [List.mem_filter]
      -- the blocks of what is the caller's own
      have hown : ∀ h b o, lk h (rmk 998 (rmk 999 own3)) = some (b, o) → lk h own3 = some (b, o) ∧ h ≠ 998 ∧ h ≠ 999 := fun h b o e => by
        rw [lk_rmk] at e
        split at e
        · cases e
        · rw [lk_rmk] at e
          split at e
          · cases e
          · exact ⟨e, by assumption, by assumption⟩
      have hmut : ∀ h b o, lk h own3 = some (b, o) → ∀ g, o.mut b g → M g ∨ W.heap.size ≤ g := fun h b o e g hg => by
        obtain ⟨_, q2, q3⟩ := (hm3.own _ _ _ e).2 g hg
        rcases Nat.lt_or_ge h 1000 with r | r
        · exact (q3 r).imp (fun q => ((hmb0 g).1 q).2) id
        · exact .inr (q2 r)
      obtain ⟨G4, hG4⟩ : ∃ G4 : Hp, G4 = fun b => if b < W.heap.size then G b else G3 b := ⟨_, rfl⟩
      have hMG : ∀ g, M g → G g = none := fun g hg => by
        rcases (hM g).1 hg with rfl | rfl | ⟨h, b, o, e, q⟩
        · exact hGl
        · exact hGD
        · exact ((hm.own _ _ _ e).2 g q).1
      have hMlow : ∀ g, M g → C.w0.heap.size ≤ g := fun g hg => by
        rcases (hM g).1 hg with rfl | rfl | ⟨h, b, o, e, q⟩
        · omega
        · omega
        · exact ((hm.own _ _ _ e).2 g q).2.1 (by omega)
      have hsame4 : ∀ j, j < W.heap.size → ¬ M j → (W3.putObj l (.loop { { rec .ready none with state := .busy } with state := if jump.isNone then .ready else .done, pending := jump })).heap[j]? = W.heap[j]? := fun j hj hM' => by
        rw [World.putObj_heap_other (by intro e; subst e; exact hM' hMl)]
        exact hgr.blk j hj (fun q => hM' ((hmb0 j).1 q).2)
      have hG3l : G3 l = none := ((hm3.own _ _ _ h9).2 l rfl).1
      have hG3D : G3 D = none := ((hm3.own _ _ _ h8).2 D rfl).1
      have hhas4 : ∀ b o, G4 b = some o → (W3.putObj l (.loop { { rec .ready none with state := .busy } with state := if jump.isNone then .ready else .done, pending := jump })).heap[b]? = some o := fun b o e => by
        rw [hG4] at e
        simp only at e
        split at e
        · rename_i hb
          rw [hsame4 b hb (fun q => by rw [hMG b q] at e; cases e)]
          exact hm.has b o e
        · rw [World.putObj_heap_other (fun q => by subst q; rw [hG3l] at e; cases e)]
          exact hgr.has b o e
      have hrc : (Loop.mk (if jump.isNone then .ready else .done) jump (rec .ready none).fn (rec .ready none).tmps (rec .ready none).params (rec .ready none).assign (rec .ready none).body (rec .ready none).defers) = rec (if jump.isNone then .ready else .done) jump := by rw [hrec]
      refine ⟨_, _, _, hend, ⟨⟨hgr.os, hgr.tape, hgr.output, by simpa using hgr.size⟩, fun g hg => ?_, fun g hg => ?_, hsame4⟩, rmk 998 (rmk 999 own3), G4, _, hp3, hpl3, ⟨fun h b o e => ?_, fun h h' b b' o o' g e e' f f' => ?_, ?_⟩, ?_, ?_, ?_, ?_, ?_, ?_, fun g => Iff.rfl, fun g => Iff.rfl⟩
      · rcases hg with rfl | rfl | ⟨h, b, o, e, q⟩ | ⟨x, e⟩ | q
        · exact .inl ((hZ _).2 (.inl rfl))
        · exact .inl ((hZ _).2 (.inr (.inl rfl)))
        · refine (hmut h b o (hown _ _ _ e).1 g (hpl3 h b o e g q)).imp (fun q => ?_) id
          rcases (hM g).1 q with rfl | rfl | ⟨h', b', o', e', q'⟩
          · exact (hZ _).2 (.inl rfl)
          · exact (hZ _).2 (.inr (.inl rfl))
          · exact (hZ _).2 (.inr (.inr (.inl ⟨h', b', o', e', OO.mut_blks (hm.own _ _ _ e').1 q'⟩)))
        · rw [hG4] at e
          simp only at e
          split at e
          · exact .inl ((hZ _).2 (.inr (.inr (.inr (.inl ⟨x, e⟩)))))
          · exact .inr (by omega)
        · exact .inl ((hZ _).2 (.inr (.inr (.inr (.inr q)))))
      · rcases hg with rfl | rfl | ⟨h, b, o, e, q⟩
        · exact .inl hMl
        · exact .inl hMD
        · exact hmut h b o (hown _ _ _ e).1 g q
      · obtain ⟨e1, n8, n9⟩ := hown _ _ _ e
        obtain ⟨f1, f2⟩ := hm3.own _ _ _ e1
        refine ⟨?_, fun g hg => ?_⟩
        · have : OO.holds C.w0.heap.size W3 b o := by cases o <;> exact f1
          refine OO.holds_same this ⟨rfl, rfl, rfl, by simp⟩ fun g hg => ?_
          rw [World.putObj_heap_other]
          intro q
          subst q
          exact n9 (hm3.inj _ _ _ _ _ _ g e1 h9 hg rfl)
        · have hq := hmut _ _ _ e1 g hg
          refine ⟨?_, fun _ => hq.elim (hMlow g) (fun q => by omega), fun q => by omega⟩
          rw [hG4]
          show (if g < W.heap.size then G g else G3 g) = none
          split
          · rename_i hlt
            exact hMG g (hq.resolve_right (by omega))
          · exact (f2 g hg).1
      · exact hm3.inj _ _ _ _ _ _ _ (hown _ _ _ e).1 (hown _ _ _ e').1 f f'
      · refine ⟨hgr.os.trans hm.grow.os, hgr.tape.trans hm.grow.tape, hgr.output.trans hm.grow.output, by have := hgr.size; simp only [World.putObj_size]; exact Nat.le_trans hsz2 this, fun j hj hmbj => ?_, hhas4, fun b hb => ?_⟩
        · rw [hsame4 j (by omega) (fun q => by have := hMlow j q; omega)]
          exact hm.grow.blk j hj hmbj
        · rw [hG4]
          show (if b < W.heap.size then G b else G3 b) = _
          rw [if_pos (by omega)]
          exact hm.grow.old b hb
      · intro b o e
        rw [hG4]
        show (if b < W.heap.size then G b else G3 b) = _
        have := hle b o e
        rw [if_pos (lt_of_heap (hm.has b o this))]
        exact this
      · rw [World.putObj_heap_same (lt_of_heap hl3)]
        exact congrArg (fun x => some (Obj.loop x)) hrc
      · rw [World.putObj_heap_other (Ne.symm hlD)]; exact hD3
      · rw [hG4]
        show (if l < W.heap.size then G l else G3 l) = none
        rw [if_pos hltl]; exact hGl
      · rw [hG4]
        show (if D < W.heap.size then G D else G3 D) = none
        rw [if_pos hltD]; exact hGD
      · intro h b o e
        obtain ⟨e1, n8, n9⟩ := hown _ _ _ e
        exact ⟨fun q => n9 (hm3.inj _ _ _ _ _ _ l e1 h9 q rfl), fun q => n8 (hm3.inj _ _ _ _ _ _ D e1 h8 q rfl)⟩
    refine roundIn_of_wpIn trivial ?_
    rw [hrec]
    simp only [hzip]
    refine wpIn_mono hwp ?_
    intro e a₁ w₁ hq
    cases e with
    | normal =>
      obtain ⟨w₂, hbr, hb⟩ := hq
      refine ⟨w₂, hbr, wpIn_mono hb ?_⟩
      intro e a₂ w₃ hq
      have hq' : C'.Q e a₂ w₃ := hq
      rw [hround.Q] at hq'
      obtain ⟨own3, G3, hm3, h9, h8, hend⟩ := hq'
      cases e with
      | normal =>
        obtain ⟨W4, Z', M', q1, q2, q3⟩ := fin w₃ own3 G3 none (fun rc own => rc = .loop (rec .ready none) ∧ I (k + 1) own) hm3 h9 h8 ⟨rfl, hend⟩ (hI _ _ hend).2.1
        exact ⟨_, _, q1, _, rfl, Z', M', q2, .inl ⟨rfl, by rw [hA]; exact q3⟩⟩
      | ret =>
        obtain ⟨W4, Z', M', q1, q2, q3⟩ := fin w₃ own3 G3 (some .ret) (fun rc own => ∃ c, rc = .loop (rec .done (some c)) ∧ J c own) hm3 h9 h8 ⟨_, rfl, hend⟩ (hJ _ _ hend).1
        exact ⟨_, _, q1, _, rfl, Z', M', q2, .inr ⟨rfl, by rw [hB]; exact q3⟩⟩
      | exit id =>
        obtain ⟨W4, Z', M', q1, q2, q3⟩ := fin w₃ own3 G3 (some (.exit id)) (fun rc own => ∃ c, rc = .loop (rec .done (some c)) ∧ J c own) hm3 h9 h8 ⟨_, rfl, hend⟩ (hJ _ _ hend).1
        exact ⟨_, _, q1, _, rfl, Z', M', q2, .inr ⟨rfl, by rw [hB]; exact q3⟩⟩
      | goto id =>
        obtain ⟨W4, Z', M', q1, q2, q3⟩ := fin w₃ own3 G3 (some (.goto id)) (fun rc own => ∃ c, rc = .loop (rec .done (some c)) ∧ J c own) hm3 h9 h8 ⟨_, rfl, hend⟩ (hJ _ _ hend).1
        exact ⟨_, _, q1, _, rfl, Z', M', q2, .inr ⟨rfl, by rw [hB]; exact q3⟩⟩
      | panic ch => exact hend.elim
      | outgrown => exact hend.elim
    | exit id => exact hq.elim
    | goto id => exact hq.elim
    | ret => exact hq.elim
    | panic ch => exact hq.elim
    | outgrown => exact hq.elim
  refine ⟨l, [mkD D], W1, { target := .fn (.func gf) cap.toArray, args := #[.func (.yield l) #[] #[]] }, W1, gf, #[.func (.yield l) #[] #[]] ++ cap.toArray, W1, ?_, ?_, ?_, ?_, FR_depth _ _, ?_⟩
  · have := run_enterLoop_outer (P := C.P) (w := w) fn a.tmps ps assign body
    rw [← hW1, ← hl, ← hD, hrec]
    exact this
  · simp only [resolve, hgv']
    simp [go_sem]
  · intro f' _; trivial
  · simp only [invoke]
    exact callFunc_ok hcall _ _
  · refine callsFR.2 ?_
    have hc := hit l A B hyok W1 (fun g => g = l ∨ g = D ∨ (∃ h b o, lk h s.own = some (b, o) ∧ o.blks b g) ∨ (∃ x, s.G g = some x) ∨ g < C.w0.heap.size) (fun g => g = l ∨ g = D ∨ ∃ h b o, lk h s.own = some (b, o) ∧ o.mut b g) hm1.has
      (by
        rw [hA]
        exact ⟨s.own, s.G, _, ⟨rfl, h0⟩, (hI 0 s.own h0).2.1, hm1, Le.refl _, hL1, hD1, hGn l (by omega), hGn D (by omega), fun h b o e => ⟨hbn l (by omega) h b o e, hbn D (by omega) h b o e⟩, fun _ => Iff.rfl, fun _ => Iff.rfl⟩)
      (by
        intro g hg
        rcases hg with rfl | rfl | ⟨h, b, o, e, q⟩
        · exact hGn _ (by omega)
        · exact hGn _ (by omega)
        · exact ((hS.mem.own _ _ _ e).2 g q).1)
    have harr : (#[.func (.yield l) #[] #[]] ++ cap.toArray : Array Value) = (.func (.yield l) #[] #[] :: cap).toArray := by simp
    rw [harr]
    refine hc.mono ?_
    rintro e w3 ⟨v, G3, Y, Z', M', rfl, hr, hG3, hold, hMG3, hY, hYc⟩
    have main : ∀ (p : Obj → Owns → Prop) (jump : Option Code) (st : LoopState), st ≠ .busy → (∀ rc own, p rc own → rc = .loop (rec st jump)) → (RZ C s.G l D p).A Z' M' w3 →
        ∃ own G, p (.loop (rec st jump)) own ∧ Le s.G G ∧ (Instr.endLoop l).run C.P w3 = .ok jump (w3.putObj l (.loop { rec st jump with state := .exhausted })) ∧
          (lk kd own = some (bd, dzO ds) → Sat C ⟨s.sl, stk kd (bd, dzO (D :: ds)) own, G, mkD D :: s.df⟩ { a with defers := [mkD D] ++ a.defers } (w3.putObj l (.loop { rec st jump with state := .exhausted }))) := by
      intro p jump st hst hp hz
      obtain ⟨own, G, rc, hpp, hpl, hm, hle, hLl, hLD, hGl, hGD, hno, _, _⟩ := hz
      obtain rfl := hp rc own hpp
      have hend := run_endLoop (P := C.P) hLl (by rw [hrec]; exact hst)
      refine ⟨own, G, hpp, hle, by rw [hend]; rw [hrec], fun hkd => ⟨hS.sl, hS.nt, by show [mkD D] ++ a.defers = _; rw [hS.df]; rfl, ?_⟩⟩
      have hm4 := hm.other (o := .loop { rec st jump with state := .exhausted }) hGl (by omega) (fun h b x e => (hno h b x e).1)
      exact hm4.addD hkd (by rw [World.putObj_heap_other (Ne.symm hlD)]; exact hLD) hGD (by omega) (fun h b x e => (hno h b x e).2)
    rcases hYc with rfl | rfl
    · rw [hA] at hY
      obtain ⟨own, G, hpp, hle, hend, hsat⟩ := main _ none .ready (by simp) (fun rc own h => h.1) hY
      refine ⟨none, _, hend, ?_⟩
      have := hdone D own G hpp.2 hle _ _ (hsat (hI _ _ hpp.2).2.2)
      rw [hro] at this
      exact this
    · rw [hB] at hY
      have hY' := hY
      obtain ⟨own, G, rc, ⟨c, rfl, hJc⟩, hpl, hm, hle, hLl, hLD, hGl, hGD, hno, hZ', hM'⟩ := hY
      obtain ⟨own2, G4, hpp, hle4, hend, hsat⟩ := main (fun rc own => rc = .loop (rec .done (some c)) ∧ J c own) (some c) .done (by simp) (fun rc own h => h.1) ⟨own, G, _, ⟨rfl, hJc⟩, hpl, hm, hle, hLl, hLD, hGl, hGD, hno, hZ', hM'⟩
      refine ⟨some c, _, hend, ?_⟩
      have := hstop D c own2 G4 hpp.2 hle4 _ _ (hsat (hJ _ _ hpp.2).2)
      rw [hro] at this
      exact this
end
end Go.Sx
