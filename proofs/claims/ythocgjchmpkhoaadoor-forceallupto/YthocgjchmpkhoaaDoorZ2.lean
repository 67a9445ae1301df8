/-
  A symbolic walk over the model's code: the statement 'for .. := range f'. Generic: names no program.
-/
import Derived.Test.YthocgjchmpkhoaaDoorZ1
import Derived.MapKept
import Derived.Test.YthocgjchmpkhoaaDoorRows
import Derived.RecoverIn
import Derived.DefersIn
import Derived.ArgAppend
import Derived.Laws.BytesArg
import Derived.Laws.IdiomStrings
set_option linter.unusedSimpArgs false
set_option linter.unusedVariables false
namespace Go.Sx
set_option linter.unusedSimpArgs false
set_option linter.unusedVariables false
open Go.RowKit

abbrev Owns := List (Nat × Nat × OO)

def putsS : List Nat → List Value → List (Nat × SV) → List (Nat × SV)
  | p :: ps, v :: vs, sl => putsS ps vs (stk p (rv v) sl)
  | _, _, sl => sl

theorem slots_puts : ∀ (ps : List Nat) (vs : List Value) (sl : List (Nat × SV)) (tmps : Array Value) (df : List Deferred), (∀ p ∈ ps, p < tmps.size) → Slots sl ⟨tmps, df⟩ →
    Slots (putsS ps vs sl) ⟨(ps.zip vs).foldl (fun t (p, v) => t.setIfInBounds p v) tmps, df⟩ ∧ ((ps.zip vs).foldl (fun t (p, v) => t.setIfInBounds p v) tmps).size = tmps.size
  | [], vs, sl, tmps, df, _, h => by simp [putsS, h]
  | p :: ps, [], sl, tmps, df, _, h => by simp [putsS, h]
  | p :: ps, v :: vs, sl, tmps, df, hp, h => by
    simp only [putsS, List.zip_cons_cons, List.foldl_cons]
    have := slots_puts ps vs (stk p (rv v) sl) (tmps.setIfInBounds p v) df (fun q hq => by simpa using hp q (by simp [hq])) (fun i x e => by
      rw [lk_stk] at e
      show (tmps.setIfInBounds p v)[i]? = _
      split at e
      · rename_i hi; subst hi; cases e
        rw [Array.getElem?_setIfInBounds_self_of_lt (hp i (by simp)), rv_den]
      · rename_i hi
        rw [Array.getElem?_setIfInBounds_ne (Ne.symm hi)]
        exact h i x e)
    refine ⟨this.1, ?_⟩
    rw [this.2]; simp

def Plain (own : Owns) : Prop := ∀ h b o, lk h own = some (b, o) → ∀ g, o.blks b g → o.mut b g

def RZ (C : Ctx) (Gs : Hp) (l D : Nat) (p : Obj → Owns → Prop) : Zn where
  A Z M W := ∃ own G rc, p rc own ∧ Plain own ∧ Mem C own G W ∧ Le Gs G ∧ W.heap[l]? = some rc ∧ W.heap[D]? = some (.deferred (some [])) ∧ G l = none ∧ G D = none ∧ (∀ h b o, lk h own = some (b, o) → ¬ o.blks b l ∧ ¬ o.blks b D) ∧
    (∀ g, Z g ↔ g = l ∨ g = D ∨ (∃ h b o, lk h own = some (b, o) ∧ o.blks b g) ∨ (∃ x, G g = some x) ∨ g < C.w0.heap.size) ∧ (∀ g, M g ↔ g = l ∨ g = D ∨ ∃ h b o, lk h own = some (b, o) ∧ o.mut b g)
  lt Z M W h g hg := by
    obtain ⟨own, G, rc, _, _, hm, _, hl, hD, _, _, _, hZ, _⟩ := h
    rcases (hZ g).1 hg with rfl | rfl | ⟨k, b, o, h1, h2⟩ | ⟨x, h1⟩ | h1
    · exact lt_of_heap hl
    · exact lt_of_heap hD
    · exact hm.lt h1 h2
    · exact lt_of_heap (hm.has g x h1)
    · have := hm.grow.size; omega
  sub Z M W h g hg := by
    obtain ⟨own, G, rc, _, _, hm, _, hl, hD, _, _, _, hZ, hM⟩ := h
    rcases (hM g).1 hg with rfl | rfl | ⟨k, b, o, h1, h2⟩
    · exact (hZ _).2 (.inl rfl)
    · exact (hZ _).2 (.inr (.inl rfl))
    · exact (hZ _).2 (.inr (.inr (.inl ⟨k, b, o, h1, OO.mut_blks (hm.own _ _ _ h1).1 h2⟩)))
  st Z M W W' h hf hs := by
    obtain ⟨own, G, rc, hp, hpl, hm, hle, hl, hD, hGl, hGD, hno, hZ, hM⟩ := h
    refine ⟨own, G, rc, hp, hpl, ⟨fun k b o e => ?_, hm.inj, ?_⟩, hle, ?_, ?_, hGl, hGD, hno, hZ, hM⟩
    · obtain ⟨f1, f2⟩ := hm.own k b o e
      exact ⟨OO.holds_same f1 hf fun g hg => hs g ((hZ g).2 (.inr (.inr (.inl ⟨k, b, o, e, hg⟩)))), f2⟩
    · have q := hm.grow
      refine ⟨hf.os.trans q.os, hf.tape.trans q.tape, hf.output.trans q.output, Nat.le_trans q.size hf.size, fun k hk hmb => ?_, fun b o e => ?_, q.old⟩
      · rw [hs k ((hZ k).2 (.inr (.inr (.inr (.inr hk)))))]; exact q.blk k hk hmb
      · rw [hs b ((hZ b).2 (.inr (.inr (.inr (.inl ⟨o, e⟩)))))]; exact q.has b o e
    · rw [hs l ((hZ l).2 (.inl rfl))]; exact hl
    · rw [hs D ((hZ D).2 (.inr (.inl rfl)))]; exact hD

def QR (C0 : Ctx) (I : Nat → Owns → Prop) (J : Code → Owns → Prop) (l D : Nat) (r : Loop) (k : Nat) : Exit → Act → World → Prop := fun e _ w =>
  ∃ own G, Mem C0 own G w ∧ lk 999 own = some (l, .o (.loop { r with state := .busy })) ∧ lk 998 own = some (D, .o (.deferred (some []))) ∧
    match e with
    | .normal => I (k + 1) (rmk 998 (rmk 999 own))
    | .ret => J .ret (rmk 998 (rmk 999 own))
    | .exit id => J (.exit id) (rmk 998 (rmk 999 own))
    | .goto t => J (.goto t) (rmk 998 (rmk 999 own))
    | _ => False

structure Round (C' C0 : Ctx) (C : Ctx) (I : Nat → Owns → Prop) (J : Code → Owns → Prop) (l D : Nat) (r : Loop) (k : Nat) : Prop where
  P : C'.P = C.P
  ty : C'.ty = C.ty
  nt : C'.nt = C.nt
  mh : C'.mh = 1000
  ro : C'.ro = some l
  Q : C'.Q = QR C0 I J l D r k
  mem : ∀ own G w, Mem C' own G w → Mem C0 own G w
  ready : r.state = .ready

section
variable {C C' C0 : Ctx} {K : List KI} {s : St} {I : Nat → Owns → Prop} {J : Code → Owns → Prop} {l D k : Nat} {r : Loop}

theorem Round.qp (h : Round C' C0 C I J l D r k) : QP C' := by
  intro c a w d v hp
  rw [h.Q] at hp ⊢
  exact hp

theorem go_br (h9 : lk 999 s.own = some (l, .o (.loop r))) (hr : r.state = .ready) (h : SGo C K ⟨s.sl, stk 999 (l, .o (.loop { r with state := .busy })) s.own, s.G, s.df⟩) : SGo C (.br l :: K) s := by
  intro a w hS
  have hl : w.heap[l]? = some (.loop r) := (hS.mem.own _ _ _ h9).1
  refine ⟨_, run_beginRound hl hr, ?_⟩
  refine h a _ ⟨hS.sl, hS.nt, hS.df, ?_⟩
  refine hS.mem.put h9 rfl rfl rfl (by simp) (fun j _ hj => World.putObj_heap_other hj) (World.putObj_heap_same (lt_of_heap hl)) (fun g => ⟨.inl, .inl⟩)
theorem go_rend (hR : Round C' C0 C I J l D r k) (h9 : lk 999 s.own = some (l, .o (.loop { r with state := .busy }))) (h8 : lk 998 s.own = some (D, .o (.deferred (some [])))) (h : I (k + 1) (rmk 998 (rmk 999 s.own))) : SGo C' [] s := by
  intro a w hS
  show C'.Q .normal a w
  rw [hR.Q]
  exact ⟨s.own, s.G, hR.mem _ _ _ hS.mem, h9, h8, h⟩
theorem wpK_exit0 {P : Program} {ro : Option Nat} {Q : Exit → Act → World → Prop} (id : Nat) : ∀ (K : List KI) (a : Act) (w : World), noBr K = true → popTo id K = none → Q (.exit id) a w → wpK P ro Q K (.exit id) a w
  | [], _, _, _, _, g => g
  | .code _ :: K, a, w, h, e, g => wpK_exit0 id K a w h e g
  | .loop _ :: K, a, w, h, e, g => wpK_exit0 id K a w h e g
  | .ops _ _ :: K, a, w, h, e, g => wpK_exit0 id K a w h e g
  | .q _ _ _ :: K, a, w, h, e, g => wpK_exit0 id K a w h e g
  | .h _ _ _ _ :: K, a, w, h, e, g => wpK_exit0 id K a w h e g
  | .hs _ :: K, a, w, h, e, g => wpK_exit0 id K a w h e g
  | .hu _ _ _ _ _ :: K, a, w, h, e, g => wpK_exit0 id K a w h e g
  | .br _ :: K, a, w, h, e, g => by cases h
  | .blk id' :: K, a, w, h, e, g => by
    simp only [popTo] at e
    simp only [wpK]
    split at e
    · cases e
    · rename_i q; rw [if_neg q]; exact wpK_exit0 id K a w h e g
theorem x_rexit {kc : Code} (ht : tag kc = 4) {id : Nat} (hi : cid kc = id) (hp : popTo id K = none) (hR : Round C' C0 C I J l D r k) (h9 : lk 999 s.own = some (l, .o (.loop { r with state := .busy }))) (h8 : lk 998 s.own = some (D, .o (.deferred (some [])))) (h : J (.exit id) (rmk 998 (rmk 999 s.own))) (hnb : noBr K = true := by rfl) : SGo C' (.code kc :: K) s := by
  subst hi
  intro a w hS
  cases kc <;> simp [tag] at ht
  · rename_i a b c; cases c <;> simp at ht
  refine wpIn_exit (wpK_exit0 _ K a w hnb hp ?_)
  rw [hR.Q]
  exact ⟨s.own, s.G, hR.mem _ _ _ hS.mem, h9, h8, h⟩

theorem Mem.alloc0 {own : Owns} {G : Hp} {w : World} (h : Mem C own G w) (o : Obj) : Mem C own G (w.alloc o) :=
  h.stay (G1 := G) (G' := G) ((Grow.refl h.has).alloc o)

theorem Mem.other {own : Owns} {G : Hp} {w : World} (h : Mem C own G w) {l : Nat} {o : Obj} (hG : G l = none) (hl : C.w0.heap.size ≤ l) (hno : ∀ k b x, lk k own = some (b, x) → ¬ x.blks b l) : Mem C own G (w.putObj l o) := by
  have hs : ∀ j, j ≠ l → (w.putObj l o).heap[j]? = w.heap[j]? := fun j hj => World.putObj_heap_other hj
  refine ⟨fun k b x e => ?_, h.inj, ?_⟩
  · obtain ⟨f1, f2⟩ := h.own k b x e
    exact ⟨OO.holds_same f1 ⟨rfl, rfl, rfl, by simp⟩ fun g hg => hs g (fun q => hno k b x e (q ▸ hg)), f2⟩
  · have q := h.grow
    refine ⟨q.os, q.tape, q.output, by simpa using q.size, fun k hk hm => ?_, fun b x e => ?_, q.old⟩
    · rw [hs k (by omega)]; exact q.blk k hk hm
    · rw [hs b (by intro e'; subst e'; rw [hG] at e; cases e)]; exact q.has b x e

theorem Mem.addD {own : Owns} {G : Hp} {w : World} (h : Mem C own G w) {kd b D : Nat} {ds : List Nat} (hk : lk kd own = some (b, dzO ds)) (hD : w.heap[D]? = some (.deferred (some []))) (hG : G D = none) (hl : C.w0.heap.size ≤ D) (hno : ∀ k b x, lk k own = some (b, x) → ¬ x.blks b D) : Mem C (stk kd (b, dzO (D :: ds)) own) G w := by
  obtain ⟨g1, g2⟩ := h.own _ _ _ hk
  obtain ⟨z1, z2, z3, z4⟩ := g1
  refine ⟨fun j c x e => ?_, fun j j' c c' x x' g e e' f f' => ?_, h.grow⟩
  · rw [lk_stk] at e
    split at e
    · rename_i hj; subst hj; cases e
      refine ⟨⟨fun _ => Iff.rfl, fun _ => Iff.rfl, ?_, ?_⟩, fun g hg => ?_⟩
      · refine List.nodup_cons.2 ⟨fun q => hno _ _ _ hk q, z3⟩
      · intro g hg
        rcases List.mem_cons.1 hg with rfl | hg
        · exact hD
        · exact z4 g hg
      · rcases List.mem_cons.1 hg with rfl | hg
        · exact ⟨hG, fun _ => hl, fun _ => .inr hl⟩
        · exact g2 g hg
    · exact h.own _ _ _ e
  · have key : ∀ {j c x}, lk j own = some (c, x) → x.blks c g → g ∈ D :: ds → j = kd := by
      intro j2 c2 x2 e2 f2 f3
      rcases List.mem_cons.1 f3 with hg | hg
      · rw [hg] at f2; exact absurd f2 (hno _ _ _ e2)
      · exact h.inj _ _ _ _ _ _ g e2 hk f2 hg
    rw [lk_stk] at e e'
    split at e <;> split at e'
    · omega
    · rename_i h1 h2; cases e; exact absurd (key e' f' f) h2
    · rename_i h1 h2; cases e'; exact absurd (key e f f') h1
    · exact h.inj _ _ _ _ _ _ _ e e' f f'

open Classical in
theorem go_range (kd : Nat) {g : Operand} {ps : Array Tmp} {assign body : Code} {gf : FuncId} {cap : List Value} {zg : SV} {enc : Nat → List Value → Hp → Prop} {N bd : Nat} {ds : List Nat}
    (hro : C.ro = none) (hmh : C.mh = 0) (hg : ev s.sl g = some zg) (hgv : zg.den = .func (.func gf) #[] cap.toArray) (hcall : canCall C.P gf = true) (hps : ∀ p ∈ ps.toList, p < C.nt)
    (hit : Iter C.P gf cap s.G enc N) (hmono : ∀ k vs G G', Le G G' → enc k vs G → enc k vs G') (hlen : ∀ k vs G, enc k vs G → vs.length = ps.size)
    (I : Nat → Owns → Prop) (J : Code → Owns → Prop) (hI : ∀ k own, I k own → (∀ h x, lk h own = some x → h < 998) ∧ Plain own ∧ lk kd own = some (bd, dzO ds)) (hJ : ∀ c own, J c own → Plain own ∧ lk kd own = some (bd, dzO ds)) (h0 : I 0 s.own)
    (hbody : ∀ C' C0 k own vs G1 l D r, k < N → I k own → Le s.G G1 → enc k vs G1 → Round C' C0 C I J l D r k →
      SGo C' [.code assign, .br l, .code body] ⟨putsS ps.toList vs s.sl, (998, D, .o (.deferred (some []))) :: (999, l, .o (.loop r)) :: own, G1, []⟩)
    (hdone : ∀ D own G', I N own → Le s.G G' → SGo C K ⟨s.sl, stk kd (bd, dzO (D :: ds)) own, G', mkD D :: s.df⟩)
    (hstop : ∀ D c own G', J c own → Le s.G G' → SGo C (.code c :: K) ⟨s.sl, stk kd (bd, dzO (D :: ds)) own, G', mkD D :: s.df⟩) : SGo C (.code (.rangeFunc g ps assign body) :: K) s := by
  intro a w hS
  have hgv' := ev_ok hS.sl hg
  rw [hgv] at hgv'
  show Code.wpIn (FR C.ro) 0 C.P _ _ a w
  rw [hro]
  refine wpIn_rangeFunc ?_
  intro fn _
  obtain ⟨rec, hrec⟩ : ∃ rec : LoopState → Option Code → Loop, rec = fun st pe => { state := st, pending := pe, fn, tmps := a.tmps, params := ps, assign, body, defers := w.heap.size } := ⟨_, rfl⟩
  obtain ⟨W1, hW1⟩ : ∃ W1, (w.alloc (.deferred (some []))).alloc (.loop (rec .ready none)) = W1 := ⟨_, rfl⟩
  obtain ⟨l, hl⟩ : ∃ l, w.heap.size + 1 = l := ⟨_, rfl⟩
  obtain ⟨D, hD⟩ : ∃ D, w.heap.size = D := ⟨_, rfl⟩
  have hsz := hS.mem.grow.size
  have hL1 : W1.heap[l]? = some (.loop (rec .ready none)) := by
    rw [← hW1, ← hl]; have := World.alloc_heap_new (w.alloc (.deferred (some []))) (.loop (rec .ready none)); rwa [World.size_alloc] at this
  have hD1 : W1.heap[D]? = some (.deferred (some [])) := by
    rw [← hW1, ← hD]; exact (Below.heap_alloc _ _ _ (by simp)).trans (World.alloc_heap_new w _)
  have hm1 : Mem C s.own s.G W1 := by rw [← hW1]; exact (hS.mem.alloc0 _).alloc0 _
  have hGn : ∀ g, w.heap.size ≤ g → s.G g = none := fun g hg => by
    cases hG : s.G g with
    | none => rfl
    | some x => have := lt_of_heap (hS.mem.has g x hG); omega
  have hbn : ∀ g, w.heap.size ≤ g → ∀ h b o, lk h s.own = some (b, o) → ¬ o.blks b g := fun g hg h b o e q => by
    have := hS.mem.lt e q; omega
  -- the zones
  obtain ⟨A, hA⟩ : ∃ A : Nat → Zn, A = fun k => RZ C s.G l D (fun rc own => rc = .loop (rec .ready none) ∧ I k own) := ⟨_, rfl⟩
  obtain ⟨B, hB⟩ : ∃ B : Zn, B = RZ C s.G l D (fun rc own => ∃ c, rc = .loop (rec .done (some c)) ∧ J c own) := ⟨_, rfl⟩
  have hlD : l ≠ D := by omega
  have hyok : YOk C.P l A B enc N := by
    intro k vs W Z M G2 hkN hAk hG2 hM2 henc
    rw [hA] at hAk
    obtain ⟨own, G, rc, ⟨rfl, hIk⟩, hpl, hm, hle, hLl, hLD, hGl, hGD, hno, hZ, hM⟩ := hAk
    obtain ⟨hI1, _, hIkd⟩ := hI k own hIk
    have hsz2 := hm.grow.size
    have hyl := run_yield (P := C.P) (args := vs.toArray) hLl (by rw [hrec]; simpa using hlen k vs G2 henc)
    refine ⟨_, _, _, _, hyl, ?_⟩
    -- what is known in the round
    obtain ⟨G1, hG1⟩ : ∃ G1 : Hp, G1 = fun b => match G b with | some o => some o | none => G2 b := ⟨_, rfl⟩
    have hG1s : ∀ b o, G b = some o → G1 b = some o := fun b o e => by rw [hG1]; simp [e]
    have hG1h : Has W G1 := fun b o e => by
      rw [hG1] at e
      simp only at e
      cases hb : G b with
      | some x => rw [hb] at e; cases e; exact hm.has b _ hb
      | none => rw [hb] at e; exact hG2 b o e
    have hle2 : Le G2 G1 := fun b o e => by
      cases hb : G b with
      | some x =>
        have e1 := hm.has b x hb
        have e2 := hG2 b o e
        rw [e1] at e2; cases e2
        exact hG1s b _ hb
      | none => rw [hG1]; simp [hb, e]
    have hG1n : ∀ g, M g → G1 g = none := fun g hg => by
      have e1 : G g = none := by
        rcases (hM g).1 hg with rfl | rfl | ⟨h, b, o, e, q⟩
        · exact hGl
        · exact hGD
        · exact ((hm.own _ _ _ e).2 g q).1
      rw [hG1]; simp [e1, hM2 g hg]
    obtain ⟨C0, hC0⟩ : ∃ C0 : Ctx, C0 = ⟨C.P, fun _ _ _ => True, C.nt, C.ty, C.tyok, W, G1, (List.range W.heap.size).filter (fun g => decide (M g)), 1000, some l⟩ := ⟨_, rfl⟩
    obtain ⟨C', hC'⟩ : ∃ C' : Ctx, C' = ⟨C.P, QR C0 I J l D (rec .ready none) k, C.nt, C.ty, C.tyok, W, G1, (List.range W.heap.size).filter (fun g => decide (M g)), 1000, some l⟩ := ⟨_, rfl⟩
    have hmem : ∀ own G w, Mem C' own G w → Mem C0 own G w := fun own G w h => by
      rw [hC'] at h; rw [hC0]; exact ⟨h.own, h.inj, h.grow⟩
    have hround : Round C' C0 C I J l D (rec .ready none) k := by
      refine ⟨?_, ?_, ?_, ?_, ?_, ?_, hmem, by rw [hrec]⟩ <;> rw [hC']
    have hgo := hbody C' C0 k own vs G1 l D (rec .ready none) hkN hIk (hle.trans hG1s) (hmono k vs G2 G1 hle2 henc) hround
    have hMl : M l := (hM l).2 (.inl rfl)
    have hMD : M D := (hM D).2 (.inr (.inl rfl))
    have hltl := lt_of_heap hLl
    have hltD := lt_of_heap hLD
    have hmb : ∀ g, g ∈ C'.mb ↔ g < W.heap.size ∧ M g := fun g => by rw [hC']; simp [List.mem_filter]
    have hw0 : C'.w0 = W := by rw [hC']
    have hmh' : C'.mh = 1000 := by rw [hC']
    have hmem1 : Mem C' ((998, D, .o (.deferred (some []))) :: (999, l, .o (.loop (rec .ready none))) :: own) G1 W := by
      refine ⟨fun h b o e => ?_, fun h h' b b' o o' g e e' f f' => ?_, ?_⟩
      · simp only [lk] at e
        split at e
        · rename_i q; subst q; cases e
          refine ⟨hLD, fun g hg => ?_⟩
          simp only [OO.mut] at hg
          subst hg
          exact ⟨hG1n _ hMD, fun q => by omega, fun _ => .inl ((hmb _).2 ⟨hltD, hMD⟩)⟩
        · split at e
          · rename_i q; subst q; cases e
            refine ⟨hLl, fun g hg => ?_⟩
            simp only [OO.mut] at hg
            subst hg
            exact ⟨hG1n _ hMl, fun q => by omega, fun _ => .inl ((hmb _).2 ⟨hltl, hMl⟩)⟩
          · obtain ⟨f1, f2⟩ := hm.own _ _ _ e
            have hh := hI1 _ _ e
            refine ⟨?_, fun g hg => ?_⟩
            · cases o <;> exact f1
            · have hMg := (hM g).2 (.inr (.inr ⟨h, b, o, e, hg⟩))
              exact ⟨hG1n g hMg, fun q => by omega, fun _ => .inl ((hmb g).2 ⟨hm.ltm e hg, hMg⟩)⟩
      · simp only [lk] at e e'
        split at e
        · rename_i q; subst q; cases e
          simp only [OO.blks] at f
          subst f
          split at e'
          · omega
          · split at e'
            · cases e'; simp only [OO.blks] at f'; omega
            · exact absurd f' (hno _ _ _ e').2
        · split at e
          · rename_i q; subst q; cases e
            simp only [OO.blks] at f
            subst f
            split at e'
            · cases e'; simp only [OO.blks] at f'; omega
            · split at e'
              · omega
              · exact absurd f' (hno _ _ _ e').1
          · split at e'
            · cases e'; simp only [OO.blks] at f'; subst f'; exact absurd f (hno _ _ _ e).2
            · split at e'
              · cases e'; simp only [OO.blks] at f'; subst f'; exact absurd f (hno _ _ _ e).1
              · exact hm.inj _ _ _ _ _ _ _ e e' f f'
      · have : Grow C'.mb W G1 W G1 := Grow.refl hG1h
        rw [hC'] at this ⊢
        exact this
    have hslots := slots_puts ps.toList vs s.sl a.tmps [] (fun p hp => by rw [hS.nt]; exact hps p hp) (fun i x e => hS.sl i x e)
    have hwp := hgo ⟨_, []⟩ W ⟨hslots.1, by rw [hslots.2, hround.nt]; exact hS.nt, rfl, hmem1⟩
    rw [hround.P, hround.ro] at hwp
    have hzip : (ps.zip vs.toArray).foldl (fun t (x : Tmp × Value) => match x with | (p, v) => t.setIfInBounds p v) a.tmps = (ps.toList.zip vs).foldl (fun t (p, v) => t.setIfInBounds p v) a.tmps := by
      rw [← Array.foldl_toList, Array.toList_zip]
    -- what a round's end leads to
    have fin : ∀ (W3 : World) (own3 : Owns) (G3 : Hp) (jump : Option Code) (p : Obj → Owns → Prop), Mem C0 own3 G3 W3 → lk 999 own3 = some (l, .o (.loop { rec .ready none with state := .busy })) → lk 998 own3 = some (D, .o (.deferred (some []))) →
        p (.loop (rec (if jump.isNone then .ready else .done) jump)) (rmk 998 (rmk 999 own3)) → Plain (rmk 998 (rmk 999 own3)) →
        ∃ W4 Z' M', (Instr.endRound l jump).run C.P W3 = .ok (.bool jump.isNone) W4 ∧ YRes W Z M W4 Z' M' ∧ (RZ C s.G l D p).A Z' M' W4 := by
      intro W3 own3 G3 jump p hm3 h9 h8 hp3 hpl3
      rw [hC0] at hm3
      have hl3 : W3.heap[l]? = some (.loop { rec .ready none with state := .busy }) := (hm3.own _ _ _ h9).1
      have hD3 : W3.heap[D]? = some (.deferred (some [])) := (hm3.own _ _ _ h8).1
      have hend := run_endRound (P := C.P) jump hl3
      have hgr := hm3.grow
      have hmb0 : ∀ g, g ∈ (List.range W.heap.size).filter (fun g => decide (M g)) ↔ g < W.heap.size ∧ M g := fun g => by simp [List.mem_filter]
      -- the blocks of what is the caller's own
      have hown : ∀ h b o, lk h (rmk 998 (rmk 999 own3)) = some (b, o) → lk h own3 = some (b, o) ∧ h ≠ 998 ∧ h ≠ 999 := fun h b o e => by
        rw [lk_rmk] at e
        split at e
        · cases e
        · rw [lk_rmk] at e
          split at e
          · cases e
          · exact ⟨e, by assumption, by assumption⟩
      have hmut : ∀ h b o, lk h own3 = some (b, o) → ∀ g, o.mut b g → M g ∨ W.heap.size ≤ g := fun h b o e g hg => by
        obtain ⟨_, q2, q3⟩ := (hm3.own _ _ _ e).2 g hg
        rcases Nat.lt_or_ge h 1000 with r | r
        · exact (q3 r).imp (fun q => ((hmb0 g).1 q).2) id
        · exact .inr (q2 r)
      obtain ⟨G4, hG4⟩ : ∃ G4 : Hp, G4 = fun b => if b < W.heap.size then G b else G3 b := ⟨_, rfl⟩
      have hMG : ∀ g, M g → G g = none := fun g hg => by
        rcases (hM g).1 hg with rfl | rfl | ⟨h, b, o, e, q⟩
        · exact hGl
        · exact hGD
        · exact ((hm.own _ _ _ e).2 g q).1
      have hMlow : ∀ g, M g → C.w0.heap.size ≤ g := fun g hg => by
        rcases (hM g).1 hg with rfl | rfl | ⟨h, b, o, e, q⟩
        · omega
        · omega
        · exact ((hm.own _ _ _ e).2 g q).2.1 (by omega)
      have hsame4 : ∀ j, j < W.heap.size → ¬ M j → (W3.putObj l (.loop { { rec .ready none with state := .busy } with state := if jump.isNone then .ready else .done, pending := jump })).heap[j]? = W.heap[j]? := fun j hj hM' => by
        rw [World.putObj_heap_other (by intro e; subst e; exact hM' hMl)]
        exact hgr.blk j hj (fun q => hM' ((hmb0 j).1 q).2)
      have hG3l : G3 l = none := ((hm3.own _ _ _ h9).2 l rfl).1
      have hG3D : G3 D = none := ((hm3.own _ _ _ h8).2 D rfl).1
      have hhas4 : ∀ b o, G4 b = some o → (W3.putObj l (.loop { { rec .ready none with state := .busy } with state := if jump.isNone then .ready else .done, pending := jump })).heap[b]? = some o := fun b o e => by
        rw [hG4] at e
        simp only at e
        split at e
        · rename_i hb
          rw [hsame4 b hb (fun q => by rw [hMG b q] at e; cases e)]
          exact hm.has b o e
        · rw [World.putObj_heap_other (fun q => by subst q; rw [hG3l] at e; cases e)]
          exact hgr.has b o e
      have hrc : (Loop.mk (if jump.isNone then .ready else .done) jump (rec .ready none).fn (rec .ready none).tmps (rec .ready none).params (rec .ready none).assign (rec .ready none).body (rec .ready none).defers) = rec (if jump.isNone then .ready else .done) jump := by rw [hrec]
      refine ⟨_, _, _, hend, ⟨⟨hgr.os, hgr.tape, hgr.output, by simpa using hgr.size⟩, fun g hg => ?_, fun g hg => ?_, hsame4⟩, rmk 998 (rmk 999 own3), G4, _, hp3, hpl3, ⟨fun h b o e => ?_, fun h h' b b' o o' g e e' f f' => ?_, ?_⟩, ?_, ?_, ?_, ?_, ?_, ?_, fun g => Iff.rfl, fun g => Iff.rfl⟩
      · rcases hg with rfl | rfl | ⟨h, b, o, e, q⟩ | ⟨x, e⟩ | q
        · exact .inl ((hZ _).2 (.inl rfl))
        · exact .inl ((hZ _).2 (.inr (.inl rfl)))
        · refine (hmut h b o (hown _ _ _ e).1 g (hpl3 h b o e g q)).imp (fun q => ?_) id
          rcases (hM g).1 q with rfl | rfl | ⟨h', b', o', e', q'⟩
          · exact (hZ _).2 (.inl rfl)
          · exact (hZ _).2 (.inr (.inl rfl))
          · exact (hZ _).2 (.inr (.inr (.inl ⟨h', b', o', e', OO.mut_blks (hm.own _ _ _ e').1 q'⟩)))
        · rw [hG4] at e
          simp only at e
          split at e
          · exact .inl ((hZ _).2 (.inr (.inr (.inr (.inl ⟨x, e⟩)))))
          · exact .inr (by omega)
        · exact .inl ((hZ _).2 (.inr (.inr (.inr (.inr q)))))
      · rcases hg with rfl | rfl | ⟨h, b, o, e, q⟩
        · exact .inl hMl
        · exact .inl hMD
        · exact hmut h b o (hown _ _ _ e).1 g q
      · obtain ⟨e1, n8, n9⟩ := hown _ _ _ e
        obtain ⟨f1, f2⟩ := hm3.own _ _ _ e1
        refine ⟨?_, fun g hg => ?_⟩
        · have : OO.holds C.w0.heap.size W3 b o := by cases o <;> exact f1
          refine OO.holds_same this ⟨rfl, rfl, rfl, by simp⟩ fun g hg => ?_
          rw [World.putObj_heap_other]
          intro q
          subst q
          exact n9 (hm3.inj _ _ _ _ _ _ g e1 h9 hg rfl)
        · have hq := hmut _ _ _ e1 g hg
          refine ⟨?_, fun _ => hq.elim (hMlow g) (fun q => by omega), fun q => by omega⟩
          rw [hG4]
          show (if g < W.heap.size then G g else G3 g) = none
          split
          · rename_i hlt
            exact hMG g (hq.resolve_right (by omega))
          · exact (f2 g hg).1
      · exact hm3.inj _ _ _ _ _ _ _ (hown _ _ _ e).1 (hown _ _ _ e').1 f f'
      · refine ⟨hgr.os.trans hm.grow.os, hgr.tape.trans hm.grow.tape, hgr.output.trans hm.grow.output, by have := hgr.size; simp only [World.putObj_size]; exact Nat.le_trans hsz2 this, fun j hj hmbj => ?_, hhas4, fun b hb => ?_⟩
        · rw [hsame4 j (by omega) (fun q => by have := hMlow j q; omega)]
          exact hm.grow.blk j hj hmbj
        · rw [hG4]
          show (if b < W.heap.size then G b else G3 b) = _
          rw [if_pos (by omega)]
          exact hm.grow.old b hb
      · intro b o e
        rw [hG4]
        show (if b < W.heap.size then G b else G3 b) = _
        have := hle b o e
        rw [if_pos (lt_of_heap (hm.has b o this))]
        exact this
      · rw [World.putObj_heap_same (lt_of_heap hl3)]
        exact congrArg (fun x => some (Obj.loop x)) hrc
      · rw [World.putObj_heap_other (Ne.symm hlD)]; exact hD3
      · rw [hG4]
        show (if l < W.heap.size then G l else G3 l) = none
        rw [if_pos hltl]; exact hGl
      · rw [hG4]
        show (if D < W.heap.size then G D else G3 D) = none
        rw [if_pos hltD]; exact hGD
      · intro h b o e
        obtain ⟨e1, n8, n9⟩ := hown _ _ _ e
        exact ⟨fun q => n9 (hm3.inj _ _ _ _ _ _ l e1 h9 q rfl), fun q => n8 (hm3.inj _ _ _ _ _ _ D e1 h8 q rfl)⟩
    refine roundIn_of_wpIn trivial ?_
    rw [hrec]
    simp only [hzip]
    refine wpIn_mono hwp ?_
    intro e a₁ w₁ hq
    cases e with
    | normal =>
      obtain ⟨w₂, hbr, hb⟩ := hq
      refine ⟨w₂, hbr, wpIn_mono hb ?_⟩
      intro e a₂ w₃ hq
      have hq' : C'.Q e a₂ w₃ := hq
      rw [hround.Q] at hq'
      obtain ⟨own3, G3, hm3, h9, h8, hend⟩ := hq'
      cases e with
      | normal =>
        obtain ⟨W4, Z', M', q1, q2, q3⟩ := fin w₃ own3 G3 none (fun rc own => rc = .loop (rec .ready none) ∧ I (k + 1) own) hm3 h9 h8 ⟨rfl, hend⟩ (hI _ _ hend).2.1
        exact ⟨_, _, q1, _, rfl, Z', M', q2, .inl ⟨rfl, by rw [hA]; exact q3⟩⟩
      | ret =>
        obtain ⟨W4, Z', M', q1, q2, q3⟩ := fin w₃ own3 G3 (some .ret) (fun rc own => ∃ c, rc = .loop (rec .done (some c)) ∧ J c own) hm3 h9 h8 ⟨_, rfl, hend⟩ (hJ _ _ hend).1
        exact ⟨_, _, q1, _, rfl, Z', M', q2, .inr ⟨rfl, by rw [hB]; exact q3⟩⟩
      | exit id =>
        obtain ⟨W4, Z', M', q1, q2, q3⟩ := fin w₃ own3 G3 (some (.exit id)) (fun rc own => ∃ c, rc = .loop (rec .done (some c)) ∧ J c own) hm3 h9 h8 ⟨_, rfl, hend⟩ (hJ _ _ hend).1
        exact ⟨_, _, q1, _, rfl, Z', M', q2, .inr ⟨rfl, by rw [hB]; exact q3⟩⟩
      | goto id =>
        obtain ⟨W4, Z', M', q1, q2, q3⟩ := fin w₃ own3 G3 (some (.goto id)) (fun rc own => ∃ c, rc = .loop (rec .done (some c)) ∧ J c own) hm3 h9 h8 ⟨_, rfl, hend⟩ (hJ _ _ hend).1
        exact ⟨_, _, q1, _, rfl, Z', M', q2, .inr ⟨rfl, by rw [hB]; exact q3⟩⟩
      | panic ch => exact hend.elim
      | outgrown => exact hend.elim
    | exit id => exact hq.elim
    | goto id => exact hq.elim
    | ret => exact hq.elim
    | panic ch => exact hq.elim
    | outgrown => exact hq.elim
  refine ⟨l, [mkD D], W1, { target := .fn (.func gf) cap.toArray, args := #[.func (.yield l) #[] #[]] }, W1, gf, #[.func (.yield l) #[] #[]] ++ cap.toArray, W1, ?_, ?_, ?_, ?_, FR_depth _ _, ?_⟩
  · have := run_enterLoop_outer (P := C.P) (w := w) fn a.tmps ps assign body
    rw [← hW1, ← hl, ← hD, hrec]
    exact this
  · simp only [resolve, hgv']
    simp [go_sem]
  · intro f' _; trivial
  · simp only [invoke]
    exact callFunc_ok hcall _ _
  · refine callsFR.2 ?_
    have hc := hit l A B hyok W1 (fun g => g = l ∨ g = D ∨ (∃ h b o, lk h s.own = some (b, o) ∧ o.blks b g) ∨ (∃ x, s.G g = some x) ∨ g < C.w0.heap.size) (fun g => g = l ∨ g = D ∨ ∃ h b o, lk h s.own = some (b, o) ∧ o.mut b g) hm1.has
      (by
        rw [hA]
        exact ⟨s.own, s.G, _, ⟨rfl, h0⟩, (hI 0 s.own h0).2.1, hm1, Le.refl _, hL1, hD1, hGn l (by omega), hGn D (by omega), fun h b o e => ⟨hbn l (by omega) h b o e, hbn D (by omega) h b o e⟩, fun _ => Iff.rfl, fun _ => Iff.rfl⟩)
      (by
        intro g hg
        rcases hg with rfl | rfl | ⟨h, b, o, e, q⟩
        · exact hGn _ (by omega)
        · exact hGn _ (by omega)
        · exact ((hS.mem.own _ _ _ e).2 g q).1)
    have harr : (#[.func (.yield l) #[] #[]] ++ cap.toArray : Array Value) = (.func (.yield l) #[] #[] :: cap).toArray := by simp
    rw [harr]
    refine hc.mono ?_
    rintro e w3 ⟨v, G3, Y, Z', M', rfl, hr, hG3, hold, hMG3, hY, hYc⟩
    have main : ∀ (p : Obj → Owns → Prop) (jump : Option Code) (st : LoopState), st ≠ .busy → (∀ rc own, p rc own → rc = .loop (rec st jump)) → (RZ C s.G l D p).A Z' M' w3 →
        ∃ own G, p (.loop (rec st jump)) own ∧ Le s.G G ∧ (Instr.endLoop l).run C.P w3 = .ok jump (w3.putObj l (.loop { rec st jump with state := .exhausted })) ∧
          (lk kd own = some (bd, dzO ds) → Sat C ⟨s.sl, stk kd (bd, dzO (D :: ds)) own, G, mkD D :: s.df⟩ { a with defers := [mkD D] ++ a.defers } (w3.putObj l (.loop { rec st jump with state := .exhausted }))) := by
      intro p jump st hst hp hz
      obtain ⟨own, G, rc, hpp, hpl, hm, hle, hLl, hLD, hGl, hGD, hno, _, _⟩ := hz
      obtain rfl := hp rc own hpp
      have hend := run_endLoop (P := C.P) hLl (by rw [hrec]; exact hst)
      refine ⟨own, G, hpp, hle, by rw [hend]; rw [hrec], fun hkd => ⟨hS.sl, hS.nt, by show [mkD D] ++ a.defers = _; rw [hS.df]; rfl, ?_⟩⟩
      have hm4 := hm.other (o := .loop { rec st jump with state := .exhausted }) hGl (by omega) (fun h b x e => (hno h b x e).1)
      exact hm4.addD hkd (by rw [World.putObj_heap_other (Ne.symm hlD)]; exact hLD) hGD (by omega) (fun h b x e => (hno h b x e).2)
    rcases hYc with rfl | rfl
    · rw [hA] at hY
      obtain ⟨own, G, hpp, hle, hend, hsat⟩ := main _ none .ready (by simp) (fun rc own h => h.1) hY
      refine ⟨none, _, hend, ?_⟩
      have := hdone D own G hpp.2 hle _ _ (hsat (hI _ _ hpp.2).2.2)
      rw [hro] at this
      exact this
    · rw [hB] at hY
      have hY' := hY
      obtain ⟨own, G, rc, ⟨c, rfl, hJc⟩, hpl, hm, hle, hLl, hLD, hGl, hGD, hno, hZ', hM'⟩ := hY
      obtain ⟨own2, G4, hpp, hle4, hend, hsat⟩ := main (fun rc own => rc = .loop (rec .done (some c)) ∧ J c own) (some c) .done (by simp) (fun rc own h => h.1) ⟨own, G, _, ⟨rfl, hJc⟩, hpl, hm, hle, hLl, hLD, hGl, hGD, hno, hZ', hM'⟩
      refine ⟨some c, _, hend, ?_⟩
      have := hstop D c own2 G4 hpp.2 hle4 _ _ (hsat (hJ _ _ hpp.2).2)
      rw [hro] at this
      exact this
end
end Go.Sx
namespace Go.Sx
set_option linter.unusedSimpArgs false
set_option linter.unusedVariables false
open Go.RowKit

structure FA where
  i : Nat
  d : Nat
  h : Nat
  T : TypeId
  z : List SV

section
variable {C : Ctx} {K : List KI} {s : St} {R : Array Oper} {l : List Oper} {d : Option Tmp} {t : TypeId} {pos : String} {aft : Array Edge} {own0 : Owns} {G0 : Hp} {sl : List (Nat × SV)} {own : Owns} {G : Hp} {df : List Deferred}

theorem go_newAt (k : Nat) {op : Op} (hd : dOk C.nt d = true) {r : TypeId × List SV × (Nat → Nat → SV)} (ho : opAlloc C.ty s.sl op = some r) (hk : lk k s.own = none) (hmh : C.mh ≤ k)
    (h : ∀ b, SGo C (.ops R l :: K) ⟨putS d (r.2.2 k b) s.sl, stk k (b, .c r.1 r.2.1) s.own, s.G, s.df⟩) : SGo C (.ops R (⟨d, op, t, pos, aft, none⟩ :: l) :: K) s := by
  intro a w hS
  have hrun := alloc_ok hS (o := ⟨d, op, t, pos, aft, none⟩) (e := r.1) (cells := r.2.1) (mk := r.2.2) ho k
  exact K_value rfl hrun (h _ _ _ (hS.put hd _ (hS.mem.new hk hmh rfl rfl rfl (by simp) (fun j hj => alloc_old w _ hj) (alloc_new w _) (fun g hg => by simp only [OO.blks] at hg; omega))))

end
end Go.Sx
namespace Go.Sx
set_option linter.unusedSimpArgs false
set_option linter.unusedVariables false
open Go.RowKit
section
variable {C : Ctx} {K : List KI} {s : St} {sl : List (Nat × SV)} {own : Owns} {G : Hp}

theorem equalIn_f {P : Program} {T : TypeId} {a b c} (hT : P.underlying T = some (.func a b c)) (d : Nat) (fn : Fn) (p q : Array Value) (w : World) : (Op.equalIn (d + 1) T (.func fn p q) .nilFunc).run P w = .ok false w := by
  simp only [Op.equalIn, Sem.run_bind, run_und w hT, Result.andThen_ok, Sem.run_pure]
theorem equal_f {P : Program} {T : TypeId} {a b c} (hT : P.underlying T = some (.func a b c)) (fn : Fn) (p q : Array Value) (w : World) : (Op.equal T (.func fn p q) .nilFunc).run P w = .ok false w := equalIn_f hT 9999 fn p q w

theorem quiet_feq {T T' : TypeId} {x : Operand} {vx : SV} {fn : Fn} {p q : Array Value} {sz by' : Nat} {ze : List Value} {fl : List (Nat × Nat × Bool)} (hT : C.ty T = some ⟨.func, sz, by', ze, fl⟩) (hx : ev sl x = some vx) (hv : vx.den = .func fn p q) : Quiet C sl own G (.binOp .eql T x (.const .nilFunc) T') (.bool false) := by
  intro a w d t pos aft g hs hh
  have hxv := ev_ok hs hx
  rw [hv] at hxv
  obtain ⟨u1, u2, u3, hu⟩ := (C.tyok _ _ hT).k
  have hc : a.eval (.const .nilFunc) = .nilFunc := rfl
  simp only [execOp, hxv, hc]
  have h1 : (eqGuard .eql T x (.const .nilFunc) (.func fn p q) .nilFunc).run C.P w = .ok () w := by simp [eqGuard]
  have h2 : (binOp .eql T (.func fn p q) .nilFunc).run C.P w = .ok (.bool false) w := by
    simp [binOp, equal_f hu]
  rw [Sem.run_bind]
  simp [h1, h2, Sem.run_bind]

def cps : Code → Array Tmp
  | .rangeFunc _ ps _ _ => ps
  | _ => #[]
theorem x_range (kd : Nat) {kc : Code} (ht : tag kc = 10) {g : Operand} (hcg : cop kc = g) {ps : Array Tmp} (hcp : cps kc = ps) {gf : FuncId} {cap : List Value} {zg : SV} {enc : Nat → List Value → Hp → Prop} {N bd : Nat} {ds : List Nat}
    (hro : C.ro = none) (hmh : C.mh = 0) (hg : ev s.sl g = some zg) (hgv : zg.den = .func (.func gf) #[] cap.toArray) (hcall : canCall C.P gf = true) (hps : ∀ p ∈ ps.toList, p < C.nt)
    (hit : Iter C.P gf cap s.G enc N) (hmono : ∀ k vs G G', Le G G' → enc k vs G → enc k vs G') (hlen : ∀ k vs G, enc k vs G → vs.length = ps.size)
    (I : Nat → Owns → Prop) (J : Code → Owns → Prop) (hI : ∀ k own, I k own → (∀ h x, lk h own = some x → h < 998) ∧ Plain own ∧ lk kd own = some (bd, dzO ds)) (hJ : ∀ c own, J c own → Plain own ∧ lk kd own = some (bd, dzO ds)) (h0 : I 0 s.own)
    (hbody : ∀ C' C0 k own vs G1 l D r, k < N → I k own → Le s.G G1 → enc k vs G1 → Round C' C0 C I J l D r k →
      SGo C' [.code (c1 kc), .br l, .code (c2 kc)] ⟨putsS ps.toList vs s.sl, (998, D, .o (.deferred (some []))) :: (999, l, .o (.loop r)) :: own, G1, []⟩)
    (hdone : ∀ D own G', I N own → Le s.G G' → SGo C K ⟨s.sl, stk kd (bd, dzO (D :: ds)) own, G', mkD D :: s.df⟩)
    (hstop : ∀ D c own G', J c own → Le s.G G' → SGo C (.code c :: K) ⟨s.sl, stk kd (bd, dzO (D :: ds)) own, G', mkD D :: s.df⟩) : SGo C (.code kc :: K) s := by
  subst hcg hcp
  cases kc <;> simp [tag] at ht
  · rename_i a b c; cases c <;> simp at ht
  · exact go_range kd hro hmh hg hgv hcall hps hit hmono hlen I J hI hJ h0 hbody hdone hstop

theorem plain_nil : Plain [] := fun _ _ _ e => by simp [lk] at e
theorem plain_cons {x : Nat × Nat × OO} {own : Owns} (h : ∀ g, x.2.2.blks x.2.1 g → x.2.2.mut x.2.1 g) (h' : Plain own) : Plain (x :: own) := by
  intro k b o e
  obtain ⟨i, c, p⟩ := x
  simp only [lk] at e
  split at e
  · cases e; exact h
  · exact h' k b o e
def keysLt (n : Nat) : Owns → Bool
  | [] => true
  | x :: own => decide (x.1 < n) && keysLt n own
theorem keys_lt {n : Nat} : ∀ {own : Owns}, keysLt n own = true → ∀ h x, lk h own = some x → h < n
  | [], _, h, x, e => by simp [lk] at e
  | y :: own, hk, h, x, e => by
    simp only [keysLt, Bool.and_eq_true, decide_eq_true_eq] at hk
    simp only [lk] at e
    split at e
    · rename_i q; omega
    · exact keys_lt hk.2 h x e

theorem cut_tail (n : Nat) (P : St → Prop) (key : ∀ s', P s' → SGo C (K.drop n) s') (h : (∀ s', P s' → SGo C (K.drop n) s') → SGo C K s) : SGo C K s := h key
end
end Go.Sx
namespace Go.Sx
set_option linter.unusedSimpArgs false
set_option linter.unusedVariables false
open Go.RowKit

theorem Iter.mono {P : Program} {f : FuncId} {cap : List Value} {G G' : Hp} {enc : Nat → List Value → Hp → Prop} {N : Nat} (h : Iter P f cap G enc N) (hl : Le G G') : Iter P f cap G' enc N := by
  intro l A B hy w Z M hw hA hM
  have hw0 : Has w G := fun b o e => hw b o (hl b o e)
  have hM0 : ∀ g, M g → G g = none := fun g hg => by
    cases hq : G g with
    | none => rfl
    | some o => have := hl g o hq; rw [hM g hg] at this; cases this
  refine (h l A B hy w Z M hw0 hA hM0).mono ?_
  rintro e w' ⟨v, G1, Y, Z', M', rfl, hr, hh, hold, hm, hY, hφ⟩
  refine ⟨v, fun b => if b < w.heap.size then G' b else G1 b, Y, Z', M', rfl, hr, ?_, ?_, ?_, hY, hφ⟩
  · intro b o e
    simp only at e
    split at e
    · rename_i hb
      have hnm : ¬ M b := fun q => by rw [hM b q] at e; cases e
      rw [hr.same b hb hnm]
      exact hw b o e
    · exact hh b o e
  · intro b hb
    simp only [hb, if_true]
  · intro g hg
    simp only
    split
    · rename_i hb
      rcases hr.m g hg with q | q
      · exact hM g q
      · omega
    · exact hm g hg

section
variable {C : Ctx} {K : List KI} {s : St} {R : Array Oper} {l : List Oper} {d : Option Tmp} {t : TypeId} {pos : String} {aft : Array Edge} {v : Value}

theorem go_rekey (i j : Nat) {b : Nat} {o : OO} (hi : lk i s.own = some (b, o)) (hj : lk j s.own = none) (hmi : C.mh ≤ i) (hmj : C.mh ≤ j) (h : SGo C K ⟨s.sl, stk j (b, o) (rmk i s.own), s.G, s.df⟩) : SGo C K s := by
  intro a w hS
  refine h a w ⟨hS.sl, hS.nt, hS.df, ?_⟩
  have key : ∀ k c x, lk k (stk j (b, o) (rmk i s.own)) = some (c, x) → ∃ k', lk k' s.own = some (c, x) ∧ (k = j ∧ k' = i ∨ k ≠ j ∧ k' = k ∧ k ≠ i) := by
    intro k c x e
    rw [lk_stk] at e
    split at e
    · rename_i q; cases e; exact ⟨i, hi, .inl ⟨q, rfl⟩⟩
    · rename_i q
      rw [lk_rmk] at e
      split at e
      · cases e
      · rename_i q2; exact ⟨k, e, .inr ⟨q, rfl, q2⟩⟩
  refine ⟨fun k c x e => ?_, fun k k' c c' x x' g e e' f f' => ?_, hS.mem.grow⟩
  · obtain ⟨k', e1, hk⟩ := key k c x e
    obtain ⟨f1, f2⟩ := hS.mem.own _ _ _ e1
    refine ⟨f1, fun g hg => ?_⟩
    obtain ⟨q1, q2, q3⟩ := f2 g hg
    rcases hk with ⟨rfl, rfl⟩ | ⟨_, rfl, _⟩
    · exact ⟨q1, fun _ => q2 hmi, fun q => by omega⟩
    · exact ⟨q1, q2, q3⟩
  · obtain ⟨k1, e1, hk1⟩ := key k c x e
    obtain ⟨k2, e2, hk2⟩ := key k' c' x' e'
    have := hS.mem.inj _ _ _ _ _ _ g e1 e2 f f'
    rcases hk1 with ⟨rfl, rfl⟩ | ⟨_, rfl, h3⟩ <;> rcases hk2 with ⟨rfl, rfl⟩ | ⟨_, rfl, h4⟩
    · rfl
    · exact absurd this.symm h4
    · exact absurd this h3
    · exact this

theorem go_callw {g : Operand} {f : FuncId} {cap : List Value} {args : Array Operand} {tys : Array TypeId} {vs : List SV} {z : SV} {φ : Value → Hp → Prop} (hd : dOk C.nt d = true) (hf : canCall C.P f = true) (hg : ev s.sl g = some z) (hz : z.den = .func (.func f) #[] cap.toArray) (ha : evs s.sl args.toList = some vs) (hc : Pure C.P f (dens vs ++ cap) s.G φ)
    (h : ∀ v G', Le s.G G' → φ v G' → SGo C (.ops R l :: K) ⟨putS d (rv v) s.sl, s.own, G', s.df⟩) : SGo C (.ops R (⟨d, .call ⟨.value g, args, tys⟩, t, pos, aft, none⟩ :: l) :: K) s := by
  intro a w hS
  have hargs : args.map a.eval = (dens vs).toArray := by apply Array.ext'; rw [Array.toList_map]; exact evs_ok hS.sl ha
  have hgv := ev_ok hS.sl hg
  rw [hz] at hgv
  have hrun : (execOp a.eval ⟨d, .call ⟨.value g, args, tys⟩, t, pos, aft, none⟩).run C.P w = .ok (.enter f (dens vs ++ cap).toArray) w := by
    simp only [execOp, resolve, hargs, hgv, Deferred.ofValue, Sem.run_bind, Sem.run_pure, Result.andThen_ok, invoke]
    simp [callFunc_ok hf]
  refine K_enter rfl hrun ((hc w hS.mem.has).mono ?_)
  rintro e w' ⟨v, G', rfl, hg', hφ⟩
  have hle : Le s.G G' := fun b o e => hg'.keep hS.mem.has e
  have hS' := hS.put hd (rv v) (hS.mem.call hg')
  rw [rv_den] at hS'
  exact ⟨_, rfl, h v G' hle hφ _ _ hS'⟩
end
end Go.Sx
namespace Go.Sx
set_option linter.unusedSimpArgs false
set_option linter.unusedVariables false
open Go.RowKit


structure Rp (α : Type) where
  size : Nat
  e : Hp → α → List Value → Prop
  mono : ∀ {G G' x cs}, Le G G' → e G x cs → e G' x cs
  len : ∀ {G x cs}, e G x cs → cs.length = size
  one : ∀ {G x cs}, e G x cs → ∀ u ∈ cs, u.oneCell' = true

section
variable {α : Type} (r : Rp α)

def Rp.L (G : Hp) : List α → List Value → Prop
  | [], cs => cs = []
  | x :: l, cs => ∃ c d, cs = c ++ d ∧ r.e G x c ∧ Rp.L G l d
def Rp.S (G : Hp) (l : List α) (v : Value) : Prop :=
  l.length ≤ 9223372036854775807 ∧ ∃ ad cap, v = .slice ad l.length cap ∧ (l = [] ∨ ∃ b off cs, ad = some ⟨b, off, none⟩ ∧ At G b off cs ∧ r.L G l cs)
variable {r} {G G' : Hp}
theorem Rp.L_mono (hl : Le G G') : ∀ {l : List α} {cs : List Value}, r.L G l cs → r.L G' l cs
  | [], _, h => h
  | x :: l, cs, h => by
    obtain ⟨c, d, h1, h2, h3⟩ := h
    exact ⟨c, d, h1, r.mono hl h2, Rp.L_mono hl h3⟩
theorem Rp.S_mono (hl : Le G G') {l : List α} {v : Value} (h : r.S G l v) : r.S G' l v := by
  obtain ⟨h3, ad, cap, h4, h5⟩ := h
  refine ⟨h3, ad, cap, h4, ?_⟩
  rcases h5 with h5 | ⟨b, off, cs, h5, h6, h7⟩
  · exact .inl h5
  · exact .inr ⟨b, off, cs, h5, h6.mono hl, Rp.L_mono hl h7⟩
theorem Rp.S_slice {l : List α} {v : Value} (h : r.S G l v) : ∃ ad cap, v = .slice ad l.length cap := by
  obtain ⟨_, ad, cap, h, _⟩ := h; exact ⟨ad, cap, h⟩
theorem Rp.S_len {l : List α} {v : Value} (h : r.S G l v) : l.length ≤ 9223372036854775807 := h.1
theorem Rp.S_nil (ad : Option Addr) (cap : Nat) : r.S G [] (.slice ad 0 cap) := ⟨by simp, ad, cap, rfl, .inl rfl⟩
theorem Rp.L_len : ∀ {l : List α} {cs : List Value}, r.L G l cs → cs.length = l.length * r.size
  | [], cs, h => by have h : cs = [] := h; simp [h]
  | x :: l, cs, h => by
    obtain ⟨c, d, rfl, h2, h3⟩ := h
    have := Rp.L_len h3
    have := r.len h2
    simp only [List.length_cons, List.length_append, Nat.succ_mul]; omega
theorem Rp.L_one : ∀ {l : List α} {cs : List Value}, r.L G l cs → ∀ u ∈ cs, u.oneCell' = true
  | [], cs, h => by have h : cs = [] := h; simp [h]
  | x :: l, cs, h => by
    obtain ⟨c, d, rfl, h2, h3⟩ := h
    intro u hu
    rcases List.mem_append.1 hu with hu | hu
    · exact r.one h2 u hu
    · exact Rp.L_one h3 u hu
theorem Rp.L_append : ∀ {l l' : List α} {cs cs' : List Value}, r.L G l cs → r.L G l' cs' → r.L G (l ++ l') (cs ++ cs')
  | [], l', cs, cs', h, h' => by have h : cs = [] := h; subst h; simpa using h'
  | x :: l, l', cs, cs', h, h' => by
    obtain ⟨c, d, rfl, h2, h3⟩ := h
    exact ⟨c, d ++ cs', by simp, h2, Rp.L_append h3 h'⟩
theorem Rp.L_single {x : α} {cs : List Value} (h : r.e G x cs) : r.L G [x] cs := ⟨cs, [], by simp, h, rfl⟩
theorem Rp.L_drop : ∀ {l : List α} {cs : List Value} (i : Nat), r.L G l cs → r.L G (l.drop i) (cs.drop (i * r.size))
  | l, cs, 0, h => by simpa using h
  | [], cs, i + 1, h => by have h : cs = [] := h; subst h; simp [Rp.L]
  | x :: l, cs, i + 1, h => by
    obtain ⟨c, d, rfl, h2, h3⟩ := h
    have := Rp.L_drop i h3
    have hc := r.len h2
    have e : (c ++ d).drop ((i + 1) * r.size) = d.drop (i * r.size) := by rw [Nat.succ_mul, Nat.add_comm, ← hc, List.drop_length_add_append]
    rw [e]
    simpa using this
theorem Rp.L_get {l : List α} {cs : List Value} (h : r.L G l cs) {i : Nat} (hi : i < l.length) : ∃ c, (cs.drop (i * r.size)).take r.size = c ∧ r.e G l[i] c := by
  have h1 := Rp.L_drop i h
  rw [List.drop_eq_getElem_cons hi] at h1
  obtain ⟨c, d, h2, h3, _⟩ := h1
  refine ⟨c, ?_, h3⟩
  rw [h2, ← r.len h3, List.take_left]
theorem Rp.at_get {l : List α} {cs : List Value} {b off : Nat} (ha : At G b off cs) (h : r.L G l cs) {i : Nat} (hi : i < l.length) : ∃ c, At G b (off + i * r.size) c ∧ r.e G l[i] c := by
  obtain ⟨c, h1, h2⟩ := Rp.L_get h hi
  have hlen := Rp.L_len h
  have h3 := ha.sub (i * r.size) r.size (by rw [hlen]; have := Nat.mul_le_mul_right r.size (show i + 1 ≤ l.length from hi); rw [Nat.succ_mul] at this; omega)
  rw [h1] at h3
  exact ⟨c, h3, h2⟩
theorem Rp.S_get {l : List α} {v : Value} (h : r.S G l v) {i : Nat} (hi : i < l.length) : ∃ b off cap c, v = .slice (some ⟨b, off, none⟩) l.length cap ∧ At G b (off + i * r.size) c ∧ r.e G l[i] c := by
  obtain ⟨_, ad, cap, rfl, h | ⟨b, off, cs, rfl, ha, hL⟩⟩ := h
  · subst h; simp at hi
  · obtain ⟨c, h1, h2⟩ := Rp.at_get ha hL hi
    exact ⟨b, off, cap, c, rfl, h1, h2⟩
theorem Rp.src {l : List α} {ad : Option Addr} {cap : Nat} (h : l = [] ∨ ∃ b off cs, ad = some ⟨b, off, none⟩ ∧ At G b off cs ∧ r.L G l cs) :
    ∃ cs, r.L G l cs ∧ ((∃ c, (SV.v (.slice ad l.length cap)).den = .slice none 0 c ∧ l.length = 0 ∧ cs = []) ∨ ∀ (C : Ctx) (s : St), s.G = G → Src C s (.v (.slice ad l.length cap)) l.length cs) := by
  rcases h with rfl | ⟨b, off, cs, rfl, ha, hr⟩
  · refine ⟨[], by simp [Rp.L], ?_⟩
    cases ad with
    | none => exact .inl ⟨cap, rfl, rfl, rfl⟩
    | some a => exact .inr fun _ _ _ => src_empty rfl
  · exact ⟨cs, hr, .inr fun _ s hs => src_at (by rw [hs]; exact ha)⟩

variable {C : Ctx} {K : List KI} {s : St} {R : Array Oper} {l : List Oper} {d : Option Tmp} {t : TypeId} {pos : String} {aft : Array Edge} {v : Value}

theorem go_pubL (r : Rp α) (k : Nat) {b n : Nat} {e : TypeId} {v : Value} {xs : List Value} {ts : List α} (hk : lk k s.own = some (b, .row v e r.size n xs)) (hmh : C.mh ≤ k) (hn : n = ts.length) (h63 : n ≤ 9223372036854775807) (hr : r.L s.G ts xs)
    (h : ∀ G' ad cap, Le s.G G' → v = .slice ad ts.length cap → r.S G' ts (.slice ad ts.length cap) → SGo C K ⟨s.sl, rmk k s.own, G', s.df⟩) : SGo C K s := by
  subst hn
  refine go_rowcases k hk (fun hv hn0 hx => ?_) (fun g cap hv hc hl => ?_)
  · have h0 : ts = [] := List.length_eq_zero_iff.1 hn0
    refine go_drop k (h s.G none 0 (Le.refl _) (by rw [hv, h0]; rfl) ⟨h63, none, 0, rfl, .inl h0⟩)
  · subst hv
    refine go_pubrow k hk hmh ?_
    intro G' hle hat
    exact h G' _ _ hle rfl ⟨h63, _, _, rfl, .inr ⟨g, 0, xs, rfl, hat, Rp.L_mono hle hr⟩⟩
end

def rI : Rp Int where
  size := 1
  e _ n cs := cs = [.int .i64 n] ∧ isI64 n
  mono _ h := h
  len h := by rw [h.1]; rfl
  one h u hu := by rw [h.1] at hu; simp at hu; subst hu; rfl
theorem rI_L {G : Hp} : ∀ {l : List Int} {cs : List Value}, rI.L G l cs ↔ cs = l.map (.int .i64 ·) ∧ ∀ n ∈ l, isI64 n
  | [], cs => by simp [Rp.L]
  | x :: l, cs => by
    constructor
    · rintro ⟨c, d, rfl, ⟨rfl, h1⟩, h2⟩
      obtain ⟨rfl, h3⟩ := rI_L.1 h2
      exact ⟨by simp, by simpa using ⟨h1, h3⟩⟩
    · rintro ⟨rfl, h⟩
      exact ⟨[.int .i64 x], _, by simp, ⟨rfl, h x (by simp)⟩, rI_L.2 ⟨rfl, fun n hn => h n (by simp [hn])⟩⟩


abbrev Lds := List (Nat × OO)
structure Lent (ow : Lds) (G : Hp) (w : World) : Prop where
  own : ∀ (i b : Nat) (o : OO), ow[i]? = some (b, o) → o.holds 0 w b ∧ ∀ g, o.mut b g → G g = none
  inj : ∀ (i j b b' : Nat) (o o' : OO) (g : Nat), ow[i]? = some (b, o) → ow[j]? = some (b', o') → o.blks b g → o'.blks b' g → i = j
def mutOf (ow : Lds) (g : Nat) : Prop := ∃ (i b : Nat) (o : OO), ow[i]? = some (b, o) ∧ o.mut b g
def blkOf (ow : Lds) (g : Nat) : Prop := ∃ (i b : Nat) (o : OO), ow[i]? = some (b, o) ∧ o.blks b g
def RetW (w : World) (G : Hp) (ow : Lds) (φ : Value → Hp → Lds → Prop) : Ending → World → Prop := fun e w' =>
  ∃ v G' ow', e = .returned v ∧ Fr w w' ∧ (∀ g, g < w.heap.size → ¬ mutOf ow g → w'.heap[g]? = w.heap[g]?) ∧ Has w' G' ∧ (∀ b, b < w.heap.size → G' b = G b) ∧ Lent ow' G' w' ∧ ow'.length = ow.length ∧
    (∀ g, blkOf ow' g → blkOf ow g ∨ w.heap.size ≤ g) ∧ (∀ g, mutOf ow' g → mutOf ow g ∨ w.heap.size ≤ g) ∧ φ v G' ow'
def PureW (P : Program) (f : FuncId) (args : List Value) (G : Hp) (ow : Lds) (φ : Value → Hp → Lds → Prop) : Prop :=
  ∀ w, Has w G → Lent ow G w → Calls P f args.toArray w (RetW w G ow φ)

def enumO : Nat → Lds → Owns
  | _, [] => []
  | i, x :: l => (i, x.1, x.2) :: enumO (i + 1) l
theorem lk_enumO : ∀ (ow : Lds) (i k : Nat), lk k (enumO i ow) = if k < i then none else ow[k - i]?
  | [], i, k => by simp [enumO, lk]
  | x :: l, i, k => by
    simp only [enumO, lk]
    split
    · rename_i h; subst h; simp
    · rename_i h
      rw [lk_enumO l (i + 1) k]
      by_cases hk : k < i
      · rw [if_pos hk, if_pos (by omega)]
      · rw [if_neg hk, if_neg (by omega)]
        rw [show k - i = (k - (i + 1)) + 1 by omega, List.getElem?_cons_succ]

def pickO (own : Owns) : Nat → Nat → Option Lds
  | _, 0 => some []
  | i, n + 1 => match lk i own with
    | some x => match pickO own (i + 1) n with
      | some l => some (x :: l)
      | none => none
    | none => none
theorem pickO_get {own : Owns} : ∀ {n i : Nat} {l : Lds}, pickO own i n = some l → l.length = n ∧ ∀ j x, l[j]? = some x → lk (i + j) own = some x
  | 0, i, l, h => by simp only [pickO, Option.some.injEq] at h; subst h; simp
  | n + 1, i, l, h => by
    simp only [pickO] at h
    cases h1 : lk i own with
    | none => rw [h1] at h; cases h
    | some x =>
      rw [h1] at h
      cases h2 : pickO own (i + 1) n with
      | none => rw [h2] at h; cases h
      | some l' =>
        rw [h2] at h
        simp only [Option.some.injEq] at h
        subst h
        obtain ⟨q1, q2⟩ := pickO_get h2
        refine ⟨by simp [q1], fun j y hj => ?_⟩
        cases j with
        | zero => simp at hj; subst hj; simpa using h1
        | succ j => simp only [List.getElem?_cons_succ] at hj; have := q2 j y hj; rwa [Nat.add_assoc, Nat.add_comm 1 j] at this

section
variable {C : Ctx} {K : List KI} {s : St} {R : Array Oper} {l : List Oper} {d : Option Tmp} {t : TypeId} {pos : String} {aft : Array Edge} {v : Value}

theorem enterW {P : Program} {f : FuncId} {fn : Func} {G : Hp} {ow : Lds} {φ : Value → Hp → Lds → Prop} (ty : TypeId → Option TI) (tyok : ∀ T i, ty T = some i → i.ok P T) {nt : Nat}
    (hf : P.funcs[f]? = some fn) (hb : fn.body.isSome = true) (hn : fn.ntmps = nt) (svs : List SV) (hargs : svs.length ≤ nt) {mh : Nat} (hmh : ow.length = mh)
    (h : ∀ C : Ctx, C.P = P → C.Q = bodyPost C.P fn (RetW C.w0 G ow φ) → C.nt = nt → C.ty = ty → (∀ g, g ∈ C.mb → mutOf ow g) → C.mh = mh → C.ro = none → C.G0 = G → (∀ g, mutOf ow g → blkOf ow g) → SGo C [.code (fn.body.getD .skip)] ⟨enumS 0 svs, enumO 0 ow, G, []⟩) : PureW P f (dens svs) G ow φ := by
  intro w hw hL
  classical
  refine calls_of_wp hf (body_eq hb) ((wpIn_wide (n := 0)).1 ?_)
  have hlt : ∀ g, blkOf ow g → g < w.heap.size := fun g ⟨i, b, o, e, hg⟩ => OO.holds_lt (hL.own i b o e).1 hg
  have hml : ∀ g, mutOf ow g → g < w.heap.size := fun g ⟨i, b, o, e, hg⟩ => hlt g ⟨i, b, o, e, OO.mut_blks (hL.own i b o e).1 hg⟩
  have hmem : ∀ g, g ∈ (List.range w.heap.size).filter (fun g => decide (mutOf ow g)) ↔ mutOf ow g := fun g => by
    simp only [List.mem_filter, List.mem_range, decide_eq_true_eq]
    exact ⟨fun q => q.2, fun q => ⟨hml g q, q⟩⟩
  have hlk : ∀ k b o, lk k (enumO 0 ow) = some (b, o) → ow[k]? = some (b, o) := fun k b o e => by
    rw [lk_enumO] at e; simpa using e
  have := h ⟨P, bodyPost P fn (RetW w G ow φ), nt, ty, tyok, w, G, (List.range w.heap.size).filter (fun g => decide (mutOf ow g)), mh, none⟩ rfl rfl rfl rfl (fun g hg => (hmem g).1 hg) rfl rfl rfl (fun g ⟨i, b, o, e, hg⟩ => ⟨i, b, o, e, OO.mut_blks (hL.own i b o e).1 hg⟩) { tmps := (dens svs).toArray ++ Array.replicate (fn.ntmps - (dens svs).toArray.size) undef, defers := [] } w
    ⟨slots_args _ _ _ (fun i x e => by have := (lk_enumS svs 0 i x e).2; simpa using this), by simp [hn, dens_eq]; omega, rfl, ⟨fun k b o e => ?_, fun k k' b b' o o' g e e' f f' => ?_, Grow.refl hw⟩⟩
  · simp only [wpK] at this
    exact this
  · have e' := hlk _ _ _ e
    obtain ⟨h1, h2⟩ := hL.own _ _ _ e'
    refine ⟨h1, fun g hg => ⟨h2 g hg, fun q => ?_, fun _ => .inl ((hmem g).2 ⟨_, _, _, e', hg⟩)⟩⟩
    have hk : k < ow.length := by
      rcases Nat.lt_or_ge k ow.length with q | q
      · exact q
      · rw [List.getElem?_eq_none q] at e'; cases e'
    have q : mh ≤ k := q
    omega
  · exact hL.inj _ _ _ _ _ _ g (hlk _ _ _ e) (hlk _ _ _ e') f f'

theorem x_retW {k : Code} (ht : tag k = 7) {fn : Func} {G : Hp} {ow : Lds} {φ : Value → Hp → Lds → Prop} (hQ : C.Q = bodyPost C.P fn (RetW C.w0 G ow φ)) (hmb : ∀ g, g ∈ C.mb → mutOf ow g) {mh : Nat} (hmh : C.mh = mh) (hG : C.G0 = G) (hmub : ∀ g, mutOf ow g → blkOf ow g) (hml : ow.length = mh)
    {r : ResultVar} {rs : List ResultVar} (hrs : fn.results.toList = r :: rs) {xs : List SV} (hr : resAll s.sl C.ty s.own (r :: rs) = some xs) (hdf : s.df = []) {ow' : Lds} (hp : pickO s.own 0 mh = some ow')
    (hpl : Plain (enumO 0 ow')) (h : φ (resV xs).den s.G ow') (hnb : noBr K = true := by rfl) : SGo C (.code k :: K) s := by
  intro a w hS
  cases k <;> simp [tag] at ht
  · rename_i a b c; cases c <;> simp at ht
  refine wpIn_ret ?_
  rw [wpK_ret _ _ _ hnb, hQ]
  have hg := hS.mem.grow
  obtain ⟨p1, p2⟩ := pickO_get hp
  have p3 : ∀ {i b o}, ow'[i]? = some (b, o) → lk i s.own = some (b, o) := fun {i b o} e => by simpa using p2 i _ e
  have p4 : ∀ {i b o}, ow'[i]? = some (b, o) → i < mh := fun {i b o} e => by
    rcases Nat.lt_or_ge i ow'.length with q | q
    · omega
    · rw [List.getElem?_eq_none q] at e; cases e
  have p5 : ∀ g, blkOf ow' g → mutOf ow' g := fun g ⟨i, b, o, e, hb⟩ => ⟨i, b, o, e, hpl i b o (by rw [lk_enumO]; simpa using e) g hb⟩
  have p6 : ∀ g, mutOf ow' g → mutOf ow g ∨ C.w0.heap.size ≤ g := fun g ⟨i, b, o, e, hb⟩ => by
    obtain ⟨_, q⟩ := hS.mem.own _ _ _ (p3 e)
    rcases (q g hb).2.2 (by rw [hmh]; exact p4 e) with q | q
    · exact .inl (hmb g q)
    · exact .inr q
  refine ⟨by rw [hS.df, hdf], _, results_ok hS (by rw [hrs]; exact hr), _, _, ow', rfl, hg.fr, fun g hg1 hg2 => ?_, hg.has, fun b hb => by rw [hg.old b hb, hG], ⟨fun i b o e => ?_, fun i j b b' o o' g e e' f f' => ?_⟩, by omega, fun g q => ?_, p6, h⟩
  · exact hg.blk g hg1 fun q => hg2 (hmb g q)
  · obtain ⟨q1, q2⟩ := hS.mem.own _ _ _ (p3 e)
    exact ⟨q1, fun g q => (q2 g q).1⟩
  · exact hS.mem.inj _ _ _ _ _ _ g (p3 e) (p3 e') f f'
  · exact (p6 g (p5 g q)).imp (hmub g) id

def setO : List Nat → Lds → Owns → Owns
  | k :: ks, x :: l, own => setO ks l (stk k x own)
  | _, _, own => own
def lkAll (own : Owns) : List Nat → Option Lds
  | [] => some []
  | k :: ks => match lk k own with
    | some x => match lkAll own ks with
      | some l => some (x :: l)
      | none => none
    | none => none
def noDup : List Nat → Bool
  | [] => true
  | k :: ks => !ks.contains k && noDup ks
theorem lkAll_get {own : Owns} : ∀ {ks : List Nat} {l : Lds}, lkAll own ks = some l → l.length = ks.length ∧ ∀ (i k : Nat), ks[i]? = some k → ∃ x, l[i]? = some x ∧ lk k own = some x
  | [], l, h => by simp only [lkAll, Option.some.injEq] at h; subst h; simp
  | k :: ks, l, h => by
    simp only [lkAll] at h
    cases h1 : lk k own with
    | none => rw [h1] at h; cases h
    | some x =>
      rw [h1] at h
      cases h2 : lkAll own ks with
      | none => rw [h2] at h; cases h
      | some l' =>
        rw [h2] at h
        simp only [Option.some.injEq] at h
        subst h
        obtain ⟨q1, q2⟩ := lkAll_get h2
        refine ⟨by simp [q1], fun i k' hi => ?_⟩
        cases i with
        | zero => simp at hi; subst hi; exact ⟨x, by simp, h1⟩
        | succ i => simp only [List.getElem?_cons_succ] at hi ⊢; exact q2 i k' hi
theorem lk_setO : ∀ {ks : List Nat} {l : Lds} {own : Owns} {k : Nat}, noDup ks = true → l.length = ks.length → (∃ (i : Nat) (x : Nat × OO), ks[i]? = some k ∧ l[i]? = some x ∧ lk k (setO ks l own) = some x) ∨ (k ∉ ks ∧ lk k (setO ks l own) = lk k own)
  | [], l, own, k, _, _ => .inr ⟨by simp, by cases l <;> rfl⟩
  | j :: ks, [], own, k, _, h => by simp at h
  | j :: ks, x :: l, own, k, hn, h => by
    simp only [noDup, Bool.and_eq_true, Bool.not_eq_true', List.contains_eq_mem, decide_eq_false_iff_not] at hn
    simp only [setO]
    rcases lk_setO (ks := ks) (l := l) (own := stk j x own) (k := k) hn.2 (by simpa using h) with ⟨i, y, h1, h2, h3⟩ | ⟨h1, h2⟩
    · exact .inl ⟨i + 1, y, by simpa using h1, by simpa using h2, h3⟩
    · by_cases hk : k = j
      · subst hk
        exact .inl ⟨0, x, by simp, by simp, by rw [h2, lk_stk]; simp⟩
      · exact .inr ⟨by simp [hk, h1], by rw [h2, lk_stk, if_neg hk]⟩

theorem Mem.lentM {own : Owns} {G G' : Hp} {w w' : World} (h : Mem C own G w) {ks : List Nat} {ow ow' : Lds} (hk : lkAll own ks = some ow) (hn : noDup ks = true) (hks : (∀ k ∈ ks, C.mh ≤ k) ∨ (∀ k ∈ ks, k < C.mh))
    (hf : Fr w w') (hs : ∀ g, g < w.heap.size → ¬ mutOf ow g → w'.heap[g]? = w.heap[g]?) (hG : Has w' G') (hold : ∀ b, b < w.heap.size → G' b = G b) (hL : Lent ow' G' w') (hlen : ow'.length = ow.length)
    (hb : ∀ g, blkOf ow' g → blkOf ow g ∨ w.heap.size ≤ g) (hm : ∀ g, mutOf ow' g → mutOf ow g ∨ w.heap.size ≤ g) : Mem C (setO ks ow' own) G' w' := by
  obtain ⟨k1, k2⟩ := lkAll_get hk
  have hidx : ∀ {i : Nat} {x : Nat × OO}, ow[i]? = some x → ∃ k, ks[i]? = some k ∧ lk k own = some x := fun {i x} e => by
    have hi : i < ks.length := by
      rcases Nat.lt_or_ge i ow.length with q | q
      · omega
      · rw [List.getElem?_eq_none q] at e; cases e
    obtain ⟨x', e1, e2⟩ := k2 i ks[i] (by rw [List.getElem?_eq_getElem hi])
    rw [e] at e1; cases e1
    exact ⟨ks[i], by rw [List.getElem?_eq_getElem hi], e2⟩
  have hout : ∀ {k b : Nat} {o : OO} {g : Nat}, k ∉ ks → lk k own = some (b, o) → o.blks b g → ¬ blkOf ow g := fun {k b o g} hk' e hg ⟨i, b', o', e', hg'⟩ => by
    obtain ⟨k', e1, e2⟩ := hidx e'
    have := h.inj _ _ _ _ _ _ g e e2 hg hg'
    subst this
    exact hk' (List.mem_of_getElem? e1)
  have hmutb : ∀ g, mutOf ow g → blkOf ow g := fun g ⟨i, b, o, e, hg⟩ => by
    obtain ⟨k', _, e2⟩ := hidx e
    exact ⟨i, b, o, e, OO.mut_blks (h.own _ _ _ e2).1 hg⟩
  have hlt' : ow'.length = ks.length := by omega
  refine ⟨fun k b o e => ?_, fun k k' b b' o o' g e e' f f' => ?_, ?_⟩
  · rcases lk_setO (own := own) (k := k) hn hlt' with ⟨i, x, h1, h2, h3⟩ | ⟨h1, h2⟩
    · rw [e] at h3; cases h3
      obtain ⟨q1, q2⟩ := hL.own i b o h2
      refine ⟨q1, fun g hg => ?_⟩
      have key : (C.mh ≤ k → C.w0.heap.size ≤ g) ∧ (k < C.mh → g ∈ C.mb ∨ C.w0.heap.size ≤ g) := by
        rcases hm g ⟨i, b, o, h2, hg⟩ with ⟨j, b2, o2, e2, hg2⟩ | q
        · obtain ⟨k', e3, e4⟩ := hidx e2
          obtain ⟨_, q5⟩ := h.own _ _ _ e4
          obtain ⟨_, q6, q7⟩ := q5 g hg2
          have m1 := List.mem_of_getElem? h1
          have m2 := List.mem_of_getElem? e3
          rcases hks with hks | hks
          · exact ⟨fun _ => q6 (hks _ m2), fun q => by have := hks _ m1; omega⟩
          · exact ⟨fun q => by have := hks _ m1; omega, fun _ => q7 (hks _ m2)⟩
        · have := h.grow.size
          exact ⟨fun _ => by omega, fun _ => .inr (by omega)⟩
      exact ⟨q2 g hg, key⟩
    · rw [h2] at e
      obtain ⟨q1, q2⟩ := h.own _ _ _ e
      refine ⟨OO.holds_same q1 hf fun g hg => hs g (h.lt e hg) fun q => hout h1 e hg (hmutb g q), fun g hg => ?_⟩
      obtain ⟨q3, q4, q5⟩ := q2 g hg
      exact ⟨by rw [hold g (h.ltm e hg)]; exact q3, q4, q5⟩
  · rcases lk_setO (own := own) (k := k) hn hlt' with ⟨i, x, h1, h2, h3⟩ | ⟨h1, h2⟩
    · rw [e] at h3; cases h3
      rcases lk_setO (own := own) (k := k') hn hlt' with ⟨i', x', h1', h2', h3'⟩ | ⟨h1', h2'⟩
      · rw [e'] at h3'; cases h3'
        have := hL.inj _ _ _ _ _ _ g h2 h2' f f'
        subst this
        rw [h1] at h1'; cases h1'; rfl
      · rw [h2'] at e'
        exfalso
        rcases hb g ⟨_, _, _, h2, f⟩ with q | q
        · exact hout h1' e' f' q
        · have := h.lt e' f'; omega
    · rw [h2] at e
      rcases lk_setO (own := own) (k := k') hn hlt' with ⟨i', x', h1', h2', h3'⟩ | ⟨h1', h2'⟩
      · rw [e'] at h3'; cases h3'
        exfalso
        rcases hb g ⟨_, _, _, h2', f'⟩ with q | q
        · exact hout h1 e f q
        · have := h.lt e f; omega
      · rw [h2'] at e'
        exact h.inj _ _ _ _ _ _ g e e' f f'
  · have hg := h.grow
    refine ⟨hf.os.trans hg.os, hf.tape.trans hg.tape, hf.output.trans hg.output, Nat.le_trans hg.size hf.size, fun j hj hm' => ?_, hG, fun b hb' => ?_⟩
    · rw [hs j (by have := hg.size; omega) ?_]
      · exact hg.blk j hj hm'
      · rintro ⟨i, b, o, e, hgj⟩
        obtain ⟨k', _, e2⟩ := hidx e
        obtain ⟨_, q⟩ := h.own _ _ _ e2
        obtain ⟨_, q1, q2⟩ := q j hgj
        rcases Nat.lt_or_ge k' C.mh with q3 | q3
        · rcases q2 q3 with q4 | q4
          · exact hm' q4
          · omega
        · have := q1 q3; omega
    · rw [hold b (by have := hg.size; omega)]; exact hg.old b hb'

theorem go_callW (ks : List Nat) {f : FuncId} {args : Array Operand} {tys : Array TypeId} {vs : List SV} {ow : Lds} {φ : Value → Hp → Lds → Prop} (hd : dOk C.nt d = true) (hf : canCall C.P f = true) (ha : evs s.sl args.toList = some vs)
    (hk : lkAll s.own ks = some ow) (hn : noDup ks = true) (hks : (∀ k ∈ ks, C.mh ≤ k) ∨ (∀ k ∈ ks, k < C.mh)) (hc : PureW C.P f (dens vs) s.G ow φ)
    (h : ∀ v G' ow', Le s.G G' → φ v G' ow' → SGo C (.ops R l :: K) ⟨putS d (rv v) s.sl, setO ks ow' s.own, G', s.df⟩) : SGo C (.ops R (⟨d, .call ⟨.value (.func f), args, tys⟩, t, pos, aft, none⟩ :: l) :: K) s := by
  intro a w hS
  have hargs : args.map a.eval = (dens vs).toArray := by apply Array.ext'; rw [Array.toList_map]; exact evs_ok hS.sl ha
  have hrun : (execOp a.eval ⟨d, .call ⟨.value (.func f), args, tys⟩, t, pos, aft, none⟩).run C.P w = .ok (.enter f (dens vs).toArray) w := by
    simp only [execOp, resolve, hargs, Act.eval, Deferred.ofValue, Sem.run_bind, Sem.run_pure, Result.andThen_ok, invoke]
    simp [callFunc_ok hf]
  obtain ⟨k1, k2⟩ := lkAll_get hk
  have hidx : ∀ {i : Nat} {x : Nat × OO}, ow[i]? = some x → ∃ k, ks[i]? = some k ∧ lk k s.own = some x := fun {i x} e => by
    have hi : i < ks.length := by
      rcases Nat.lt_or_ge i ow.length with q | q
      · omega
      · rw [List.getElem?_eq_none q] at e; cases e
    obtain ⟨x', e1, e2⟩ := k2 i ks[i] (by rw [List.getElem?_eq_getElem hi])
    rw [e] at e1; cases e1
    exact ⟨ks[i], by rw [List.getElem?_eq_getElem hi], e2⟩
  have hnd : ∀ (ks : List Nat), noDup ks = true → ∀ (i j k : Nat), ks[i]? = some k → ks[j]? = some k → i = j := by
    intro ks
    induction ks with
    | nil => intro _ i j k h; simp at h
    | cons x ks ih =>
      intro h i j k hi hj
      simp only [noDup, Bool.and_eq_true, Bool.not_eq_true', List.contains_eq_mem, decide_eq_false_iff_not] at h
      cases i <;> cases j
      · rfl
      · simp at hi hj; subst hi; exact absurd (List.mem_of_getElem? hj) h.1
      · simp at hi hj; subst hj; exact absurd (List.mem_of_getElem? hi) h.1
      · simp at hi hj; rw [ih h.2 _ _ k hi hj]
  refine K_enter rfl hrun ((hc w hS.mem.has ⟨fun i b o e => ?_, fun i j b b' o o' g e e' q q' => ?_⟩).mono ?_)
  · obtain ⟨k, _, e2⟩ := hidx e
    obtain ⟨q1, q2⟩ := hS.mem.own _ _ _ e2
    exact ⟨q1, fun g hg => (q2 g hg).1⟩
  · obtain ⟨k, e1, e2⟩ := hidx e
    obtain ⟨k', e1', e2'⟩ := hidx e'
    have := hS.mem.inj _ _ _ _ _ _ g e2 e2' q q'
    subst this
    exact hnd ks hn i j k e1 e1'
  · rintro e w' ⟨v, G', ow', rfl, q1, q2, q3, q4, q5, q6, q7, q8, hφ⟩
    have hm := hS.mem.lentM hk hn hks q1 q2 q3 q4 q5 q6 q7 q8
    have hle : Le s.G G' := fun b o e => by rw [q4 b (lt_of_heap (hS.mem.has b o e))]; exact e
    refine ⟨v, rfl, ?_⟩
    have := hS.put hd (rv v) hm
    rw [rv_den] at this
    exact h v G' ow' hle hφ _ _ this
end
section
variable {C : Ctx} {K : List KI} {s : St} {R : Array Oper} {l : List Oper} {d : Option Tmp} {t : TypeId} {pos : String} {aft : Array Edge}
theorem go_gundef {op : Op} {j g : Nat} {want : Bool} (hj : (R[j]?).bind (·.dst) = some g) (hd : dOk C.nt d = true) (hu : lk g s.sl = some (.v undef))
    (h2 : SGo C (.ops R l :: K) ⟨putS d (.v undef) s.sl, s.own, s.G, s.df⟩) : SGo C (.ops R (⟨d, op, t, pos, aft, some (j, want)⟩ :: l) :: K) s := by
  intro a w hS
  have hy : yielded R a.tmps j = none := by
    have := hS.sl g _ hu
    simp [yielded, hj, this, SV.den, undef]
  simp only [wpK, wpListIn, Region.wanted, hy]
  have := h2 _ _ (hS.put hd (.v undef) hS.mem)
  simp only [wpK] at this
  rw [if_neg (by simp)]
  exact ⟨fun _ _ => trivial, this⟩
end
end Go.Sx
namespace Go.Sx
set_option linter.unusedSimpArgs false
set_option linter.unusedVariables false
open Go.RowKit
section
variable {C : Ctx} {K : List KI} {s : St} {R : Array Oper} {l : List Oper} {d : Option Tmp} {t : TypeId} {pos : String} {aft : Array Edge}
end
end Go.Sx
namespace Go.Sx
set_option linter.unusedSimpArgs false
set_option linter.unusedVariables false
open Go.RowKit
section
variable {C : Ctx} {K : List KI} {s : St} {R : Array Oper} {l : List Oper} {d : Option Tmp} {t : TypeId} {pos : String} {aft : Array Edge}
theorem h_takeG (i : Nat) {own0 : List (Nat × Nat × OO)} {G0 : Hp} {n j g : Nat} {want : Bool} {listed : Array Bool} {op : Op} {x : SV} (hi : R[i]? = some ⟨d, op, t, pos, aft, some (j, want)⟩) (hj : (R[j]?).bind (·.dst) = some g) (hg : lk g s.sl = some (.b want)) (hs : Region.noSelect R = true) (hf : Region.free .any R listed i = true)
    (hr : (Region.ready .any R listed).contains i = true) (hQ : QP C) (hd : dOk C.nt d = true) (ho : ∀ j y, lk j own0 = some y → lk j s.own = some y) (hG : Le G0 s.G)
    (hq : Quiet C s.sl own0 G0 op x.den) (h : SGo C (.h (Hold C own0 G0) R n (listed.setIfInBounds i true) :: K) ⟨putS d x s.sl, s.own, s.G, s.df⟩) :
    SGo C (.h (Hold C own0 G0) R (n + 1) listed :: K) s := by
  intro a w hS
  have hhold : Hold C own0 G0 w := ⟨fun k b o e => (hS.mem.own k b o (ho _ _ e)).1, fun b o e => hS.mem.has b o (hG b o e)⟩
  have := h _ _ (hS.put hd x hS.mem)
  have hy : yielded R a.tmps j = some want := yielded_ok hS hj ⟨_, hg, rfl⟩
  simp only [wpK] at this ⊢
  refine wpAnyHI_take (i := i) (v := x.den) hi hs hf hr ?_ (.inl ⟨by simp [Region.wanted, hy], fun w' hw' => hq a w' d t pos aft (some (j, want)) hS.sl hw'⟩) hhold this
  intro c a' w' hp
  exact wpK_panic c d x.den (fun a w => hQ c a w d x.den) K a' w' hp
end
end Go.Sx
namespace Go.Sx
set_option linter.unusedSimpArgs false
set_option linter.unusedVariables false
open Go.RowKit

structure Rw where
  e : TypeId
  size : Nat
  v : Value
  n : Nat
  xs : List Value
def Rw.nil (e : TypeId) (size : Nat) : Rw := ⟨e, size, .slice none 0 0, 0, []⟩

theorem ownsRow_same {w w' : World} {base : Nat} {e : TypeId} {size n : Nat} {v : Value} {xs : List Value} (h : w.ownsRow base e size v n xs) (hs : ∀ g, v.ownBlock = some g → w'.heap[g]? = w.heap[g]?) : w'.ownsRow base e size v n xs := by
  refine ⟨h.1, ?_⟩
  rcases h.2 with h2 | ⟨g, cap, cur, rfl, hb, hg, rest⟩
  · exact .inl h2
  · exact .inr ⟨g, cap, cur, rfl, hb, by rw [hs g rfl]; exact hg, rest⟩
theorem ownsRow_nil (w : World) (e : TypeId) (size : Nat) : w.ownsRow 0 e size (.slice none 0 0) 0 [] := ⟨by simp, .inl ⟨rfl, rfl⟩⟩

def ZR (rs : List Rw) : Zn where
  A Z M w := (∀ (i : Nat) (r : Rw), rs[i]? = some r → w.ownsRow 0 r.e r.size r.v r.n r.xs) ∧ (∀ (i j : Nat) (r r' : Rw) (g : Nat), rs[i]? = some r → rs[j]? = some r' → r.v.ownBlock = some g → r'.v.ownBlock = some g → i = j) ∧
    (∀ g, Z g ↔ ∃ (i : Nat) (r : Rw), rs[i]? = some r ∧ r.v.ownBlock = some g) ∧ (∀ g, M g → Z g)
  lt Z M w h g hg := by
    obtain ⟨i, r, e, hb⟩ := (h.2.2.1 g).1 hg
    exact ((h.1 i r e).lt g hb).2
  sub Z M w h := h.2.2.2
  st Z M w w' h _ hs := ⟨fun i r e => ownsRow_same (h.1 i r e) fun g hg => hs g ((h.2.2.1 g).2 ⟨i, r, e, hg⟩), h.2⟩

def RowAt (G : Hp) (r : Rw) : Prop := (r.v = .slice none 0 0 ∧ r.n = 0 ∧ r.xs = []) ∨ ∃ g cap, r.v = .slice (some ⟨g, 0, none⟩) r.n cap ∧ At G g 0 r.xs
theorem RowAt.mono {G G' : Hp} {r : Rw} (h : RowAt G r) (hl : Le G G') : RowAt G' r := by
  rcases h with h | ⟨g, cap, h1, h2⟩
  · exact .inl h
  · exact .inr ⟨g, cap, h1, h2.mono hl⟩
theorem RowAt.S {α : Type} {G : Hp} {rp : Rp α} {e : TypeId} {size n : Nat} {v : Value} {xs : List Value} {ts : List α} (h : RowAt G ⟨e, size, v, n, xs⟩) (hn : n = ts.length) (h63 : n ≤ 9223372036854775807) (hL : rp.L G ts xs) : rp.S G ts v := by
  subst hn
  rcases h with ⟨h1, h2, h3⟩ | ⟨g, cap, h1, h2⟩
  · simp only at h1 h2
    subst h1
    have := List.length_eq_zero_iff.1 h2
    subst this
    exact Rp.S_nil _ _
  · simp only at h1 h2
    subst h1
    exact ⟨h63, _, _, rfl, .inr ⟨_, _, _, rfl, h2, hL⟩⟩
theorem row_at {w : World} {G : Hp} {r : Rw} (h : w.ownsRow 0 r.e r.size r.v r.n r.xs) (hG : ∀ g, r.v.ownBlock = some g → G g = w.heap[g]?) : RowAt G r := by
  obtain ⟨e, size, v, n, xs⟩ := r
  simp only at h hG
  rcases h.2 with ⟨h1, h2⟩ | ⟨g, cap, cur, rfl, rest⟩
  · refine .inl ⟨h1, h2, ?_⟩
    have := h.1
    simp only at this ⊢
    exact List.eq_nil_of_length_eq_zero (by rw [this, h2]; simp)
  · obtain ⟨x, hx, hat⟩ := row_block h
    exact .inr ⟨g, cap, rfl, hat G (by rw [hG g rfl]; exact hx)⟩

section
variable {C : Ctx} {K : List KI} {s : St} {R : Array Oper} {l : List Oper} {d : Option Tmp} {t : TypeId} {pos : String} {aft : Array Edge} {v : Value}

theorem Mem.split {own : Owns} {G : Hp} {w : World} (h : Mem C own G w) {k j b b1 b2 : Nat} {o o1 o2 : OO} (hk : lk k own = some (b, o)) (hj : lk j own = none) (hmk : C.mh ≤ k) (hmj : C.mh ≤ j)
    (h1 : o1.holds C.w0.heap.size w b1) (h2 : o2.holds C.w0.heap.size w b2) (hb1 : ∀ g, o1.blks b1 g → o.blks b g) (hb2 : ∀ g, o2.blks b2 g → o.blks b g) (hd : ∀ g, o1.blks b1 g → o2.blks b2 g → False)
    (hm1 : ∀ g, o1.mut b1 g → o.mut b g) (hm2 : ∀ g, o2.mut b2 g → o.mut b g) : Mem C (stk j (b2, o2) (stk k (b1, o1) own)) G w := by
  obtain ⟨_, f⟩ := h.own _ _ _ hk
  have hkj : k ≠ j := by rintro rfl; rw [hj] at hk; cases hk
  have hl : ∀ {i c x}, lk i (stk j (b2, o2) (stk k (b1, o1) own)) = some (c, x) → (i = j ∧ c = b2 ∧ x = o2) ∨ (i = k ∧ c = b1 ∧ x = o1) ∨ (i ≠ j ∧ i ≠ k ∧ lk i own = some (c, x)) := by
    intro i c x e
    rw [lk_stk] at e
    split at e
    · cases e; exact .inl ⟨by assumption, rfl, rfl⟩
    · rw [lk_stk] at e
      split at e
      · cases e; exact .inr (.inl ⟨by assumption, rfl, rfl⟩)
      · exact .inr (.inr ⟨by assumption, by assumption, e⟩)
  refine ⟨fun i c x e => ?_, fun i i' c c' x x' g e e' q q' => ?_, h.grow⟩
  · rcases hl e with ⟨rfl, rfl, rfl⟩ | ⟨rfl, rfl, rfl⟩ | ⟨_, _, e⟩
    · refine ⟨h2, fun g hg => ?_⟩
      obtain ⟨f1, f2, _⟩ := f g (hm2 g hg)
      exact ⟨f1, fun _ => f2 hmk, fun q => by omega⟩
    · exact ⟨h1, fun g hg => f g (hm1 g hg)⟩
    · exact h.own _ _ _ e
  · rcases hl e with ⟨rfl, rfl, rfl⟩ | ⟨rfl, rfl, rfl⟩ | ⟨n1, n2, e0⟩ <;> rcases hl e' with ⟨e1, e2, e3⟩ | ⟨e1, e2, e3⟩ | ⟨n3, n4, e0'⟩
    · exact e1.symm
    · subst e1 e2 e3; exact (hd g q' q).elim
    · exact absurd (h.inj _ _ _ _ _ _ g e0' hk q' (hb2 g q)) n4
    · subst e1 e2 e3; exact (hd g q q').elim
    · exact e1.symm
    · exact absurd (h.inj _ _ _ _ _ _ g e0' hk q' (hb1 g q)) n4
    · subst e1 e2 e3; exact absurd (h.inj _ _ _ _ _ _ g e0 hk q (hb2 g q')) n2
    · subst e1 e2 e3; exact absurd (h.inj _ _ _ _ _ _ g e0 hk q (hb1 g q')) n2
    · exact h.inj _ _ _ _ _ _ g e0 e0' q q'

def RetV (w : World) (G : Hp) (φ : Value → Hp → List Rw → Prop) : Ending → World → Prop :=
  fun e w' => ∃ v G' rs Z, e = .returned v ∧ Grow [] w G w' G' ∧ (ZR rs).A Z Z w' ∧ (∀ g, Z g → G' g = none ∧ w.heap.size ≤ g) ∧ φ v G' rs
def PureV (P : Program) (f : FuncId) (args : List Value) (G : Hp) (φ : Value → Hp → List Rw → Prop) : Prop :=
  ∀ w, Has w G → Calls P f args.toArray w (RetV w G φ)
end
end Go.Sx
namespace Go.Sx
set_option linter.unusedSimpArgs false
set_option linter.unusedVariables false
open Go.RowKit
section
variable {C : Ctx} {sl : List (Nat × SV)} {own : Owns} {G : Hp}
theorem equalIn_s0 {P : Program} {T e : TypeId} (hT : P.underlying T = some (.slice e)) (d n c : Nat) (w : World) : (Op.equalIn (d + 1) T (.slice none n c) (.slice none 0 0)).run P w = .ok true w := by
  simp only [Op.equalIn, Sem.run_bind, run_und w hT, Result.andThen_ok, Sem.run_pure]; rfl
theorem equalIn_s1 {P : Program} {T e : TypeId} (hT : P.underlying T = some (.slice e)) (d : Nat) (a : Addr) (n c : Nat) (w : World) : (Op.equalIn (d + 1) T (.slice (some a) n c) (.slice none 0 0)).run P w = .ok false w := by
  simp only [Op.equalIn, Sem.run_bind, run_und w hT, Result.andThen_ok, Sem.run_pure]
theorem equal_s {P : Program} {T e : TypeId} (hT : P.underlying T = some (.slice e)) (ad : Option Addr) (n c : Nat) (w : World) : (Op.equal T (.slice ad n c) (.slice none 0 0)).run P w = .ok ad.isNone w := by
  cases ad with
  | none => exact equalIn_s0 hT 9999 n c w
  | some a => exact equalIn_s1 hT 9999 a n c w
theorem quiet_snil {T e T' : TypeId} {x : Operand} {ad : Option Addr} {n c : Nat} {vx : SV} {sz by' : Nat} {ze : List Value} {fl : List (Nat × Nat × Bool)} (hT : C.ty T = some ⟨.slice e, sz, by', ze, fl⟩) (hx : ev sl x = some vx) (hv : vx.den = .slice ad n c) : Quiet C sl own G (.binOp .eql T x (.const (.slice none 0 0)) T') (.bool ad.isNone) := by
  intro a w d t pos aft g hs hh
  have hxv := ev_ok hs hx
  rw [hv] at hxv
  have hu := (C.tyok _ _ hT).k
  simp only [TK.fits] at hu
  have hc : a.eval (.const (.slice none 0 0)) = .slice none 0 0 := rfl
  simp only [execOp, hxv, hc]
  have h1 : (eqGuard .eql T x (.const (.slice none 0 0)) (.slice ad n c) (.slice none 0 0)).run C.P w = .ok () w := by simp [eqGuard]
  have h2 : (binOp .eql T (.slice ad n c) (.slice none 0 0)).run C.P w = .ok (.bool ad.isNone) w := by
    simp [binOp, equal_s hu]
  rw [Sem.run_bind]
  simp [h1, h2, Sem.run_bind]
end
end Go.Sx
namespace Go.Sx
set_option linter.unusedSimpArgs false
set_option linter.unusedVariables false
open Go.RowKit
section
variable {C : Ctx} {sl : List (Nat × SV)} {own : Owns} {G : Hp}
theorem quiet_indexA {T e : TypeId} {x ix : Operand} {te : TI} {len sz by' : Nat} {ze : List Value} {fl : List (Nat × Nat × Bool)} {b off : Nat} {k : IntKind} {n : Int} {y : SV}
    (hT : C.ty T = some ⟨.arr len e, sz, by', ze, fl⟩) (he : C.ty e = some te) (hx : ev sl x = some y) (hy : y.den = .pointer (some ⟨b, off, none⟩)) (hi : ev sl ix = some (.v (.int k n))) (h0 : 0 ≤ n) (h1 : n < (len : Int)) :
    Quiet C sl own G (.indexAddr T x ix) (.pointer (some ⟨b, off + n.toNat * te.size, none⟩)) := by
  intro a w d t pos aft g hs hh
  have hxv := ev_ok hs hx
  have hiv := ev_ok hs hi
  rw [hy] at hxv
  simp only [SV.den] at hiv
  have g1 := (C.tyok _ _ hT).k
  simp only [TK.fits] at g1
  simp only [execOp, hxv, hiv]
  rw [Sem.run_bind, indexAt_array g1 (C.tyok _ _ he) h0 h1]
  simp
end
end Go.Sx
namespace Go.Sx
set_option linter.unusedSimpArgs false
set_option linter.unusedVariables false
open Go.RowKit

abbrev MEs := List (Int × Value × Nat)
def mEnt (kd : IntKind) (x : Int × Value × Nat) : MapEntry := ⟨.int kd x.1, x.2.1, x.2.2⟩
def mObj (kd : IntKind) (l : MEs) (c : Nat) : Obj := .map (l.map (mEnt kd)).toArray c
def mget (k : Int) : MEs → Option Value
  | [] => none
  | x :: l => if x.1 = k then some x.2.1 else mget k l
def mput (k : Int) (v : Value) (c : Nat) : MEs → MEs
  | [] => [(k, v, c)]
  | x :: l => if x.1 = k then (k, v, x.2.2) :: l else x :: mput k v c l
def mclk (k : Int) (c : Nat) (l : MEs) : Nat := if (mget k l).isSome then c else c + 1

theorem findNow_none {q kd : IntKind} {k : Int} : ∀ {l : MEs} (i : Nat), mget k l = none → Instr.findNow (.int q) (.int kd k) (l.map (mEnt kd)) i = some none
  | [], i, _ => by simp [Instr.findNow]
  | x :: l, i, h => by
    simp only [mget] at h
    split at h
    · cases h
    · rename_i hne
      have : (k == x.1) = false := by simp; omega
      simp only [List.map_cons, Instr.findNow, mEnt, Instr.sameNow, if_true, this]
      exact findNow_none (i + 1) h
theorem findNow_some {q kd : IntKind} {k : Int} {v : Value} : ∀ {l : MEs} (i : Nat), mget k l = some v → ∃ j b, Instr.findNow (.int q) (.int kd k) (l.map (mEnt kd)) i = some (some (i + j, v)) ∧ l[j]? = some (k, v, b) ∧ ∀ v' c, mput k v' c l = l.modify j fun x => (k, v', x.2.2)
  | [], i, h => by simp [mget] at h
  | x :: l, i, h => by
    simp only [mget] at h
    split at h
    · rename_i he
      cases h
      refine ⟨0, x.2.2, ?_, ?_, fun v' c => ?_⟩
      · have : (k == x.1) = true := by simp [he]
        simp only [List.map_cons, Instr.findNow, mEnt, Instr.sameNow, if_true, this, Nat.add_zero]
      · simp [← he]
      · simp [mput, he]
    · rename_i hne
      obtain ⟨j, b, h1, h2, h3⟩ := findNow_some (l := l) (q := q) (kd := kd) (i + 1) h
      refine ⟨j + 1, b, ?_, by simpa using h2, fun v' c => ?_⟩
      · have : (k == x.1) = false := by simp; omega
        simp only [List.map_cons, Instr.findNow, mEnt, Instr.sameNow, if_true, this]
        rw [show i + (j + 1) = i + 1 + j by omega]
        exact h1
      · simp [mput, hne, h3 v' c]

section
variable {P : Program} {w : World} {q kd : IntKind} {K E T : TypeId} {b c : Nat} {l : MEs} {z : Value} {k : Int}
theorem run_checkKey' (hK : P.underlying K = some (.int q)) (e : Bool) (d : Nat) (k : Int) : (Instr.checkKey e (d + 1) K (.int kd k)).run P w = .ok () w := by
  simp only [Instr.checkKey, Sem.run_bind, run_und w hK, Result.andThen_ok]
  simp
theorem run_checkKey (hK : P.underlying K = some (.int q)) (e : Bool) (k : Int) : (Instr.checkKey e 10000 K (.int kd k)).run P w = .ok () w := run_checkKey' hK e 9999 k
theorem run_mlookup (hT : P.underlying T = some (.map K E)) (hK : P.underlying K = some (.int q)) (hz : ∃ x, P.info? E = some x ∧ x.zero = some z) (hb : w.heap[b]? = some (mObj kd l c)) (k : Int) (ok : Bool) :
    (Instr.lookup T (.map (some b)) (.int kd k) ok).run P w = .ok (if ok then .tuple #[(mget k l).getD z, .bool (mget k l).isSome] else (mget k l).getD z) w := by
  obtain ⟨x, hx1, hx2⟩ := hz
  have hz' : (zeroValue E).run P w = .ok z w := by simp [zeroValue, typeInfo, hx1, hx2]
  simp only [Instr.lookup, Sem.run_bind, run_und w hT, Result.andThen_ok, Go.MapKept.run_getObj_map (show w.heap[b]? = some (.map (l.map (mEnt kd)).toArray c) from hb), Sem.run_pure, run_checkKey hK, Instr.findKey, run_und w hK]
  cases hm : mget k l with
  | none =>
    simp only [findNow_none (q := q) (kd := kd) 0 hm, Sem.run_pure, Result.andThen_ok, Sem.run_bind, hz']
    cases ok <;> simp
  | some v =>
    obtain ⟨j, b', h1, _, _⟩ := findNow_some (q := q) (kd := kd) 0 hm
    simp only [h1, Sem.run_pure, Result.andThen_ok]
    cases ok <;> simp
theorem mEnt_modify (l : MEs) (j : Nat) (k : Int) (v : Value) : (l.map (mEnt kd)).toArray.modify j (fun e => { e with key := .int kd k, val := v }) = ((l.modify j fun x => (k, v, x.2.2)).map (mEnt kd)).toArray := by
  apply Array.ext'
  simp only [Array.toList_modify]
  apply List.ext_getElem?
  intro i
  simp only [List.getElem?_modify, List.getElem?_map]
  by_cases h : j = i
  · subst h; cases l[j]? <;> simp [mEnt]
  · simp [h]
theorem mput_none {v : Value} : ∀ {l : MEs}, mget k l = none → mput k v c l = l ++ [(k, v, c)]
  | [], _ => rfl
  | x :: l, h => by
    simp only [mget] at h
    split at h
    · cases h
    · rename_i hne; simp [mput, hne, mput_none h]
theorem run_mupdate (hT : P.underlying T = some (.map K E)) (hK : P.underlying K = some (.int q)) (hb : w.heap[b]? = some (mObj kd l c)) (k : Int) (v : Value) :
    (Instr.mapUpdate T (.map (some b)) (.int kd k) v).run P w = .ok () (setBlk w b (mObj kd (mput k v c l) (mclk k c l))) := by
  have hb' : w.heap[b]? = some (.map (l.map (mEnt kd)).toArray c) := hb
  simp only [Instr.mapUpdate, Sem.run_bind, run_und w hT, Result.andThen_ok, Go.MapKept.run_getObj_map hb', run_checkKey hK, Instr.findKey, run_und w hK]
  cases hm : mget k l with
  | none =>
    simp only [findNow_none (q := q) (kd := kd) 0 hm, Sem.run_pure, Result.andThen_ok, Go.MapKept.run_setObj_map _ hb', mclk, hm, Option.isSome_none, Bool.false_eq_true, if_false, mput_none hm]
    simp [setBlk, mObj, mEnt]
  | some v0 =>
    obtain ⟨j, b', h1, h2, h3⟩ := findNow_some (q := q) (kd := kd) 0 hm
    have hkey : (((l.map (mEnt kd)).toArray[0 + j]?).map (·.key)).getD (.int kd k) = .int kd k := by
      rw [Nat.zero_add]; simp [h2, mEnt]
    have hsb : Instr.sameBits 10000 (.int kd k) (.int kd k) = true := by simp [Instr.sameBits]
    simp only [h1, Sem.run_pure, Result.andThen_ok, Sem.run_bind, hkey, Instr.keyThatStays, hsb, if_true, Go.MapKept.run_setObj_map _ hb', mclk, hm, Option.isSome_some, h3]
    rw [Nat.zero_add, mEnt_modify]
    rfl
end

section
variable {C : Ctx} {K : List KI} {s : St} {sl : List (Nat × SV)} {own : Owns} {G : Hp} {R : Array Oper} {l : List Oper} {d : Option Tmp} {t : TypeId} {pos : String} {aft : Array Edge} {sz by' sz2 by2 : Nat} {ze ze2 : List Value} {fl fl2 : List (Nat × Nat × Bool)} {q kd : IntKind} {T KT E : TypeId} {x i : Operand} {b b' c : Nat} {es : MEs} {n : Int} {z : Value}
theorem quiet_lookupG {ok : Bool} (hT : C.ty T = some ⟨.map KT E, sz, by', ze, fl⟩) (hK : C.ty KT = some ⟨.int q, sz2, by2, ze2, fl2⟩) (hz : ∃ x, C.P.info? E = some x ∧ x.zero = some z) (hx : ev sl x = some (.v (.map (some b)))) (hi : ev sl i = some (.v (.int kd n))) (hk : G b = some (mObj kd es c)) :
    Quiet C sl own G (.lookup T x i ok) (if ok then .tuple #[(mget n es).getD z, .bool (mget n es).isSome] else (mget n es).getD z) := by
  intro a w d t pos aft g hs hh
  have hxv := ev_ok hs hx
  have hiv := ev_ok hs hi
  simp only [SV.den] at hxv hiv
  have h1 := (C.tyok _ _ hT).k
  have h2 := (C.tyok _ _ hK).k
  simp only [TK.fits] at h1 h2
  have hb := hh.2 _ _ hk
  simp only [execOp, hxv, hiv, Sem.run_bind, run_mlookup h1 h2 hz hb, Result.andThen_ok, Sem.run_pure]
theorem go_mupd (k : Nat) {y : Operand} {v : SV} {op : Op} (hop : op = .mapUpdate T x i y ∨ op = .insert T x i y) (hd : dOk C.nt d = true) (hT : C.ty T = some ⟨.map KT E, sz, by', ze, fl⟩) (hK : C.ty KT = some ⟨.int q, sz2, by2, ze2, fl2⟩) (hx : ev s.sl x = some (.v (.map (some b)))) (hi : ev s.sl i = some (.v (.int kd n))) (hy : ev s.sl y = some v) (hk : lk k s.own = some (b, .o (mObj kd es c)))
    (h : SGo C (.ops R l :: K) ⟨putS d (.v undef) s.sl, stk k (b, .o (mObj kd (mput n v.den c es) (mclk n c es))) s.own, s.G, s.df⟩) : SGo C (.ops R (⟨d, op, t, pos, aft, none⟩ :: l) :: K) s := by
  intro a w hS
  have hxv := ev_ok hS.sl hx
  have hiv := ev_ok hS.sl hi
  have hyv := ev_ok hS.sl hy
  simp only [SV.den] at hxv hiv
  have h1 := (C.tyok _ _ hT).k
  have h2 := (C.tyok _ _ hK).k
  simp only [TK.fits] at h1 h2
  have hb := (hS.mem.own _ _ _ hk).1
  simp only [OO.holds] at hb
  have hrun : (execOp a.eval ⟨d, op, t, pos, aft, none⟩).run C.P w = .ok .skip (setBlk w b (mObj kd (mput n v.den c es) (mclk n c es))) := by
    rcases hop with rfl | rfl <;> simp only [execOp, hxv, hiv, hyv, Sem.run_bind, run_mupdate h1 h2 hb, Result.andThen_ok, Sem.run_pure]
  refine K_skip rfl hrun ?_
  have hlt := lt_of_heap hb
  have hm : Mem C (stk k (b, .o (mObj kd (mput n v.den c es) (mclk n c es))) s.own) s.G (setBlk w b (mObj kd (mput n v.den c es) (mclk n c es))) :=
    hS.mem.put hk rfl rfl rfl (by rw [setBlk_size]; exact Nat.le_refl _) (fun j _ hj => setBlk_ne (fun e => hj e) _) (setBlk_same hlt _) (fun g => ⟨.inl, .inl⟩)
  have hS' := hS.put hd (.v undef) hm
  simp only [SV.den] at hS'
  exact h _ _ hS'
theorem go_mkmap (k : Nat) (kd : IntKind) (hd : dOk C.nt d = true) (hk : lk k s.own = none) (hmh : C.mh ≤ k)
    (h : ∀ g, SGo C (.ops R l :: K) ⟨putS d (.v (.map (some g))) s.sl, stk k (g, .o (mObj kd [] 0)) s.own, s.G, s.df⟩) : SGo C (.ops R (⟨d, .makeMap T none, t, pos, aft, none⟩ :: l) :: K) s := by
  intro a w hS
  have hrun : (execOp a.eval ⟨d, .makeMap T none, t, pos, aft, none⟩).run C.P w = .ok (.value (.map (some w.heap.size))) (w.alloc (.map #[] 0)) := by
    simp [execOp, Instr.makeMap]
  refine K_value rfl hrun ?_
  have hm : Mem C (stk k (w.heap.size, .o (mObj kd [] 0)) s.own) s.G (w.alloc (.map #[] 0)) :=
    hS.mem.new hk hmh rfl rfl rfl (by simp) (fun j hj => alloc_old w _ hj) (alloc_new w _) (fun g hg => by simp only [OO.blks] at hg; omega)
  have hS' := hS.put hd (.v (.map (some w.heap.size))) hm
  simp only [SV.den] at hS'
  exact h _ _ _ hS'
end
end Go.Sx
namespace Go.Proofs.YthocgjchmpkhoaaDoor
set_option linter.unusedSimpArgs false
set_option linter.unusedVariables false
open Go.Sx

def tyL : List (Nat × TI) := [
  (3, ⟨.int .i64, 1, 8, [.int .i64 0], []⟩),
  (2, ⟨.int .i64, 1, 8, [.int .i64 0], []⟩),
  (4, ⟨.bool, 1, 1, [.bool false], []⟩),
  (22, ⟨.int .i64, 1, 8, [.int .i64 0], []⟩),
  (37, ⟨.int .i64, 1, 8, [.int .i64 0], []⟩),
  (61, ⟨.int .i64, 1, 8, [.int .i64 0], []⟩),
  (23, ⟨.slice 25, 1, 24, [.slice none 0 0], []⟩),
  (25, ⟨.strct, 3, 40, [.int .i64 0, .int .i64 0, .slice none 0 0], [(0, 1, false), (1, 1, false), (2, 1, false)]⟩),
  (41, ⟨.slice 3, 1, 24, [.slice none 0 0], []⟩),
  (43, ⟨.strct, 2, 32, [.int .i64 0, .slice none 0 0], [(0, 1, false), (1, 1, false)]⟩),
  (54, ⟨.slice 43, 1, 24, [.slice none 0 0], []⟩),
  (56, ⟨.strct, 7, 104, [.int .i64 0, .int .i64 0, .int .i64 0, .int .i64 0, .slice none 0 0, .slice none 0 0, .slice none 0 0], [(0, 1, false), (1, 1, false), (2, 3, true), (5, 1, false), (6, 1, false)]⟩),
  (32, ⟨.slice 56, 1, 24, [.slice none 0 0], []⟩),
  (79, ⟨.strct, 5, 88, [.int .i64 0, .int .i64 0, .slice none 0 0, .slice none 0 0, .slice none 0 0], [(0, 3, true), (3, 1, false), (4, 1, false)]⟩),
  (72, ⟨.slice 79, 1, 24, [.slice none 0 0], []⟩),
  (74, ⟨.strct, 4, 80, [.int .i64 0, .slice none 0 0, .slice none 0 0, .slice none 0 0], [(0, 1, false), (1, 1, false), (2, 1, false), (3, 1, false)]⟩),
  (36, ⟨.ptr 74, 1, 8, [.pointer none], []⟩),
  (81, ⟨.strct, 5, 88, [.int .i64 0, .int .i64 0, .slice none 0 0, .slice none 0 0, .slice none 0 0], [(0, 3, true), (3, 1, false), (4, 1, false)]⟩),
  (40, ⟨.slice 81, 1, 24, [.slice none 0 0], []⟩),
  (45, ⟨.strct, 6, 112, [.int .i64 0, .slice none 0 0, .slice none 0 0, .slice none 0 0, .int .i64 0, .slice none 0 0], [(0, 1, false), (1, 1, false), (2, 1, false), (3, 1, false), (4, 2, true)]⟩),
  (28, ⟨.strct, 5, 56, [.int .i64 0, .int .i64 0, .int .i64 0, .int .i64 0, .slice none 0 0], [(0, 1, false), (1, 1, false), (2, 3, true)]⟩),
  (26, ⟨.slice 28, 1, 24, [.slice none 0 0], []⟩),
  (111, ⟨.arr 3 3, 3, 24, [.int .i64 0, .int .i64 0, .int .i64 0], []⟩),
  (20, ⟨.iface, 1, 16, [.nilIface], []⟩),
  (91, ⟨.map 22 89, 1, 8, [.map none], []⟩),
  (89, ⟨.func, 1, 8, [.nilFunc], []⟩),
  (1, ⟨.func, 1, 8, [.nilFunc], []⟩),
  (52, ⟨.func, 1, 8, [.nilFunc], []⟩),
  (84, ⟨.func, 1, 8, [.nilFunc], []⟩),
  (77, ⟨.func, 1, 8, [.nilFunc], []⟩),
  (85, ⟨.func, 1, 8, [.nilFunc], []⟩),
  (108, ⟨.func, 1, 8, [.nilFunc], []⟩),
  (106, ⟨.func, 1, 8, [.nilFunc], []⟩),
  (94, ⟨.strct, 0, 0, [], []⟩)]

def ty (T : TypeId) : Option TI := lk T tyL

theorem tyE : ty 3 = some ⟨.int .i64, 1, 8, [.int .i64 0], []⟩ ∧ ty 2 = some ⟨.int .i64, 1, 8, [.int .i64 0], []⟩ ∧ ty 4 = some ⟨.bool, 1, 1, [.bool false], []⟩ ∧ ty 22 = some ⟨.int .i64, 1, 8, [.int .i64 0], []⟩ ∧ ty 37 = some ⟨.int .i64, 1, 8, [.int .i64 0], []⟩ ∧ ty 61 = some ⟨.int .i64, 1, 8, [.int .i64 0], []⟩ ∧ ty 23 = some ⟨.slice 25, 1, 24, [.slice none 0 0], []⟩ ∧ ty 25 = some ⟨.strct, 3, 40, [.int .i64 0, .int .i64 0, .slice none 0 0], [(0, 1, false), (1, 1, false), (2, 1, false)]⟩ ∧ ty 41 = some ⟨.slice 3, 1, 24, [.slice none 0 0], []⟩ ∧ ty 43 = some ⟨.strct, 2, 32, [.int .i64 0, .slice none 0 0], [(0, 1, false), (1, 1, false)]⟩ ∧ ty 54 = some ⟨.slice 43, 1, 24, [.slice none 0 0], []⟩ ∧ ty 56 = some ⟨.strct, 7, 104, [.int .i64 0, .int .i64 0, .int .i64 0, .int .i64 0, .slice none 0 0, .slice none 0 0, .slice none 0 0], [(0, 1, false), (1, 1, false), (2, 3, true), (5, 1, false), (6, 1, false)]⟩ ∧ ty 32 = some ⟨.slice 56, 1, 24, [.slice none 0 0], []⟩ ∧ ty 79 = some ⟨.strct, 5, 88, [.int .i64 0, .int .i64 0, .slice none 0 0, .slice none 0 0, .slice none 0 0], [(0, 3, true), (3, 1, false), (4, 1, false)]⟩ ∧ ty 72 = some ⟨.slice 79, 1, 24, [.slice none 0 0], []⟩ ∧ ty 74 = some ⟨.strct, 4, 80, [.int .i64 0, .slice none 0 0, .slice none 0 0, .slice none 0 0], [(0, 1, false), (1, 1, false), (2, 1, false), (3, 1, false)]⟩ ∧ ty 36 = some ⟨.ptr 74, 1, 8, [.pointer none], []⟩ ∧ ty 81 = some ⟨.strct, 5, 88, [.int .i64 0, .int .i64 0, .slice none 0 0, .slice none 0 0, .slice none 0 0], [(0, 3, true), (3, 1, false), (4, 1, false)]⟩ ∧ ty 40 = some ⟨.slice 81, 1, 24, [.slice none 0 0], []⟩ ∧ ty 45 = some ⟨.strct, 6, 112, [.int .i64 0, .slice none 0 0, .slice none 0 0, .slice none 0 0, .int .i64 0, .slice none 0 0], [(0, 1, false), (1, 1, false), (2, 1, false), (3, 1, false), (4, 2, true)]⟩ ∧ ty 28 = some ⟨.strct, 5, 56, [.int .i64 0, .int .i64 0, .int .i64 0, .int .i64 0, .slice none 0 0], [(0, 1, false), (1, 1, false), (2, 3, true)]⟩ ∧ ty 26 = some ⟨.slice 28, 1, 24, [.slice none 0 0], []⟩ ∧ ty 111 = some ⟨.arr 3 3, 3, 24, [.int .i64 0, .int .i64 0, .int .i64 0], []⟩ ∧ ty 20 = some ⟨.iface, 1, 16, [.nilIface], []⟩ ∧ ty 91 = some ⟨.map 22 89, 1, 8, [.map none], []⟩ ∧ ty 89 = some ⟨.func, 1, 8, [.nilFunc], []⟩ ∧ ty 1 = some ⟨.func, 1, 8, [.nilFunc], []⟩ ∧ ty 52 = some ⟨.func, 1, 8, [.nilFunc], []⟩ ∧ ty 84 = some ⟨.func, 1, 8, [.nilFunc], []⟩ ∧ ty 77 = some ⟨.func, 1, 8, [.nilFunc], []⟩ ∧ ty 85 = some ⟨.func, 1, 8, [.nilFunc], []⟩ ∧ ty 108 = some ⟨.func, 1, 8, [.nilFunc], []⟩ ∧ ty 106 = some ⟨.func, 1, 8, [.nilFunc], []⟩ ∧ ty 94 = some ⟨.strct, 0, 0, [], []⟩ := ⟨rfl, rfl, rfl, rfl, rfl, rfl, rfl, rfl, rfl, rfl, rfl, rfl, rfl, rfl, rfl, rfl, rfl, rfl, rfl, rfl, rfl, rfl, rfl, rfl, rfl, rfl, rfl, rfl, rfl, rfl, rfl, rfl, rfl, rfl⟩

theorem lk_memT {α : Type} {i : Nat} {x : α} : ∀ {l : List (Nat × α)}, lk i l = some x → (i, x) ∈ l
  | [], h => by simp [lk] at h
  | y :: l, h => by
    simp only [lk] at h
    split at h
    · rename_i e; cases h; subst e; simp
    · exact List.mem_cons_of_mem _ (lk_memT h)

theorem tyok : ∀ T i, ty T = some i → i.ok Tryd.prog T := by
  intro T i h
  have key : ∀ x ∈ tyL, TI.ok Tryd.prog x.1 x.2 := by
    unfold tyL
    refine List.forall_mem_cons.2 ⟨⟨⟨_, _, (by kernel_rfl : Tryd.prog.info? 3 = some Tryd.t3), rfl, rfl, rfl, rfl⟩, rfl, Tryd.underlying3⟩, ?_⟩
    refine List.forall_mem_cons.2 ⟨⟨⟨_, _, (by kernel_rfl : Tryd.prog.info? 2 = some Tryd.t2), rfl, rfl, rfl, rfl⟩, rfl, Tryd.underlying2⟩, ?_⟩
    refine List.forall_mem_cons.2 ⟨⟨⟨_, _, (by kernel_rfl : Tryd.prog.info? 4 = some Tryd.t4), rfl, rfl, rfl, rfl⟩, rfl, Tryd.underlying4⟩, ?_⟩
    refine List.forall_mem_cons.2 ⟨⟨⟨_, _, (by kernel_rfl : Tryd.prog.info? 22 = some Tryd.t22), rfl, rfl, rfl, rfl⟩, rfl, Tryd.underlying22⟩, ?_⟩
    refine List.forall_mem_cons.2 ⟨⟨⟨_, _, (by kernel_rfl : Tryd.prog.info? 37 = some Tryd.t37), rfl, rfl, rfl, rfl⟩, rfl, Tryd.underlying37⟩, ?_⟩
    refine List.forall_mem_cons.2 ⟨⟨⟨_, _, (by kernel_rfl : Tryd.prog.info? 61 = some Tryd.t61), rfl, rfl, rfl, rfl⟩, rfl, Tryd.underlying61⟩, ?_⟩
    refine List.forall_mem_cons.2 ⟨⟨⟨_, _, (by kernel_rfl : Tryd.prog.info? 23 = some Tryd.t23), rfl, rfl, rfl, rfl⟩, rfl, Tryd.underlying23⟩, ?_⟩
    refine List.forall_mem_cons.2 ⟨⟨⟨_, _, (by kernel_rfl : Tryd.prog.info? 25 = some Tryd.t25), rfl, rfl, rfl, rfl⟩, rfl, ⟨_, Tryd.underlying25, (by kernel_rfl)⟩⟩, ?_⟩
    refine List.forall_mem_cons.2 ⟨⟨⟨_, _, (by kernel_rfl : Tryd.prog.info? 41 = some Tryd.t41), rfl, rfl, rfl, rfl⟩, rfl, Tryd.underlying41⟩, ?_⟩
    refine List.forall_mem_cons.2 ⟨⟨⟨_, _, (by kernel_rfl : Tryd.prog.info? 43 = some Tryd.t43), rfl, rfl, rfl, rfl⟩, rfl, ⟨_, Tryd.underlying43, (by kernel_rfl)⟩⟩, ?_⟩
    refine List.forall_mem_cons.2 ⟨⟨⟨_, _, (by kernel_rfl : Tryd.prog.info? 54 = some Tryd.t54), rfl, rfl, rfl, rfl⟩, rfl, Tryd.underlying54⟩, ?_⟩
    refine List.forall_mem_cons.2 ⟨⟨⟨_, _, (by kernel_rfl : Tryd.prog.info? 56 = some Tryd.t56), rfl, rfl, rfl, rfl⟩, rfl, ⟨_, Tryd.underlying56, (by kernel_rfl)⟩⟩, ?_⟩
    refine List.forall_mem_cons.2 ⟨⟨⟨_, _, (by kernel_rfl : Tryd.prog.info? 32 = some Tryd.t32), rfl, rfl, rfl, rfl⟩, rfl, Tryd.underlying32⟩, ?_⟩
    refine List.forall_mem_cons.2 ⟨⟨⟨_, _, (by kernel_rfl : Tryd.prog.info? 79 = some Tryd.t79), rfl, rfl, rfl, rfl⟩, rfl, ⟨_, Tryd.underlying79, (by kernel_rfl)⟩⟩, ?_⟩
    refine List.forall_mem_cons.2 ⟨⟨⟨_, _, (by kernel_rfl : Tryd.prog.info? 72 = some Tryd.t72), rfl, rfl, rfl, rfl⟩, rfl, Tryd.underlying72⟩, ?_⟩
    refine List.forall_mem_cons.2 ⟨⟨⟨_, _, (by kernel_rfl : Tryd.prog.info? 74 = some Tryd.t74), rfl, rfl, rfl, rfl⟩, rfl, ⟨_, Tryd.underlying74, (by kernel_rfl)⟩⟩, ?_⟩
    refine List.forall_mem_cons.2 ⟨⟨⟨_, _, (by kernel_rfl : Tryd.prog.info? 36 = some Tryd.t36), rfl, rfl, rfl, rfl⟩, rfl, Tryd.underlying36⟩, ?_⟩
    refine List.forall_mem_cons.2 ⟨⟨⟨_, _, (by kernel_rfl : Tryd.prog.info? 81 = some Tryd.t81), rfl, rfl, rfl, rfl⟩, rfl, ⟨_, Tryd.underlying81, (by kernel_rfl)⟩⟩, ?_⟩
    refine List.forall_mem_cons.2 ⟨⟨⟨_, _, (by kernel_rfl : Tryd.prog.info? 40 = some Tryd.t40), rfl, rfl, rfl, rfl⟩, rfl, Tryd.underlying40⟩, ?_⟩
    refine List.forall_mem_cons.2 ⟨⟨⟨_, _, (by kernel_rfl : Tryd.prog.info? 45 = some Tryd.t45), rfl, rfl, rfl, rfl⟩, rfl, ⟨_, Tryd.underlying45, (by kernel_rfl)⟩⟩, ?_⟩
    refine List.forall_mem_cons.2 ⟨⟨⟨_, _, (by kernel_rfl : Tryd.prog.info? 28 = some Tryd.t28), rfl, rfl, rfl, rfl⟩, rfl, ⟨_, Tryd.underlying28, (by kernel_rfl)⟩⟩, ?_⟩
    refine List.forall_mem_cons.2 ⟨⟨⟨_, _, (by kernel_rfl : Tryd.prog.info? 26 = some Tryd.t26), rfl, rfl, rfl, rfl⟩, rfl, Tryd.underlying26⟩, ?_⟩
    refine List.forall_mem_cons.2 ⟨⟨⟨_, _, (by kernel_rfl : Tryd.prog.info? 111 = some Tryd.t111), rfl, rfl, rfl, rfl⟩, rfl, Tryd.underlying111⟩, ?_⟩
    refine List.forall_mem_cons.2 ⟨⟨⟨_, _, (by kernel_rfl : Tryd.prog.info? 20 = some Tryd.t20), rfl, rfl, rfl, rfl⟩, rfl, ⟨_, Tryd.underlying20⟩⟩, ?_⟩
    refine List.forall_mem_cons.2 ⟨⟨⟨_, _, (by kernel_rfl : Tryd.prog.info? 91 = some Tryd.t91), rfl, rfl, rfl, rfl⟩, rfl, Tryd.underlying91⟩, ?_⟩
    refine List.forall_mem_cons.2 ⟨⟨⟨_, _, (by kernel_rfl : Tryd.prog.info? 89 = some Tryd.t89), rfl, rfl, rfl, rfl⟩, rfl, ⟨_, _, _, Tryd.underlying89⟩⟩, ?_⟩
    refine List.forall_mem_cons.2 ⟨⟨⟨_, _, (by kernel_rfl : Tryd.prog.info? 1 = some Tryd.t1), rfl, rfl, rfl, rfl⟩, rfl, ⟨_, _, _, Tryd.underlying1⟩⟩, ?_⟩
    refine List.forall_mem_cons.2 ⟨⟨⟨_, _, (by kernel_rfl : Tryd.prog.info? 52 = some Tryd.t52), rfl, rfl, rfl, rfl⟩, rfl, ⟨_, _, _, Tryd.underlying52⟩⟩, ?_⟩
    refine List.forall_mem_cons.2 ⟨⟨⟨_, _, (by kernel_rfl : Tryd.prog.info? 84 = some Tryd.t84), rfl, rfl, rfl, rfl⟩, rfl, ⟨_, _, _, Tryd.underlying84⟩⟩, ?_⟩
    refine List.forall_mem_cons.2 ⟨⟨⟨_, _, (by kernel_rfl : Tryd.prog.info? 77 = some Tryd.t77), rfl, rfl, rfl, rfl⟩, rfl, ⟨_, _, _, Tryd.underlying77⟩⟩, ?_⟩
    refine List.forall_mem_cons.2 ⟨⟨⟨_, _, (by kernel_rfl : Tryd.prog.info? 85 = some Tryd.t85), rfl, rfl, rfl, rfl⟩, rfl, ⟨_, _, _, Tryd.underlying85⟩⟩, ?_⟩
    refine List.forall_mem_cons.2 ⟨⟨⟨_, _, (by kernel_rfl : Tryd.prog.info? 108 = some Tryd.t108), rfl, rfl, rfl, rfl⟩, rfl, ⟨_, _, _, Tryd.underlying108⟩⟩, ?_⟩
    refine List.forall_mem_cons.2 ⟨⟨⟨_, _, (by kernel_rfl : Tryd.prog.info? 106 = some Tryd.t106), rfl, rfl, rfl, rfl⟩, rfl, ⟨_, _, _, Tryd.underlying106⟩⟩, ?_⟩
    refine List.forall_mem_cons.2 ⟨⟨⟨_, _, (by kernel_rfl : Tryd.prog.info? 94 = some Tryd.t94), rfl, rfl, rfl, rfl⟩, rfl, ⟨_, Tryd.underlying94, (by kernel_rfl)⟩⟩, ?_⟩
    exact fun _ h => absurd h List.not_mem_nil
  exact key _ (lk_memT h)

theorem wr {n : Int} (h1 : -9223372036854775808 ≤ n) (h2 : n ≤ 9223372036854775807) : IntKind.i64.wrap n = n := Go.IntWalk.i64_in n ⟨h1, h2⟩
end Go.Proofs.YthocgjchmpkhoaaDoor
namespace Go.Proofs.YthocgjchmpkhoaaDoor
set_option linter.unusedSimpArgs false
set_option linter.unusedVariables false
open Go.Sx

mutual
def cnt : VT → Int → Int
  | .mk _ _ l, n => cntL l (n + 1)
def cntL : List VT → Int → Int
  | [], n => n
  | x :: l, n => if n > 256 then n else cntL l (cnt x n)
end

mutual
theorem cnt_bd : ∀ (x : VT) (n : Int), 0 ≤ n → n ≤ 256 → 0 ≤ cnt x n ∧ cnt x n ≤ 257
  | .mk _ _ l, n, h0, h1 => by simp only [cnt]; exact cntL_bd l (n + 1) (by omega) (by omega)
theorem cntL_bd : ∀ (l : List VT) (n : Int), 0 ≤ n → n ≤ 257 → 0 ≤ cntL l n ∧ cntL l n ≤ 257
  | [], n, h0, h1 => by simp only [cntL]; omega
  | x :: l, n, h0, h1 => by
    simp only [cntL]
    split
    · omega
    · have := cnt_bd x n h0 (by omega)
      exact cntL_bd l _ this.1 this.2
end

set_option maxHeartbeats 1000000 in
theorem count_ok (x : VT) : ∀ (sl : Value) (n : Int) (G : Hp) (hr : x.rep G sl) (h0 : 0 ≤ n) (h1 : n ≤ 256), Pure Tryd.prog 71 [.agg #[.int .i64 x.k, .int .i64 x.n, sl], .int .i64 n] G (fun r _ => r = .int .i64 (cnt x n)) := by
  induction x using VT.ind with
  | h k m l IH =>
  intro sl n G hr h0 h1
  refine enterX ty tyok Tryd.func71 rfl Tryd.ntmps71 [.a [.v (.int .i64 k), .v (.int .i64 m), .v sl], .v (.int .i64 n)] (by simp) ?_
  intro C hP hQ hnt hty hmb hmh hro; have hQp := qp_body hQ; refine st_ ?_
  rw [rep_iff] at hr
  obtain ⟨hk, hm, hl, ad, cap, rfl, hr⟩ := hr
  refine rn_ ?_; intros
  rw [wr (by omega) (by omega)]
  refine go_keep [1, 10, 11, 12] [] ?_
  refine st_ ?_
  refine x_loop rfl (fun q s => ∃ (j : Nat) (nj : Int) (G' : Hp), j ≤ l.length ∧ q = l.length - j ∧ Le G G' ∧ cntL l (n + 1) = cntL (l.drop j) nj ∧ 0 ≤ nj ∧ nj ≤ 257 ∧
    s = ⟨[(1, .v (.int .i64 nj)), (10, .v (.slice ad l.length cap)), (11, .v (.int .i64 l.length)), (12, .v (.int .i64 j))], [], G', []⟩) ⟨0, n + 1, G, by omega, rfl, Le.refl _, by simp, by omega, by omega, rfl⟩ ?_
  rintro q s ⟨j, nj, G', hj, hq, hle, hc, hn0, hn1, rfl⟩ ih
  refine rn_ ?_; intros
  refine x_if rfl rfl rfl rfl (fun ht => ?_) (fun ht => ?_)
  · have hlt : j < l.length := by simpa using ht
    rcases hr with rfl | ⟨b, off, cs, rfl, ha, hrV⟩
    · simp at hlt
    obtain ⟨adx, capx, hat, hrx⟩ := At_get ha hrV hlt
    have hdrop : l.drop j = l[j] :: l.drop (j + 1) := List.drop_eq_getElem_cons hlt
    refine rn_ ?_; intros
    refine go_q (by rw [hnt]; rfl) (quiet_index (by rw [hty]; rfl) (by rw [hty]; rfl) rfl rfl rfl (by omega) (by omega)) ?_
    refine go_q (by rw [hnt]; rfl) (quiet_load (by rw [hty]; rfl) rfl (by simp [TK.agg]) (hat.mono hle) rfl) ?_
    refine rn_ ?_; intros
    refine x_if rfl rfl rfl rfl (fun ht => ?_) (fun ht => ?_)
    · refine rn_ ?_; intros
      refine x_ret rfl hQ hmb (by rw [hty]; rfl) rfl ?_
      have : nj > 256 := by simpa using ht
      simp only [SV.den, resV, cnt, hc, hdrop, cntL, this, if_true]
    · have hle256 : nj ≤ 256 := by simpa using ht
      refine rn_ ?_; intros
      refine go_call (by rw [hnt]; rfl) (by rw [hP]; kernel_rfl) rfl (hP ▸ IH l[j] (List.getElem_mem hlt) _ nj G' (VT.rep_mono hle hrx) hn0 hle256) ?_
      rintro v G'' hle' rfl
      refine rn_ ?_; intros
      rw [wr (by omega) (by omega)]
      refine go_keep [1, 10, 11, 12] [] ?_
      refine st_ ?_
      have hb := cnt_bd l[j] nj hn0 hle256
      refine ih (l.length - (j + 1)) _ (by omega) ⟨j + 1, cnt l[j] nj, G'', by omega, rfl, hle.trans hle', ?_, hb.1, hb.2, by simp⟩
      rw [hc, hdrop]
      simp only [cntL, show ¬ nj > 256 by omega, if_false]
  · have hge : l.length ≤ j := by simpa using ht
    refine rn_ ?_; intros
    refine x_ret rfl hQ hmb (by rw [hty]; rfl) rfl ?_
    simp only [SV.den, resV, cnt, hc, List.drop_eq_nil_of_le hge, cntL]
end Go.Proofs.YthocgjchmpkhoaaDoor
namespace Go.Proofs.YthocgjchmpkhoaaDoor
set_option linter.unusedSimpArgs false
set_option linter.unusedVariables false
open Go.Sx

def evk (k : Int) : Bool := decide (5 ≤ k) && decide (k ≤ 13)

theorem event_ok (k : Int) (G : Hp) : Pure Tryd.prog 53 [.int .i64 k] G (fun r _ => r = .bool (evk k)) := by
  refine enterX ty tyok Tryd.func53 rfl Tryd.ntmps53 [.v (.int .i64 k)] (by simp) ?_
  intro C hP hQ hnt hty hmb hmh hro; have hQp := qp_body hQ; refine st_ ?_
  refine rn_ ?_; intros
  refine go_gsplit rfl rfl (fun hs => ?_) (fun hs => ?_) <;> (refine st_ ?_; (refine rn_ ?_; intros))
  all_goals (refine x_ret rfl hQ hmb (by rw [hty]; rfl) rfl ?_; simp only [SV.den, resV]; simp only [evk, hs, decide_true, decide_false, if_true, if_false, Bool.true_and, Bool.false_and, Bool.and_false, Bool.and_true, Bool.false_eq_true, Bool.true_eq_false, reduceIte])
theorem refevent_ok (k : Int) (G : Hp) : Pure Tryd.prog 58 [.int .i64 k] G (fun r _ => r = .bool (evk k)) := by
  refine enterX ty tyok Tryd.func58 rfl Tryd.ntmps58 [.v (.int .i64 k)] (by simp) ?_
  intro C hP hQ hnt hty hmb hmh hro; have hQp := qp_body hQ; refine st_ ?_
  refine rn_ ?_; intros
  refine go_gsplit rfl rfl (fun hs => ?_) (fun hs => ?_) <;> (refine st_ ?_; (refine rn_ ?_; intros))
  all_goals (refine x_ret rfl hQ hmb (by rw [hty]; rfl) rfl ?_; simp only [SV.den, resV]; simp only [evk, hs, decide_true, decide_false, if_true, if_false, Bool.true_and, Bool.false_and, Bool.and_false, Bool.and_true, Bool.false_eq_true, Bool.true_eq_false, reduceIte])

def hdk : List VT → Int
  | [] => 0
  | x :: _ => x.k
def shp : VT → Bool
  | .mk k n l =>
    if k == 1 then n == 0 && (l.length : Int) == 0
    else if k == 8 then n == 0 && (l.length : Int) == 0
    else if k == 2 then (l.length : Int) == 0
    else if k == 3 then n == 0 && (l.length : Int) == 2
    else if k == 4 then decide (0 ≤ n) && (l.length : Int) == 0
    else if k == 13 then decide (0 ≤ n) && (l.length : Int) == 0
    else if k == 5 then n == 0 && (l.length : Int) == 2 && hdk l == 4
    else if k == 6 then n == 0 && (l.length : Int) == 1 && hdk l == 4
    else if k == 7 then n == 0 && (l.length : Int) == 1
    else if k == 9 then l.all (fun y => evk y.k) && (n == 0 && decide ((l.length : Int) ≤ 16))
    else if k == 10 then decide (0 ≤ n) && decide (n ≤ 63) && decide (1 ≤ (l.length : Int)) && decide ((l.length : Int) ≤ 9) && evk (hdk l)
    else if k == 11 then decide (0 ≤ n) && decide (n ≤ 63) && decide ((l.length : Int) ≤ 8)
    else if k == 12 then decide (0 ≤ n) && decide (n ≤ 63) && decide ((l.length : Int) ≤ 8)
    else false

theorem hdk_get {l : List VT} (h : 0 < l.length) : hdk l = l[0].k := by
  cases l with
  | nil => simp at h
  | cons x l => rfl

set_option maxHeartbeats 4000000 in
theorem shaped_ok (x : VT) (sl : Value) (G : Hp) (hr : x.rep G sl) : Pure Tryd.prog 73 [.agg #[.int .i64 x.k, .int .i64 x.n, sl]] G (fun r _ => r = .bool (shp x)) := by
  obtain ⟨k, m, l⟩ := x
  refine enterX ty tyok Tryd.func73 rfl Tryd.ntmps73 [.a [.v (.int .i64 k), .v (.int .i64 m), .v sl]] (by simp) ?_
  intro C hP hQ hnt hty hmb hmh hro; have hQp := qp_body hQ; refine st_ ?_
  rw [rep_iff] at hr
  obtain ⟨hk, hm, hl, ad, cap, rfl, hr⟩ := hr
  refine rn_ ?_; intros
  refine go_keep [1, 3, 10, 11] [0] ?_
  refine x_split rfl rfl rfl (fun h1 => ?_) (fun h1 => ?_) <;> (refine st_ ?_; (refine ru_ ?_; intros))
  · refine go_gsplit rfl rfl (fun g1 => ?_) (fun g1 => ?_) <;> (refine st_ ?_; (refine rn_ ?_; intros))
    all_goals (refine x_ret rfl hQ hmb (by rw [hty]; rfl) rfl ?_; simp only [SV.den, resV]; simp only [shp, decide_true, decide_false, if_true, if_false, Bool.true_and, Bool.false_and, Bool.and_false, Bool.and_true, Bool.false_eq_true, Bool.true_eq_false, reduceIte, h1, g1])
  refine x_split rfl rfl rfl (fun h8 => ?_) (fun h8 => ?_) <;> (refine st_ ?_; (refine ru_ ?_; intros))
  · refine go_gsplit rfl rfl (fun g1 => ?_) (fun g1 => ?_) <;> (refine st_ ?_; (refine rn_ ?_; intros))
    all_goals (refine x_ret rfl hQ hmb (by rw [hty]; rfl) rfl ?_; simp only [SV.den, resV]; simp only [shp, decide_true, decide_false, if_true, if_false, Bool.true_and, Bool.false_and, Bool.and_false, Bool.and_true, Bool.false_eq_true, Bool.true_eq_false, reduceIte, h1, h8, g1])
  refine go_keep [1, 3, 10, 21] [0] ?_
  refine x_split rfl rfl rfl (fun h2 => ?_) (fun h2 => ?_) <;> (refine st_ ?_; (refine ru_ ?_; intros))
  · (refine x_ret rfl hQ hmb (by rw [hty]; rfl) rfl ?_; simp only [SV.den, resV]; simp only [shp, decide_true, decide_false, if_true, if_false, Bool.true_and, Bool.false_and, Bool.and_false, Bool.and_true, Bool.false_eq_true, Bool.true_eq_false, reduceIte, h1, h8, h2])
  refine go_keep [1, 3, 10, 25] [0] ?_
  refine x_split rfl rfl rfl (fun h3 => ?_) (fun h3 => ?_) <;> (refine st_ ?_; (refine ru_ ?_; intros))
  · refine go_gsplit rfl rfl (fun g1 => ?_) (fun g1 => ?_) <;> (refine st_ ?_; (refine rn_ ?_; intros))
    all_goals (refine x_ret rfl hQ hmb (by rw [hty]; rfl) rfl ?_; simp only [SV.den, resV]; simp only [shp, decide_true, decide_false, if_true, if_false, Bool.true_and, Bool.false_and, Bool.and_false, Bool.and_true, Bool.false_eq_true, Bool.true_eq_false, reduceIte, h1, h8, h2, h3, g1])
  refine go_keep [1, 3, 10, 34] [0] ?_
  refine x_split rfl rfl rfl (fun h4 => ?_) (fun h4 => ?_) <;> (refine st_ ?_; (refine ru_ ?_; intros))
  · refine go_gsplit rfl rfl (fun g1 => ?_) (fun g1 => ?_) <;> (refine st_ ?_; (refine rn_ ?_; intros))
    all_goals (refine x_ret rfl hQ hmb (by rw [hty]; rfl) rfl ?_; simp only [SV.den, resV]; simp only [shp, decide_true, decide_false, if_true, if_false, Bool.true_and, Bool.false_and, Bool.and_false, Bool.and_true, Bool.false_eq_true, Bool.true_eq_false, reduceIte, h1, h8, h2, h3, h4, g1])
  refine x_split rfl rfl rfl (fun h13 => ?_) (fun h13 => ?_) <;> (refine st_ ?_; (refine ru_ ?_; intros))
  · refine go_gsplit rfl rfl (fun g1 => ?_) (fun g1 => ?_) <;> (refine st_ ?_; (refine rn_ ?_; intros))
    all_goals (refine x_ret rfl hQ hmb (by rw [hty]; rfl) rfl ?_; simp only [SV.den, resV]; simp only [shp, decide_true, decide_false, if_true, if_false, Bool.true_and, Bool.false_and, Bool.and_false, Bool.and_true, Bool.false_eq_true, Bool.true_eq_false, reduceIte, h1, h8, h2, h3, h4, h13, g1])
  refine go_keep [1, 3, 10, 44] [0] ?_
  refine x_split rfl rfl rfl (fun h5 => ?_) (fun h5 => ?_) <;> (refine st_ ?_; (refine ru_ ?_; intros))
  · refine go_gsplit rfl rfl (fun g1 => ?_) (fun g1 => ?_) <;> (refine st_ ?_; (refine rn_ ?_; intros))
    · refine go_gsplit rfl rfl (fun g2 => ?_) (fun g2 => ?_) <;> (refine st_ ?_; (refine rn_ ?_; intros))
      · have hlen : l.length = 2 := by simp at g2; omega
        rcases hr with rfl | ⟨b, off, cs, rfl, ha, hrV⟩
        · simp at hlen
        have hat := At_kind ha hrV (i := 0) (by omega)
        rw [← hdk_get (by omega)] at hat
        refine go_q (by rw [hnt]; rfl) (quiet_index (by rw [hty]; rfl) (by rw [hty]; rfl) rfl rfl rfl (by omega) (by omega)) ?_
        refine rn_ ?_; intros
        refine go_q (by rw [hnt]; rfl) (quiet_load (by rw [hty]; rfl) rfl (by simp [TK.agg]) hat rfl) ?_
        refine rn_ ?_; intros
        (refine x_ret rfl hQ hmb (by rw [hty]; rfl) rfl ?_; simp only [SV.den, resV]; simp only [shp, decide_true, decide_false, if_true, if_false, Bool.true_and, Bool.false_and, Bool.and_false, Bool.and_true, Bool.false_eq_true, Bool.true_eq_false, reduceIte, h1, h8, h2, h3, h4, h13, h5, g1, g2])
      · (refine x_ret rfl hQ hmb (by rw [hty]; rfl) rfl ?_; simp only [SV.den, resV]; simp only [shp, decide_true, decide_false, if_true, if_false, Bool.true_and, Bool.false_and, Bool.and_false, Bool.and_true, Bool.false_eq_true, Bool.true_eq_false, reduceIte, h1, h8, h2, h3, h4, h13, h5, g1, g2])
    · (refine x_ret rfl hQ hmb (by rw [hty]; rfl) rfl ?_; simp only [SV.den, resV]; simp only [shp, decide_true, decide_false, if_true, if_false, Bool.true_and, Bool.false_and, Bool.and_false, Bool.and_true, Bool.false_eq_true, Bool.true_eq_false, reduceIte, h1, h8, h2, h3, h4, h13, h5, g1])
  refine go_keep [1, 3, 10, 61] [0] ?_
  refine x_split rfl rfl rfl (fun h6 => ?_) (fun h6 => ?_) <;> (refine st_ ?_; (refine ru_ ?_; intros))
  · refine go_gsplit rfl rfl (fun g1 => ?_) (fun g1 => ?_) <;> (refine st_ ?_; (refine rn_ ?_; intros))
    · refine go_gsplit rfl rfl (fun g2 => ?_) (fun g2 => ?_) <;> (refine st_ ?_; (refine rn_ ?_; intros))
      · have hlen : l.length = 1 := by simp at g2; omega
        rcases hr with rfl | ⟨b, off, cs, rfl, ha, hrV⟩
        · simp at hlen
        have hat := At_kind ha hrV (i := 0) (by omega)
        rw [← hdk_get (by omega)] at hat
        refine go_q (by rw [hnt]; rfl) (quiet_index (by rw [hty]; rfl) (by rw [hty]; rfl) rfl rfl rfl (by omega) (by omega)) ?_
        refine rn_ ?_; intros
        refine go_q (by rw [hnt]; rfl) (quiet_load (by rw [hty]; rfl) rfl (by simp [TK.agg]) hat rfl) ?_
        refine rn_ ?_; intros
        (refine x_ret rfl hQ hmb (by rw [hty]; rfl) rfl ?_; simp only [SV.den, resV]; simp only [shp, decide_true, decide_false, if_true, if_false, Bool.true_and, Bool.false_and, Bool.and_false, Bool.and_true, Bool.false_eq_true, Bool.true_eq_false, reduceIte, h1, h8, h2, h3, h4, h13, h5, h6, g1, g2])
      · (refine x_ret rfl hQ hmb (by rw [hty]; rfl) rfl ?_; simp only [SV.den, resV]; simp only [shp, decide_true, decide_false, if_true, if_false, Bool.true_and, Bool.false_and, Bool.and_false, Bool.and_true, Bool.false_eq_true, Bool.true_eq_false, reduceIte, h1, h8, h2, h3, h4, h13, h5, h6, g1, g2])
    · (refine x_ret rfl hQ hmb (by rw [hty]; rfl) rfl ?_; simp only [SV.den, resV]; simp only [shp, decide_true, decide_false, if_true, if_false, Bool.true_and, Bool.false_and, Bool.and_false, Bool.and_true, Bool.false_eq_true, Bool.true_eq_false, reduceIte, h1, h8, h2, h3, h4, h13, h5, h6, g1])
  refine go_keep [1, 3, 10, 78] [0] ?_
  refine x_split rfl rfl rfl (fun h7 => ?_) (fun h7 => ?_) <;> (refine st_ ?_; (refine ru_ ?_; intros))
  · refine go_gsplit rfl rfl (fun g1 => ?_) (fun g1 => ?_) <;> (refine st_ ?_; (refine rn_ ?_; intros))
    all_goals (refine x_ret rfl hQ hmb (by rw [hty]; rfl) rfl ?_; simp only [SV.den, resV]; simp only [shp, decide_true, decide_false, if_true, if_false, Bool.true_and, Bool.false_and, Bool.and_false, Bool.and_true, Bool.false_eq_true, Bool.true_eq_false, reduceIte, h1, h8, h2, h3, h4, h13, h5, h6, h7, g1])
  refine go_keep [1, 3, 10, 87] [0] ?_
  refine x_split rfl rfl rfl (fun h9 => ?_) (fun h9 => ?_) <;> (refine st_ ?_; (refine ru_ ?_; intros))
  · refine go_keep [1, 3, 90, 91, 92] [0] ?_
    refine st_ ?_
    refine x_loop rfl (fun q s => ∃ (j : Nat) (G' : Hp), j ≤ l.length ∧ q = l.length - j ∧ Le G G' ∧ l.all (fun y => evk y.k) = (l.drop j).all (fun y => evk y.k) ∧
      ∃ b1, s = ⟨[(1, .p 0 b1 0), (3, .v (.int .i64 l.length)), (90, .v (.slice ad l.length cap)), (91, .v (.int .i64 l.length)), (92, .v (.int .i64 j))], [(0, b1, .c 25 [.v (.int .i64 k), .v (.int .i64 m), .v (.slice ad l.length cap)])], G', []⟩)
      ⟨0, G, by omega, rfl, Le.refl _, by simp, _, rfl⟩ ?_
    rintro q s ⟨j, G', hj, hq, hle, hall, b1, rfl⟩ ih
    refine rn_ ?_; intros
    refine x_if rfl rfl rfl rfl (fun ht => ?_) (fun ht => ?_)
    · have hlt : j < l.length := by simp at ht; omega
      rcases hr with rfl | ⟨b, off, cs, rfl, ha, hrV⟩
      · simp at hlt
      obtain ⟨adx, capx, hat, hrx⟩ := At_get ha hrV hlt
      have hdrop : l.drop j = l[j] :: l.drop (j + 1) := List.drop_eq_getElem_cons hlt
      refine rn_ ?_; intros
      refine go_q (by rw [hnt]; rfl) (quiet_index (by rw [hty]; rfl) (by rw [hty]; rfl) rfl rfl rfl (by omega) (by omega)) ?_
      refine go_q (by rw [hnt]; rfl) (quiet_load (by rw [hty]; rfl) rfl (by simp [TK.agg]) (hat.mono hle) rfl) ?_
      refine rn_ ?_; intros
      refine go_call (by rw [hnt]; rfl) (by rw [hP]; kernel_rfl) rfl (hP ▸ event_ok l[j].k G') ?_
      rintro v G'' hle' rfl
      refine rn_ ?_; intros
      refine x_if rfl rfl rfl rfl (fun hv => ?_) (fun hv => ?_)
      · have hv' : evk l[j].k = false := by simpa using hv
        refine rn_ ?_; intros
        refine x_ret rfl hQ hmb (by rw [hty]; rfl) rfl ?_; simp only [SV.den, resV]
        simp only [shp, h1, h8, h2, h3, h4, h13, h5, h6, h7, h9, hall, hdrop, List.all_cons, hv', decide_true, decide_false, if_true, if_false, Bool.true_and, Bool.false_and, Bool.and_false, Bool.and_true, Bool.false_eq_true, Bool.true_eq_false, reduceIte]
      · have hv' : evk l[j].k = true := by simpa using hv
        refine rn_ ?_; intros
        rw [wr (by omega) (by omega)]
        refine go_keep [1, 3, 90, 91, 92] [0] ?_
        refine st_ ?_
        refine ih (l.length - (j + 1)) _ (by omega) ⟨j + 1, G'', by omega, rfl, hle.trans hle', ?_, b1, by simp⟩
        rw [hall, hdrop, List.all_cons, hv']; simp
    · have hge : l.length ≤ j := by simp at ht; omega
      have hall' : l.all (fun y => evk y.k) = true := by rw [hall, List.drop_eq_nil_of_le hge]; rfl
      refine rn_ ?_; intros
      refine go_gsplit rfl rfl (fun g1 => ?_) (fun g1 => ?_) <;> (refine st_ ?_; (refine rn_ ?_; intros))
      all_goals (refine x_ret rfl hQ hmb (by rw [hty]; rfl) rfl ?_; simp only [SV.den, resV]; simp only [shp, h1, h8, h2, h3, h4, h13, h5, h6, h7, h9, g1, hall', decide_true, decide_false, if_true, if_false, Bool.true_and, Bool.false_and, Bool.and_false, Bool.and_true, Bool.false_eq_true, Bool.true_eq_false, reduceIte])
  refine go_keep [1, 3, 10, 108] [0] ?_
  refine x_split rfl rfl rfl (fun h10 => ?_) (fun h10 => ?_) <;> (refine st_ ?_; (refine ru_ ?_; intros))
  · refine go_gsplit rfl rfl (fun g1 => ?_) (fun g1 => ?_) <;> (refine st_ ?_; (refine rn_ ?_; intros))
    · refine go_gsplit rfl rfl (fun g2 => ?_) (fun g2 => ?_) <;> (refine st_ ?_; (refine rn_ ?_; intros))
      · refine go_gsplit rfl rfl (fun g3 => ?_) (fun g3 => ?_) <;> (refine st_ ?_; (refine rn_ ?_; intros))
        · refine go_gsplit rfl rfl (fun g4 => ?_) (fun g4 => ?_) <;> (refine st_ ?_; (refine rn_ ?_; intros))
          · have hlen : 1 ≤ l.length := by simp at g3; omega
            rcases hr with rfl | ⟨b, off, cs, rfl, ha, hrV⟩
            · simp at hlen
            have hat := At_kind ha hrV (i := 0) (by omega)
            rw [← hdk_get (by omega)] at hat
            refine go_q (by rw [hnt]; rfl) (quiet_index (by rw [hty]; rfl) (by rw [hty]; rfl) rfl rfl rfl (by omega) (by omega)) ?_
            refine rn_ ?_; intros
            refine go_q (by rw [hnt]; rfl) (quiet_load (by rw [hty]; rfl) rfl (by simp [TK.agg]) hat rfl) ?_
            refine rn_ ?_; intros
            refine go_call (by rw [hnt]; rfl) (by rw [hP]; kernel_rfl) rfl (hP ▸ event_ok (hdk l) G) ?_
            rintro v G'' hle' rfl
            refine rn_ ?_; intros
            (refine x_ret rfl hQ hmb (by rw [hty]; rfl) rfl ?_; simp only [SV.den, resV]; simp only [shp, decide_true, decide_false, if_true, if_false, Bool.true_and, Bool.false_and, Bool.and_false, Bool.and_true, Bool.false_eq_true, Bool.true_eq_false, reduceIte, h1, h8, h2, h3, h4, h13, h5, h6, h7, h9, h10, g1, g2, g3, g4])
          · (refine x_ret rfl hQ hmb (by rw [hty]; rfl) rfl ?_; simp only [SV.den, resV]; simp only [shp, decide_true, decide_false, if_true, if_false, Bool.true_and, Bool.false_and, Bool.and_false, Bool.and_true, Bool.false_eq_true, Bool.true_eq_false, reduceIte, h1, h8, h2, h3, h4, h13, h5, h6, h7, h9, h10, g1, g2, g3, g4])
        · (refine x_ret rfl hQ hmb (by rw [hty]; rfl) rfl ?_; simp only [SV.den, resV]; simp only [shp, decide_true, decide_false, if_true, if_false, Bool.true_and, Bool.false_and, Bool.and_false, Bool.and_true, Bool.false_eq_true, Bool.true_eq_false, reduceIte, h1, h8, h2, h3, h4, h13, h5, h6, h7, h9, h10, g1, g2, g3])
      · (refine x_ret rfl hQ hmb (by rw [hty]; rfl) rfl ?_; simp only [SV.den, resV]; simp only [shp, decide_true, decide_false, if_true, if_false, Bool.true_and, Bool.false_and, Bool.and_false, Bool.and_true, Bool.false_eq_true, Bool.true_eq_false, reduceIte, h1, h8, h2, h3, h4, h13, h5, h6, h7, h9, h10, g1, g2])
    · (refine x_ret rfl hQ hmb (by rw [hty]; rfl) rfl ?_; simp only [SV.den, resV]; simp only [shp, decide_true, decide_false, if_true, if_false, Bool.true_and, Bool.false_and, Bool.and_false, Bool.and_true, Bool.false_eq_true, Bool.true_eq_false, reduceIte, h1, h8, h2, h3, h4, h13, h5, h6, h7, h9, h10, g1])
  refine go_keep [1, 3, 10, 134] [0] ?_
  refine x_split rfl rfl rfl (fun h11 => ?_) (fun h11 => ?_) <;> (refine st_ ?_; (refine ru_ ?_; intros))
  · refine go_gsplit rfl rfl (fun g1 => ?_) (fun g1 => ?_) <;> (refine st_ ?_; (refine rn_ ?_; intros))
    · refine go_gsplit rfl rfl (fun g2 => ?_) (fun g2 => ?_) <;> (refine st_ ?_; (refine rn_ ?_; intros))
      all_goals (refine x_ret rfl hQ hmb (by rw [hty]; rfl) rfl ?_; simp only [SV.den, resV]; simp only [shp, decide_true, decide_false, if_true, if_false, Bool.true_and, Bool.false_and, Bool.and_false, Bool.and_true, Bool.false_eq_true, Bool.true_eq_false, reduceIte, h1, h8, h2, h3, h4, h13, h5, h6, h7, h9, h10, h11, g1, g2])
    · (refine x_ret rfl hQ hmb (by rw [hty]; rfl) rfl ?_; simp only [SV.den, resV]; simp only [shp, decide_true, decide_false, if_true, if_false, Bool.true_and, Bool.false_and, Bool.and_false, Bool.and_true, Bool.false_eq_true, Bool.true_eq_false, reduceIte, h1, h8, h2, h3, h4, h13, h5, h6, h7, h9, h10, h11, g1])
  refine x_split rfl rfl rfl (fun h12 => ?_) (fun h12 => ?_) <;> (refine st_ ?_; (refine ru_ ?_; intros))
  · refine go_gsplit rfl rfl (fun g1 => ?_) (fun g1 => ?_) <;> (refine st_ ?_; (refine rn_ ?_; intros))
    · refine go_gsplit rfl rfl (fun g2 => ?_) (fun g2 => ?_) <;> (refine st_ ?_; (refine rn_ ?_; intros))
      all_goals (refine x_ret rfl hQ hmb (by rw [hty]; rfl) rfl ?_; simp only [SV.den, resV]; simp only [shp, decide_true, decide_false, if_true, if_false, Bool.true_and, Bool.false_and, Bool.and_false, Bool.and_true, Bool.false_eq_true, Bool.true_eq_false, reduceIte, h1, h8, h2, h3, h4, h13, h5, h6, h7, h9, h10, h11, h12, g1, g2])
    · (refine x_ret rfl hQ hmb (by rw [hty]; rfl) rfl ?_; simp only [SV.den, resV]; simp only [shp, decide_true, decide_false, if_true, if_false, Bool.true_and, Bool.false_and, Bool.and_false, Bool.and_true, Bool.false_eq_true, Bool.true_eq_false, reduceIte, h1, h8, h2, h3, h4, h13, h5, h6, h7, h9, h10, h11, h12, g1])
  (refine x_ret rfl hQ hmb (by rw [hty]; rfl) rfl ?_; simp only [SV.den, resV]; simp only [shp, decide_true, decide_false, if_true, if_false, Bool.true_and, Bool.false_and, Bool.and_false, Bool.and_true, Bool.false_eq_true, Bool.true_eq_false, reduceIte, h1, h8, h2, h3, h4, h13, h5, h6, h7, h9, h10, h11, h12])
end Go.Proofs.YthocgjchmpkhoaaDoor
namespace Go.Proofs.YthocgjchmpkhoaaDoor
set_option linter.unusedSimpArgs false
set_option linter.unusedVariables false
open Go.Sx

set_option maxHeartbeats 4000000 in
theorem refshape_ok (x : VT) (sl : Value) (G : Hp) (hr : x.rep G sl) : Pure Tryd.prog 72 [.agg #[.int .i64 x.k, .int .i64 x.n, sl]] G (fun r _ => r = .bool (shp x)) := by
  obtain ⟨k, m, l⟩ := x
  refine enterX ty tyok Tryd.func72 rfl Tryd.ntmps72 [.a [.v (.int .i64 k), .v (.int .i64 m), .v sl]] (by simp) ?_
  intro C hP hQ hnt hty hmb hmh hro; have hQp := qp_body hQ; refine st_ ?_
  rw [rep_iff] at hr
  obtain ⟨hk, hm, hl, ad, cap, rfl, hr⟩ := hr
  refine rn_ ?_; intros
  refine x_draw rfl (by rw [hP]; kernel_rfl) rfl (by kernel_rfl) ?_
  refine runq 400 hty hnt ?_; refine st_ ?_
  refine q_end ?_
  refine rn_ ?_; intros
  refine go_keep [1, 4, 11, 12] [0] ?_
  refine x_split rfl rfl rfl (fun h1 => ?_) (fun h1 => ?_) <;> (refine st_ ?_; (refine ru_ ?_; intros))
  · refine go_gsplit rfl rfl (fun g1 => ?_) (fun g1 => ?_) <;> (refine st_ ?_; (refine rn_ ?_; intros))
    all_goals (refine x_ret rfl hQ hmb (by rw [hty]; rfl) rfl ?_; simp only [SV.den, resV]; simp only [shp, decide_true, decide_false, if_true, if_false, Bool.true_and, Bool.false_and, Bool.and_false, Bool.and_true, Bool.false_eq_true, Bool.true_eq_false, reduceIte, h1, g1])
  refine x_split rfl rfl rfl (fun h8 => ?_) (fun h8 => ?_) <;> (refine st_ ?_; (refine ru_ ?_; intros))
  · refine go_gsplit rfl rfl (fun g1 => ?_) (fun g1 => ?_) <;> (refine st_ ?_; (refine rn_ ?_; intros))
    all_goals (refine x_ret rfl hQ hmb (by rw [hty]; rfl) rfl ?_; simp only [SV.den, resV]; simp only [shp, decide_true, decide_false, if_true, if_false, Bool.true_and, Bool.false_and, Bool.and_false, Bool.and_true, Bool.false_eq_true, Bool.true_eq_false, reduceIte, h1, h8, g1])
  refine go_keep [1, 4, 11, 22] [0] ?_
  refine x_split rfl rfl rfl (fun h2 => ?_) (fun h2 => ?_) <;> (refine st_ ?_; (refine ru_ ?_; intros))
  · (refine x_ret rfl hQ hmb (by rw [hty]; rfl) rfl ?_; simp only [SV.den, resV]; simp only [shp, decide_true, decide_false, if_true, if_false, Bool.true_and, Bool.false_and, Bool.and_false, Bool.and_true, Bool.false_eq_true, Bool.true_eq_false, reduceIte, h1, h8, h2])
  refine go_keep [1, 4, 11, 26] [0] ?_
  refine x_split rfl rfl rfl (fun h3 => ?_) (fun h3 => ?_) <;> (refine st_ ?_; (refine ru_ ?_; intros))
  · refine go_gsplit rfl rfl (fun g1 => ?_) (fun g1 => ?_) <;> (refine st_ ?_; (refine rn_ ?_; intros))
    all_goals (refine x_ret rfl hQ hmb (by rw [hty]; rfl) rfl ?_; simp only [SV.den, resV]; simp only [shp, decide_true, decide_false, if_true, if_false, Bool.true_and, Bool.false_and, Bool.and_false, Bool.and_true, Bool.false_eq_true, Bool.true_eq_false, reduceIte, h1, h8, h2, h3, g1])
  refine go_keep [1, 4, 11, 35] [0] ?_
  refine x_split rfl rfl rfl (fun h4 => ?_) (fun h4 => ?_) <;> (refine st_ ?_; (refine ru_ ?_; intros))
  · refine go_gsplit rfl rfl (fun g1 => ?_) (fun g1 => ?_) <;> (refine st_ ?_; (refine rn_ ?_; intros))
    all_goals (refine x_ret rfl hQ hmb (by rw [hty]; rfl) rfl ?_; simp only [SV.den, resV]; simp only [shp, decide_true, decide_false, if_true, if_false, Bool.true_and, Bool.false_and, Bool.and_false, Bool.and_true, Bool.false_eq_true, Bool.true_eq_false, reduceIte, h1, h8, h2, h3, h4, g1])
  refine x_split rfl rfl rfl (fun h13 => ?_) (fun h13 => ?_) <;> (refine st_ ?_; (refine ru_ ?_; intros))
  · refine go_gsplit rfl rfl (fun g1 => ?_) (fun g1 => ?_) <;> (refine st_ ?_; (refine rn_ ?_; intros))
    all_goals (refine x_ret rfl hQ hmb (by rw [hty]; rfl) rfl ?_; simp only [SV.den, resV]; simp only [shp, decide_true, decide_false, if_true, if_false, Bool.true_and, Bool.false_and, Bool.and_false, Bool.and_true, Bool.false_eq_true, Bool.true_eq_false, reduceIte, h1, h8, h2, h3, h4, h13, g1])
  refine go_keep [1, 4, 11, 45] [0] ?_
  refine x_split rfl rfl rfl (fun h5 => ?_) (fun h5 => ?_) <;> (refine st_ ?_; (refine ru_ ?_; intros))
  · refine go_gsplit rfl rfl (fun g1 => ?_) (fun g1 => ?_) <;> (refine st_ ?_; (refine rn_ ?_; intros))
    · refine go_gsplit rfl rfl (fun g2 => ?_) (fun g2 => ?_) <;> (refine st_ ?_; (refine rn_ ?_; intros))
      · have hlen : l.length = 2 := by simp at g2; omega
        rcases hr with rfl | ⟨b, off, cs, rfl, ha, hrV⟩
        · simp at hlen
        have hat := At_kind ha hrV (i := 0) (by omega)
        rw [← hdk_get (by omega)] at hat
        refine go_q (by rw [hnt]; rfl) (quiet_index (by rw [hty]; rfl) (by rw [hty]; rfl) rfl rfl rfl (by omega) (by omega)) ?_
        refine rn_ ?_; intros
        refine go_q (by rw [hnt]; rfl) (quiet_load (by rw [hty]; rfl) rfl (by simp [TK.agg]) hat rfl) ?_
        refine rn_ ?_; intros
        (refine x_ret rfl hQ hmb (by rw [hty]; rfl) rfl ?_; simp only [SV.den, resV]; simp only [shp, decide_true, decide_false, if_true, if_false, Bool.true_and, Bool.false_and, Bool.and_false, Bool.and_true, Bool.false_eq_true, Bool.true_eq_false, reduceIte, h1, h8, h2, h3, h4, h13, h5, g1, g2])
      · (refine x_ret rfl hQ hmb (by rw [hty]; rfl) rfl ?_; simp only [SV.den, resV]; simp only [shp, decide_true, decide_false, if_true, if_false, Bool.true_and, Bool.false_and, Bool.and_false, Bool.and_true, Bool.false_eq_true, Bool.true_eq_false, reduceIte, h1, h8, h2, h3, h4, h13, h5, g1, g2])
    · (refine x_ret rfl hQ hmb (by rw [hty]; rfl) rfl ?_; simp only [SV.den, resV]; simp only [shp, decide_true, decide_false, if_true, if_false, Bool.true_and, Bool.false_and, Bool.and_false, Bool.and_true, Bool.false_eq_true, Bool.true_eq_false, reduceIte, h1, h8, h2, h3, h4, h13, h5, g1])
  refine go_keep [1, 4, 11, 62] [0] ?_
  refine x_split rfl rfl rfl (fun h6 => ?_) (fun h6 => ?_) <;> (refine st_ ?_; (refine ru_ ?_; intros))
  · refine go_gsplit rfl rfl (fun g1 => ?_) (fun g1 => ?_) <;> (refine st_ ?_; (refine rn_ ?_; intros))
    · refine go_gsplit rfl rfl (fun g2 => ?_) (fun g2 => ?_) <;> (refine st_ ?_; (refine rn_ ?_; intros))
      · have hlen : l.length = 1 := by simp at g2; omega
        rcases hr with rfl | ⟨b, off, cs, rfl, ha, hrV⟩
        · simp at hlen
        have hat := At_kind ha hrV (i := 0) (by omega)
        rw [← hdk_get (by omega)] at hat
        refine go_q (by rw [hnt]; rfl) (quiet_index (by rw [hty]; rfl) (by rw [hty]; rfl) rfl rfl rfl (by omega) (by omega)) ?_
        refine rn_ ?_; intros
        refine go_q (by rw [hnt]; rfl) (quiet_load (by rw [hty]; rfl) rfl (by simp [TK.agg]) hat rfl) ?_
        refine rn_ ?_; intros
        (refine x_ret rfl hQ hmb (by rw [hty]; rfl) rfl ?_; simp only [SV.den, resV]; simp only [shp, decide_true, decide_false, if_true, if_false, Bool.true_and, Bool.false_and, Bool.and_false, Bool.and_true, Bool.false_eq_true, Bool.true_eq_false, reduceIte, h1, h8, h2, h3, h4, h13, h5, h6, g1, g2])
      · (refine x_ret rfl hQ hmb (by rw [hty]; rfl) rfl ?_; simp only [SV.den, resV]; simp only [shp, decide_true, decide_false, if_true, if_false, Bool.true_and, Bool.false_and, Bool.and_false, Bool.and_true, Bool.false_eq_true, Bool.true_eq_false, reduceIte, h1, h8, h2, h3, h4, h13, h5, h6, g1, g2])
    · (refine x_ret rfl hQ hmb (by rw [hty]; rfl) rfl ?_; simp only [SV.den, resV]; simp only [shp, decide_true, decide_false, if_true, if_false, Bool.true_and, Bool.false_and, Bool.and_false, Bool.and_true, Bool.false_eq_true, Bool.true_eq_false, reduceIte, h1, h8, h2, h3, h4, h13, h5, h6, g1])
  refine go_keep [1, 4, 11, 79] [0] ?_
  refine x_split rfl rfl rfl (fun h7 => ?_) (fun h7 => ?_) <;> (refine st_ ?_; (refine ru_ ?_; intros))
  · refine go_gsplit rfl rfl (fun g1 => ?_) (fun g1 => ?_) <;> (refine st_ ?_; (refine rn_ ?_; intros))
    all_goals (refine x_ret rfl hQ hmb (by rw [hty]; rfl) rfl ?_; simp only [SV.den, resV]; simp only [shp, decide_true, decide_false, if_true, if_false, Bool.true_and, Bool.false_and, Bool.and_false, Bool.and_true, Bool.false_eq_true, Bool.true_eq_false, reduceIte, h1, h8, h2, h3, h4, h13, h5, h6, h7, g1])
  refine go_keep [1, 4, 11, 88] [0] ?_
  refine x_split rfl rfl rfl (fun h9 => ?_) (fun h9 => ?_) <;> (refine st_ ?_; (refine ru_ ?_; intros))
  · refine go_keep [1, 4, 5] [0] ?_
    refine st_ ?_
    refine x_loop rfl (fun q s => ∃ (j : Nat) (G' : Hp), j ≤ l.length ∧ q = l.length - j ∧ Le G G' ∧ l.all (fun y => evk y.k) = (l.drop j).all (fun y => evk y.k) ∧
      ∃ b1, s = ⟨[(1, .p 0 b1 0), (4, .v (.int .i64 l.length)), (5, .v (.int .i64 j))], [(0, b1, .c 25 [.v (.int .i64 k), .v (.int .i64 m), .v (.slice ad l.length cap)])], G', []⟩)
      ⟨0, G, by omega, rfl, Le.refl _, by simp, _, rfl⟩ ?_
    rintro q s ⟨j, G', hj, hq, hle, hall, b1, rfl⟩ ih
    refine rn_ ?_; intros
    refine x_if rfl rfl rfl rfl (fun ht => ?_) (fun ht => ?_)
    · have hlt : j < l.length := by simp at ht; omega
      rcases hr with rfl | ⟨b, off, cs, rfl, ha, hrV⟩
      · simp at hlt
      have hat := At_kind ha hrV hlt
      have hdrop : l.drop j = l[j] :: l.drop (j + 1) := List.drop_eq_getElem_cons hlt
      refine rn_ ?_; intros
      refine go_q (by rw [hnt]; rfl) (quiet_index (by rw [hty]; rfl) (by rw [hty]; rfl) rfl rfl rfl (by omega) (by omega)) ?_
      refine rn_ ?_; intros
      refine go_q (by rw [hnt]; rfl) (quiet_load (by rw [hty]; rfl) rfl (by simp [TK.agg]) (hat.mono hle) rfl) ?_
      refine rn_ ?_; intros
      refine go_call (by rw [hnt]; rfl) (by rw [hP]; kernel_rfl) rfl (hP ▸ refevent_ok l[j].k G') ?_
      rintro v G'' hle' rfl
      refine rn_ ?_; intros
      refine x_if rfl rfl rfl rfl (fun hv => ?_) (fun hv => ?_)
      · have hv' : evk l[j].k = false := by simpa using hv
        refine rn_ ?_; intros
        refine x_ret rfl hQ hmb (by rw [hty]; rfl) rfl ?_; simp only [SV.den, resV]
        simp only [shp, h1, h8, h2, h3, h4, h13, h5, h6, h7, h9, hall, hdrop, List.all_cons, hv', decide_true, decide_false, if_true, if_false, Bool.true_and, Bool.false_and, Bool.and_false, Bool.and_true, Bool.false_eq_true, Bool.true_eq_false, reduceIte]
      · have hv' : evk l[j].k = true := by simpa using hv
        refine rn_ ?_; intros
        rw [wr (by omega) (by omega)]
        refine go_keep [1, 4, 5] [0] ?_
        refine st_ ?_
        refine ih (l.length - (j + 1)) _ (by omega) ⟨j + 1, G'', by omega, rfl, hle.trans hle', ?_, b1, by simp⟩
        rw [hall, hdrop, List.all_cons, hv']; simp
    · have hge : l.length ≤ j := by simp at ht; omega
      have hall' : l.all (fun y => evk y.k) = true := by rw [hall, List.drop_eq_nil_of_le hge]; rfl
      refine rn_ ?_; intros
      refine go_gsplit rfl rfl (fun g1 => ?_) (fun g1 => ?_) <;> (refine st_ ?_; (refine rn_ ?_; intros))
      all_goals (refine x_ret rfl hQ hmb (by rw [hty]; rfl) rfl ?_; simp only [SV.den, resV]; simp only [shp, h1, h8, h2, h3, h4, h13, h5, h6, h7, h9, g1, hall', decide_true, decide_false, if_true, if_false, Bool.true_and, Bool.false_and, Bool.and_false, Bool.and_true, Bool.false_eq_true, Bool.true_eq_false, reduceIte])
  refine go_keep [1, 4, 11, 110] [0] ?_
  refine x_split rfl rfl rfl (fun h10 => ?_) (fun h10 => ?_) <;> (refine st_ ?_; (refine ru_ ?_; intros))
  · refine go_gsplit rfl rfl (fun g1 => ?_) (fun g1 => ?_) <;> (refine st_ ?_; (refine rn_ ?_; intros))
    · refine go_gsplit rfl rfl (fun g2 => ?_) (fun g2 => ?_) <;> (refine st_ ?_; (refine rn_ ?_; intros))
      · refine go_gsplit rfl rfl (fun g3 => ?_) (fun g3 => ?_) <;> (refine st_ ?_; (refine rn_ ?_; intros))
        · refine go_gsplit rfl rfl (fun g4 => ?_) (fun g4 => ?_) <;> (refine st_ ?_; (refine rn_ ?_; intros))
          · have hlen : 1 ≤ l.length := by simp at g3; omega
            rcases hr with rfl | ⟨b, off, cs, rfl, ha, hrV⟩
            · simp at hlen
            have hat := At_kind ha hrV (i := 0) (by omega)
            rw [← hdk_get (by omega)] at hat
            refine go_q (by rw [hnt]; rfl) (quiet_index (by rw [hty]; rfl) (by rw [hty]; rfl) rfl rfl rfl (by omega) (by omega)) ?_
            refine rn_ ?_; intros
            refine go_q (by rw [hnt]; rfl) (quiet_load (by rw [hty]; rfl) rfl (by simp [TK.agg]) hat rfl) ?_
            refine rn_ ?_; intros
            refine go_call (by rw [hnt]; rfl) (by rw [hP]; kernel_rfl) rfl (hP ▸ refevent_ok (hdk l) G) ?_
            rintro v G'' hle' rfl
            refine rn_ ?_; intros
            (refine x_ret rfl hQ hmb (by rw [hty]; rfl) rfl ?_; simp only [SV.den, resV]; simp only [shp, decide_true, decide_false, if_true, if_false, Bool.true_and, Bool.false_and, Bool.and_false, Bool.and_true, Bool.false_eq_true, Bool.true_eq_false, reduceIte, h1, h8, h2, h3, h4, h13, h5, h6, h7, h9, h10, g1, g2, g3, g4])
          · (refine x_ret rfl hQ hmb (by rw [hty]; rfl) rfl ?_; simp only [SV.den, resV]; simp only [shp, decide_true, decide_false, if_true, if_false, Bool.true_and, Bool.false_and, Bool.and_false, Bool.and_true, Bool.false_eq_true, Bool.true_eq_false, reduceIte, h1, h8, h2, h3, h4, h13, h5, h6, h7, h9, h10, g1, g2, g3, g4])
        · (refine x_ret rfl hQ hmb (by rw [hty]; rfl) rfl ?_; simp only [SV.den, resV]; simp only [shp, decide_true, decide_false, if_true, if_false, Bool.true_and, Bool.false_and, Bool.and_false, Bool.and_true, Bool.false_eq_true, Bool.true_eq_false, reduceIte, h1, h8, h2, h3, h4, h13, h5, h6, h7, h9, h10, g1, g2, g3])
      · (refine x_ret rfl hQ hmb (by rw [hty]; rfl) rfl ?_; simp only [SV.den, resV]; simp only [shp, decide_true, decide_false, if_true, if_false, Bool.true_and, Bool.false_and, Bool.and_false, Bool.and_true, Bool.false_eq_true, Bool.true_eq_false, reduceIte, h1, h8, h2, h3, h4, h13, h5, h6, h7, h9, h10, g1, g2])
    · (refine x_ret rfl hQ hmb (by rw [hty]; rfl) rfl ?_; simp only [SV.den, resV]; simp only [shp, decide_true, decide_false, if_true, if_false, Bool.true_and, Bool.false_and, Bool.and_false, Bool.and_true, Bool.false_eq_true, Bool.true_eq_false, reduceIte, h1, h8, h2, h3, h4, h13, h5, h6, h7, h9, h10, g1])
  refine go_keep [1, 4, 11, 136] [0] ?_
  refine x_split rfl rfl rfl (fun h11 => ?_) (fun h11 => ?_) <;> (refine st_ ?_; (refine ru_ ?_; intros))
  · refine go_gsplit rfl rfl (fun g1 => ?_) (fun g1 => ?_) <;> (refine st_ ?_; (refine rn_ ?_; intros))
    · refine go_gsplit rfl rfl (fun g2 => ?_) (fun g2 => ?_) <;> (refine st_ ?_; (refine rn_ ?_; intros))
      all_goals (refine x_ret rfl hQ hmb (by rw [hty]; rfl) rfl ?_; simp only [SV.den, resV]; simp only [shp, decide_true, decide_false, if_true, if_false, Bool.true_and, Bool.false_and, Bool.and_false, Bool.and_true, Bool.false_eq_true, Bool.true_eq_false, reduceIte, h1, h8, h2, h3, h4, h13, h5, h6, h7, h9, h10, h11, g1, g2])
    · (refine x_ret rfl hQ hmb (by rw [hty]; rfl) rfl ?_; simp only [SV.den, resV]; simp only [shp, decide_true, decide_false, if_true, if_false, Bool.true_and, Bool.false_and, Bool.and_false, Bool.and_true, Bool.false_eq_true, Bool.true_eq_false, reduceIte, h1, h8, h2, h3, h4, h13, h5, h6, h7, h9, h10, h11, g1])
  refine x_split rfl rfl rfl (fun h12 => ?_) (fun h12 => ?_) <;> (refine st_ ?_; (refine ru_ ?_; intros))
  · refine go_gsplit rfl rfl (fun g1 => ?_) (fun g1 => ?_) <;> (refine st_ ?_; (refine rn_ ?_; intros))
    · refine go_gsplit rfl rfl (fun g2 => ?_) (fun g2 => ?_) <;> (refine st_ ?_; (refine rn_ ?_; intros))
      all_goals (refine x_ret rfl hQ hmb (by rw [hty]; rfl) rfl ?_; simp only [SV.den, resV]; simp only [shp, decide_true, decide_false, if_true, if_false, Bool.true_and, Bool.false_and, Bool.and_false, Bool.and_true, Bool.false_eq_true, Bool.true_eq_false, reduceIte, h1, h8, h2, h3, h4, h13, h5, h6, h7, h9, h10, h11, h12, g1, g2])
    · (refine x_ret rfl hQ hmb (by rw [hty]; rfl) rfl ?_; simp only [SV.den, resV]; simp only [shp, decide_true, decide_false, if_true, if_false, Bool.true_and, Bool.false_and, Bool.and_false, Bool.and_true, Bool.false_eq_true, Bool.true_eq_false, reduceIte, h1, h8, h2, h3, h4, h13, h5, h6, h7, h9, h10, h11, h12, g1])
  (refine x_ret rfl hQ hmb (by rw [hty]; rfl) rfl ?_; simp only [SV.den, resV]; simp only [shp, decide_true, decide_false, if_true, if_false, Bool.true_and, Bool.false_and, Bool.and_false, Bool.and_true, Bool.false_eq_true, Bool.true_eq_false, reduceIte, h1, h8, h2, h3, h4, h13, h5, h6, h7, h9, h10, h11, h12])
end Go.Proofs.YthocgjchmpkhoaaDoor
namespace Go.Proofs.YthocgjchmpkhoaaDoor
set_option linter.unusedSimpArgs false
set_option linter.unusedVariables false
open Go.Sx

mutual
def shps : VT → Bool
  | .mk k n l => shp (.mk k n l) && shpsL l
def shpsL : List VT → Bool
  | [] => true
  | x :: l => shps x && shpsL l
end

set_option maxHeartbeats 1000000 in
theorem shapes_ok (x : VT) : ∀ (sl : Value) (G : Hp) (hr : x.rep G sl), Pure Tryd.prog 70 [.agg #[.int .i64 x.k, .int .i64 x.n, sl]] G (fun r _ => r = .bool (shps x)) := by
  induction x using VT.ind with
  | h k m l IH =>
  intro sl G hr
  have hr0 := hr
  refine enterX ty tyok Tryd.func70 rfl Tryd.ntmps70 [.a [.v (.int .i64 k), .v (.int .i64 m), .v sl]] (by simp) ?_
  intro C hP hQ hnt hty hmb hmh hro; have hQp := qp_body hQ; refine st_ ?_
  rw [rep_iff] at hr
  obtain ⟨hk, hm, hl, ad, cap, rfl, hr⟩ := hr
  refine rn_ ?_; intros
  refine go_call (by rw [hnt]; rfl) (by rw [hP]; kernel_rfl) rfl (hP ▸ shaped_ok (.mk k m l) _ G hr0) ?_
  rintro v G1 hle1 rfl
  refine rn_ ?_; intros
  refine x_if rfl rfl rfl rfl (fun h1 => ?_) (fun h1 => ?_)
  · have h1' : shp (.mk k m l) = false := by simpa using h1
    refine rn_ ?_; intros
    refine x_ret rfl hQ hmb (by rw [hty]; rfl) rfl ?_; simp only [SV.den, resV]
    simp only [shps, h1', decide_true, decide_false, if_true, if_false, Bool.true_and, Bool.false_and, Bool.and_false, Bool.and_true, Bool.false_eq_true, Bool.true_eq_false, reduceIte]
  have h1' : shp (.mk k m l) = true := by simpa using h1
  refine rn_ ?_; intros
  refine go_keep [9, 10, 11] [] ?_
  refine st_ ?_
  refine x_loop rfl (fun q s => ∃ (j : Nat) (G' : Hp), j ≤ l.length ∧ q = l.length - j ∧ Le G G' ∧ shpsL l = shpsL (l.drop j) ∧
    s = ⟨[(9, .v (.slice ad l.length cap)), (10, .v (.int .i64 l.length)), (11, .v (.int .i64 j))], [], G', []⟩) ⟨0, G1, by omega, rfl, hle1, by simp, rfl⟩ ?_
  rintro q s ⟨j, G', hj, hq, hle, hc, rfl⟩ ih
  refine rn_ ?_; intros
  refine x_if rfl rfl rfl rfl (fun ht => ?_) (fun ht => ?_)
  · have hlt : j < l.length := by simp at ht; omega
    rcases hr with rfl | ⟨b, off, cs, rfl, ha, hrV⟩
    · simp at hlt
    obtain ⟨adx, capx, hat, hrx⟩ := At_get ha hrV hlt
    have hdrop : l.drop j = l[j] :: l.drop (j + 1) := List.drop_eq_getElem_cons hlt
    refine rn_ ?_; intros
    refine go_q (by rw [hnt]; rfl) (quiet_index (by rw [hty]; rfl) (by rw [hty]; rfl) rfl rfl rfl (by omega) (by omega)) ?_
    refine go_q (by rw [hnt]; rfl) (quiet_load (by rw [hty]; rfl) rfl (by simp [TK.agg]) (hat.mono hle) rfl) ?_
    refine rn_ ?_; intros
    refine go_call (by rw [hnt]; rfl) (by rw [hP]; kernel_rfl) rfl (hP ▸ IH l[j] (List.getElem_mem hlt) _ G' (VT.rep_mono hle hrx)) ?_
    rintro v G'' hle' rfl
    refine rn_ ?_; intros
    refine x_if rfl rfl rfl rfl (fun hv => ?_) (fun hv => ?_)
    · have hv' : shps l[j] = false := by simpa using hv
      refine rn_ ?_; intros
      refine x_ret rfl hQ hmb (by rw [hty]; rfl) rfl ?_; simp only [SV.den, resV]
      simp only [shps, hc, hdrop, shpsL, hv', decide_true, decide_false, if_true, if_false, Bool.true_and, Bool.false_and, Bool.and_false, Bool.and_true, Bool.false_eq_true, Bool.true_eq_false, reduceIte]
    · have hv' : shps l[j] = true := by simpa using hv
      refine rn_ ?_; intros
      rw [wr (by omega) (by omega)]
      refine go_keep [9, 10, 11] [] ?_
      refine st_ ?_
      refine ih (l.length - (j + 1)) _ (by omega) ⟨j + 1, G'', by omega, rfl, hle.trans hle', ?_, by simp⟩
      rw [hc, hdrop]; simp only [shpsL, hv', decide_true, decide_false, if_true, if_false, Bool.true_and, Bool.false_and, Bool.and_false, Bool.and_true, Bool.false_eq_true, Bool.true_eq_false, reduceIte]
  · have hge : l.length ≤ j := by simp at ht; omega
    refine rn_ ?_; intros
    refine x_ret rfl hQ hmb (by rw [hty]; rfl) rfl ?_; simp only [SV.den, resV]
    simp only [shps, h1', hc, List.drop_eq_nil_of_le hge, shpsL, decide_true, decide_false, if_true, if_false, Bool.true_and, Bool.false_and, Bool.and_false, Bool.and_true, Bool.false_eq_true, Bool.true_eq_false, reduceIte]

set_option maxHeartbeats 1000000 in
theorem refshapes_ok (x : VT) : ∀ (sl : Value) (G : Hp) (hr : x.rep G sl), Pure Tryd.prog 57 [.agg #[.int .i64 x.k, .int .i64 x.n, sl]] G (fun r _ => r = .bool (shps x)) := by
  induction x using VT.ind with
  | h k m l IH =>
  intro sl G hr
  have hr0 := hr
  refine enterX ty tyok Tryd.func57 rfl Tryd.ntmps57 [.a [.v (.int .i64 k), .v (.int .i64 m), .v sl]] (by simp) ?_
  intro C hP hQ hnt hty hmb hmh hro; have hQp := qp_body hQ; refine st_ ?_
  rw [rep_iff] at hr
  obtain ⟨hk, hm, hl, ad, cap, rfl, hr⟩ := hr
  refine rn_ ?_; intros
  refine go_call (by rw [hnt]; rfl) (by rw [hP]; kernel_rfl) rfl (hP ▸ refshape_ok (.mk k m l) _ G hr0) ?_
  rintro v G1 hle1 rfl
  refine rn_ ?_; intros
  refine x_if rfl rfl rfl rfl (fun h1 => ?_) (fun h1 => ?_)
  · have h1' : shp (.mk k m l) = false := by simpa using h1
    refine rn_ ?_; intros
    refine x_ret rfl hQ hmb (by rw [hty]; rfl) rfl ?_; simp only [SV.den, resV]
    simp only [shps, h1', decide_true, decide_false, if_true, if_false, Bool.true_and, Bool.false_and, Bool.and_false, Bool.and_true, Bool.false_eq_true, Bool.true_eq_false, reduceIte]
  have h1' : shp (.mk k m l) = true := by simpa using h1
  refine rn_ ?_; intros
  refine go_keep [1, 3] [0] ?_
  refine st_ ?_
  refine x_loop rfl (fun q s => ∃ (j : Nat) (G' : Hp), j ≤ l.length ∧ q = l.length - j ∧ Le G G' ∧ shpsL l = shpsL (l.drop j) ∧
    ∃ b1, s = ⟨[(1, .p 0 b1 0), (3, .v (.int .i64 j))], [(0, b1, .c 25 [.v (.int .i64 k), .v (.int .i64 m), .v (.slice ad l.length cap)])], G', []⟩) ⟨0, G1, by omega, rfl, hle1, by simp, _, rfl⟩ ?_
  rintro q s ⟨j, G', hj, hq, hle, hc, b1, rfl⟩ ih
  refine rn_ ?_; intros
  refine x_if rfl rfl rfl rfl (fun ht => ?_) (fun ht => ?_)
  · have hlt : j < l.length := by simp at ht; omega
    rcases hr with rfl | ⟨b, off, cs, rfl, ha, hrV⟩
    · simp at hlt
    obtain ⟨adx, capx, hat, hrx⟩ := At_get ha hrV hlt
    have hdrop : l.drop j = l[j] :: l.drop (j + 1) := List.drop_eq_getElem_cons hlt
    refine rn_ ?_; intros
    refine go_q (by rw [hnt]; rfl) (quiet_index (by rw [hty]; rfl) (by rw [hty]; rfl) rfl rfl rfl (by omega) (by omega)) ?_
    refine go_q (by rw [hnt]; rfl) (quiet_load (by rw [hty]; rfl) rfl (by simp [TK.agg]) (hat.mono hle) rfl) ?_
    refine rn_ ?_; intros
    refine go_call (by rw [hnt]; rfl) (by rw [hP]; kernel_rfl) rfl (hP ▸ IH l[j] (List.getElem_mem hlt) _ G' (VT.rep_mono hle hrx)) ?_
    rintro v G'' hle' rfl
    refine rn_ ?_; intros
    refine x_if rfl rfl rfl rfl (fun hv => ?_) (fun hv => ?_)
    · have hv' : shps l[j] = false := by simpa using hv
      refine rn_ ?_; intros
      refine x_ret rfl hQ hmb (by rw [hty]; rfl) rfl ?_; simp only [SV.den, resV]
      simp only [shps, hc, hdrop, shpsL, hv', decide_true, decide_false, if_true, if_false, Bool.true_and, Bool.false_and, Bool.and_false, Bool.and_true, Bool.false_eq_true, Bool.true_eq_false, reduceIte]
    · have hv' : shps l[j] = true := by simpa using hv
      refine rn_ ?_; intros
      rw [wr (by omega) (by omega)]
      refine go_keep [1, 3] [0] ?_
      refine st_ ?_
      refine ih (l.length - (j + 1)) _ (by omega) ⟨j + 1, G'', by omega, rfl, hle.trans hle', ?_, b1, by simp⟩
      rw [hc, hdrop]; simp only [shpsL, hv', decide_true, decide_false, if_true, if_false, Bool.true_and, Bool.false_and, Bool.and_false, Bool.and_true, Bool.false_eq_true, Bool.true_eq_false, reduceIte]
  · have hge : l.length ≤ j := by simp at ht; omega
    refine rn_ ?_; intros
    refine x_ret rfl hQ hmb (by rw [hty]; rfl) rfl ?_; simp only [SV.den, resV]
    simp only [shps, h1', hc, List.drop_eq_nil_of_le hge, shpsL, decide_true, decide_false, if_true, if_false, Bool.true_and, Bool.false_and, Bool.and_false, Bool.and_true, Bool.false_eq_true, Bool.true_eq_false, reduceIte]

def sml (x : VT) : Bool := decide (cnt x 0 ≤ 256)
def vld (x : VT) : Bool := sml x && shps x

theorem small_ok (x : VT) (sl : Value) (G : Hp) (hr : x.rep G sl) : Pure Tryd.prog 55 [.agg #[.int .i64 x.k, .int .i64 x.n, sl]] G (fun r _ => r = .bool (sml x)) := by
  obtain ⟨ad, cap, rfl⟩ := VT.rep_slice hr
  refine enterX ty tyok Tryd.func55 rfl Tryd.ntmps55 [.a [.v (.int .i64 x.k), .v (.int .i64 x.n), .v _]] (by simp) ?_
  intro C hP hQ hnt hty hmb hmh hro; have hQp := qp_body hQ; refine st_ ?_
  refine rn_ ?_; intros
  refine go_call (by rw [hnt]; rfl) (by rw [hP]; kernel_rfl) rfl (hP ▸ count_ok x _ 0 G hr (by omega) (by omega)) ?_
  rintro v G1 hle1 rfl
  refine rn_ ?_; intros
  refine x_ret rfl hQ hmb (by rw [hty]; rfl) rfl ?_; simp only [SV.den, resV]
  simp only [sml]
theorem valid_ok (x : VT) (sl : Value) (G : Hp) (hr : x.rep G sl) : Pure Tryd.prog 54 [.agg #[.int .i64 x.k, .int .i64 x.n, sl]] G (fun r _ => r = .bool (vld x)) := by
  obtain ⟨ad, cap, rfl⟩ := VT.rep_slice hr
  refine enterX ty tyok Tryd.func54 rfl Tryd.ntmps54 [.a [.v (.int .i64 x.k), .v (.int .i64 x.n), .v _]] (by simp) ?_
  intro C hP hQ hnt hty hmb hmh hro; have hQp := qp_body hQ; refine st_ ?_
  refine rn_ ?_; intros
  refine go_call (by rw [hnt]; rfl) (by rw [hP]; kernel_rfl) rfl (hP ▸ small_ok x _ G hr) ?_
  rintro v G1 hle1 rfl
  refine rn_ ?_; intros
  refine go_gsplit rfl rfl (fun g1 => ?_) (fun g1 => ?_) <;> (refine st_ ?_; (refine rn_ ?_; intros))
  · refine go_call (by rw [hnt]; rfl) (by rw [hP]; kernel_rfl) rfl (hP ▸ shapes_ok x _ G1 (VT.rep_mono hle1 hr)) ?_
    rintro v G2 hle2 rfl
    refine rn_ ?_; intros
    refine x_ret rfl hQ hmb (by rw [hty]; rfl) rfl ?_; simp only [SV.den, resV]
    simp only [vld, g1, decide_true, decide_false, if_true, if_false, Bool.true_and, Bool.false_and, Bool.and_false, Bool.and_true, Bool.false_eq_true, Bool.true_eq_false, reduceIte]
  · refine x_ret rfl hQ hmb (by rw [hty]; rfl) rfl ?_; simp only [SV.den, resV]
    simp only [vld, g1, decide_true, decide_false, if_true, if_false, Bool.true_and, Bool.false_and, Bool.and_false, Bool.and_true, Bool.false_eq_true, Bool.true_eq_false, reduceIte]
def chk (x : VT) : Int := if vld x then 0 else 40
theorem check_ok (x : VT) (sl : Value) (G : Hp) (hr : x.rep G sl) : Pure Tryd.prog 45 [.agg #[.int .i64 x.k, .int .i64 x.n, sl]] G (fun r _ => r = .int .i64 (chk x)) := by
  obtain ⟨ad, cap, rfl⟩ := VT.rep_slice hr
  refine enterX ty tyok Tryd.func45 rfl Tryd.ntmps45 [.a [.v (.int .i64 x.k), .v (.int .i64 x.n), .v _]] (by simp) ?_
  intro C hP hQ hnt hty hmb hmh hro; have hQp := qp_body hQ; refine st_ ?_
  refine rn_ ?_; intros
  refine go_call (by rw [hnt]; rfl) (by rw [hP]; kernel_rfl) rfl (hP ▸ valid_ok x _ G hr) ?_
  rintro v G1 hle1 rfl
  refine rn_ ?_; intros
  refine x_if rfl rfl rfl rfl (fun g1 => ?_) (fun g1 => ?_)
  all_goals (refine rn_ ?_; intros; refine x_ret rfl hQ hmb (by rw [hty]; rfl) rfl ?_; simp only [SV.den, resV]; simp only [chk]; simp at g1; simp [g1])
theorem isEvent_ok (x : VT) (sl : Value) (G : Hp) (hr : x.rep G sl) : Pure Tryd.prog 28 [.agg #[.int .i64 x.k, .int .i64 x.n, sl]] G (fun r _ => r = .bool (vld x && evk x.k)) := by
  obtain ⟨ad, cap, rfl⟩ := VT.rep_slice hr
  refine enterX ty tyok Tryd.func28 rfl Tryd.ntmps28 [.a [.v (.int .i64 x.k), .v (.int .i64 x.n), .v _]] (by simp) ?_
  intro C hP hQ hnt hty hmb hmh hro; have hQp := qp_body hQ; refine st_ ?_
  refine rn_ ?_; intros
  refine go_call (by rw [hnt]; rfl) (by rw [hP]; kernel_rfl) rfl (hP ▸ event_ok x.k G) ?_
  rintro v G1 hle1 rfl
  refine rn_ ?_; intros
  refine go_gsplit rfl rfl (fun g1 => ?_) (fun g1 => ?_) <;> (refine st_ ?_; (refine rn_ ?_; intros))
  · refine go_call (by rw [hnt]; rfl) (by rw [hP]; kernel_rfl) rfl (hP ▸ valid_ok x _ G1 (VT.rep_mono hle1 hr)) ?_
    rintro v G2 hle2 rfl
    refine rn_ ?_; intros
    refine x_ret rfl hQ hmb (by rw [hty]; rfl) rfl ?_; simp only [SV.den, resV]
    simp only [g1, decide_true, decide_false, if_true, if_false, Bool.true_and, Bool.false_and, Bool.and_false, Bool.and_true, Bool.false_eq_true, Bool.true_eq_false, reduceIte]
  · refine x_ret rfl hQ hmb (by rw [hty]; rfl) rfl ?_; simp only [SV.den, resV]
    simp only [g1, decide_true, decide_false, if_true, if_false, Bool.true_and, Bool.false_and, Bool.and_false, Bool.and_true, Bool.false_eq_true, Bool.true_eq_false, reduceIte]
end Go.Proofs.YthocgjchmpkhoaaDoor
namespace Go.Proofs.YthocgjchmpkhoaaDoor
set_option linter.unusedSimpArgs false
set_option linter.unusedVariables false
open Go.Sx

mutual
def tsz : VT → Nat
  | .mk _ _ l => 1 + tszL l
def tszL : List VT → Nat
  | [] => 0
  | x :: l => tsz x + tszL l
end
theorem tsz_pos (x : VT) : 1 ≤ tsz x := by cases x; simp only [tsz]; omega
theorem tszL_append (l r : List VT) : tszL (l ++ r) = tszL l + tszL r := by
  induction l with
  | nil => simp [tszL]
  | cons x l ih => simp only [List.cons_append, tszL, ih]; omega
theorem tszL_len (l : List VT) : l.length ≤ tszL l := by
  induction l with
  | nil => simp [tszL]
  | cons x l ih => have := tsz_pos x; simp only [tszL, List.length_cons]; omega
theorem tsz_l (x : VT) : tsz x = 1 + tszL x.l := by cases x; simp only [tsz, VT.l]

mutual
theorem cnt_eq : ∀ (x : VT) (n : Int), n ≤ 256 → cnt x n = min (n + tsz x) 257
  | .mk _ _ l, n, h => by simp only [cnt, tsz]; rw [cntL_eq l (n + 1) (by omega)]; congr 1; omega
theorem cntL_eq : ∀ (l : List VT) (n : Int), n ≤ 257 → cntL l n = min (n + tszL l) 257
  | [], n, h => by simp only [cntL, tszL]; omega
  | x :: l, n, h => by
    simp only [cntL, tszL]
    split
    · omega
    · rw [cnt_eq x n (by omega), cntL_eq l _ (by omega)]; omega
end

theorem src_rep {G : Hp} {l : List VT} {ad : Option Addr} {cap : Nat} (h : l = [] ∨ ∃ b off cs, ad = some ⟨b, off, none⟩ ∧ At G b off cs ∧ repV G l cs) :
    ∃ cs, repV G l cs ∧ ((∃ c, (SV.v (.slice ad l.length cap)).den = .slice none 0 c ∧ l.length = 0 ∧ cs = []) ∨ ∀ (C : Ctx) (s : St), s.G = G → Src C s (.v (.slice ad l.length cap)) l.length cs) := by
  rcases h with rfl | ⟨b, off, cs, rfl, ha, hr⟩
  · refine ⟨[], by simp [repV], ?_⟩
    cases ad with
    | none => exact .inl ⟨cap, rfl, rfl, rfl⟩
    | some a => exact .inr fun _ _ _ => src_empty rfl
  · exact ⟨cs, hr, .inr fun _ s hs => src_at (by rw [hs]; exact ha)⟩

theorem VT.rep_cs {G : Hp} : ∀ {x : VT} {ad : Option Addr} {n cap : Nat}, x.rep G (.slice ad n cap) → x.l = [] ∨ ∃ b off cs, ad = some ⟨b, off, none⟩ ∧ At G b off cs ∧ repV G x.l cs
  | .mk k n l, ad, _, cap, h => by
    simp only [VT.rep] at h
    obtain ⟨_, _, _, ad', cap', h4, h5⟩ := h
    cases h4
    exact h5
theorem src_sliced {C : Ctx} {s : St} {ts : List VT} {cs : List Value} {b off capj : Nat} (ha : At s.G b off cs) (hr : repV s.G ts cs) (h1 : 1 ≤ ts.length) (h2 : ts.length ≤ capj) :
    Src C s (.v (Sx.sliced (some ⟨b, off, none⟩) capj 1 ts.length 3)) (ts.length - 1) (cs.drop 3) := by
  have hlen := repV_len hr
  by_cases h : ts.length = 1
  · have e : cs.drop 3 = [] := List.drop_eq_nil_of_le (by omega)
    rw [e, h]
    simp only [Sx.sliced]
    by_cases hc : capj = 1
    · exact src_empty (by simp only [hc, if_true]; rfl)
    · exact src_empty (by simp only [hc, if_false, Option.map_some]; rfl)
  · rw [sliced_some b off capj 1 ts.length 3 (by omega) h2]
    exact src_at (ha.drop 3 (by omega))

set_option maxHeartbeats 2000000 in
theorem refsize_ok (x : VT) (sl : Value) (G : Hp) (hr : x.rep G sl) (hb : tsz x ≤ 2000000) : Pure Tryd.prog 4 [.agg #[.int .i64 x.k, .int .i64 x.n, sl]] G (fun r _ => r = .int .i64 (cnt x 0)) := by
  obtain ⟨ad, cap, rfl⟩ := VT.rep_slice hr
  refine enterX ty tyok Tryd.func4 rfl Tryd.ntmps4 [.a [.v (.int .i64 x.k), .v (.int .i64 x.n), .v _]] (by simp) ?_
  intro C hP hQ hnt hty hmb hmh hro; have hQp := qp_body hQ; refine st_ ?_
  refine rn_ ?_; intros
  refine go_pub 1 rfl (by omega) ?_
  rename_i b0 b1
  intro G1 (hle1 : Le G G1) hG1
  refine go_slot 3 (.v (.slice (some ⟨b1, 0, none⟩) 1 1)) rfl rfl ?_
  refine st_ ?_
  refine go_keep [3, 4] [] ?_
  refine st_ ?_
  have hat1 := at_block hG1
  simp only [dens, SV.den] at hat1
  have hrV1 : repV G1 [x] [.int .i64 x.k, .int .i64 x.n, .slice ad x.l.length cap] := by
    simp only [repV]
    exact ⟨_, _, rfl, VT.rep_mono hle1 hr, rfl⟩
  refine x_loop rfl (fun q s => ∃ (ts : List VT) (nj : Int) (adj : Option Addr) (capj : Nat) (G' : Hp), 0 ≤ nj ∧ nj ≤ 257 ∧ q = (257 - nj).toNat ∧ Le G G' ∧ nj + tszL ts = tsz x ∧ ts.length ≤ capj ∧
    (ts = [] ∨ ∃ b off cs, adj = some ⟨b, off, none⟩ ∧ At G' b off cs ∧ repV G' ts cs) ∧
    s = ⟨[(3, .v (.slice adj ts.length capj)), (4, .v (.int .i64 nj))], [], G', []⟩)
    ⟨[x], 0, some ⟨b1, 0, none⟩, 1, G1, by omega, by omega, rfl, hle1, by simp [tszL], by simp, .inr ⟨b1, 0, _, rfl, hat1, hrV1⟩, rfl⟩ ?_
  rintro q s ⟨ts, nj, adj, capj, G', hn0, hn1, hq, hle, hsum, hcap, hts, rfl⟩ ih
  have htl := tszL_len ts
  refine rn_ ?_; intros
  refine go_gsplit rfl rfl (fun g1 => ?_) (fun g1 => ?_) <;> (refine st_ ?_; (refine rn_ ?_; intros))
  · refine x_split rfl rfl rfl (fun g2 => ?_) (fun g2 => ?_) <;> (refine st_ ?_; (refine ru_ ?_; intros))
    · have hlt : 0 < ts.length := by simp at g1; omega
      have hn256 : nj ≤ 256 := by simpa using g2
      rcases hts with rfl | ⟨b, off, cs, rfl, ha, hrV⟩
      · simp at hlt
      obtain ⟨adx, capx, hat, hrx⟩ := At_get ha hrV hlt
      have hdrop : ts = ts[0] :: ts.drop 1 := by simpa using (List.drop_eq_getElem_cons (i := 0) hlt)
      refine go_q (by rw [hnt]; rfl) (quiet_index (by rw [hty]; rfl) (by rw [hty]; rfl) rfl rfl rfl (by omega) (by omega)) ?_
      refine go_q (by rw [hnt]; rfl) (quiet_load (by rw [hty]; rfl) rfl (by simp [TK.agg]) hat rfl) ?_
      refine rn_ ?_; intros
      rename_i bx
      refine go_keep [3, 4, 5] [0] ?_
      refine st_ ?_
      refine x_held [(0, bx, .c 25 [.v (.int .i64 ts[0].k), .v (.int .i64 ts[0].n), .v (.slice adx ts[0].l.length capx)])] rfl (by rw [hP]; kernel_rfl) rfl rfl rfl ?_; refine st_ ?_
      refine h_take 1 rfl (by kernel_rfl) (by kernel_rfl) (by kernel_rfl) hQp (by rw [hnt]; rfl) (allIn (by repeat (first | exact trivial | refine ⟨rfl, ?_⟩))) (by first | exact Le.refl _ | assumption) (quiet_op (by rw [hty]; first | rfl | (refine st_ ?_; rfl))) ?_; refine st_ ?_
      refine h_take 2 rfl (by kernel_rfl) (by kernel_rfl) (by kernel_rfl) hQp (by rw [hnt]; rfl) (allIn (by repeat (first | exact trivial | refine ⟨rfl, ?_⟩))) (by first | exact Le.refl _ | assumption) (x := .v (Sx.sliced (some ⟨b, off, none⟩) capj 1 ts.length 3)) ((quiet_sliceLo (k := .i64) (n := 1) (by rw [hty]; rfl) (by rw [hty]; rfl) rfl rfl rfl (by omega) (by omega)).cast rfl) ?_
      refine st_ ?_
      refine h_take 4 rfl (by kernel_rfl) (by kernel_rfl) (by kernel_rfl) hQp (by rw [hnt]; rfl) (allIn (by repeat (first | exact trivial | refine ⟨rfl, ?_⟩))) (by first | exact Le.refl _ | assumption) (quiet_op (by rw [hty]; first | rfl | (refine st_ ?_; rfl))) ?_; refine st_ ?_
      refine h_take 5 rfl (by kernel_rfl) (by kernel_rfl) (by kernel_rfl) hQp (by rw [hnt]; rfl) (allIn (by repeat (first | exact trivial | refine ⟨rfl, ?_⟩))) (by first | exact Le.refl _ | assumption) (quiet_op (by rw [hty]; first | rfl | (refine st_ ?_; rfl))) ?_; refine st_ ?_
      refine h_one 0 rfl (by kernel_rfl) ?_
      refine rn_ ?_; intros
      refine h_hs (allIn (by repeat (first | exact trivial | refine ⟨rfl, ?_⟩))) (by first | exact Le.refl _ | assumption) ?_
      refine h_one 3 rfl (by kernel_rfl) ?_
      rename_i br
      have hlen := repV_len hrV
      have hone := repV_one hrV
      have hrV1' : repV G' (ts.drop 1) (cs.drop 3) := repV_drop 1 hrV
      have hts0 : tszL (ts[0] :: ts.drop 1) = tsz ts[0] + tszL (ts.drop 1) := by simp only [tszL]
      rw [← hdrop] at hts0
      have htx : tsz ts[0] = 1 + tszL ts[0].l := tsz_l _
      have htl2 := tszL_len ts[0].l
      refine go_litrow 1 (n := 0) (size := 3) rfl (by omega) rfl (by omega) ?_
      refine st_ ?_
      refine go_append_any 1 (by rw [hnt]; rfl) (by rw [hty]; rfl) (by rw [hty]; rfl) (by decide) rfl rfl rfl (by omega) rfl (.inr (src_sliced ha hrV (by omega) hcap)) (by simp only [List.length_drop]; omega) (fun u hu => hone u (List.mem_of_mem_drop hu)) (by omega) (by simp only [] ; omega) ?_
      intro v1
      refine rn_ ?_; intros
      refine h_hs (allIn (by repeat (first | exact trivial | refine ⟨rfl, ?_⟩))) (by first | exact Le.refl _ | assumption) ?_
      refine h_one 6 rfl (by kernel_rfl) ?_
      obtain ⟨cs2, hr2, hs2⟩ := src_rep (VT.rep_cs hrx) (cap := capx)
      have hlen2 := repV_len hr2
      refine go_append_any 1 (by rw [hnt]; rfl) (by rw [hty]; rfl) (by rw [hty]; rfl) (by decide) rfl rfl rfl (by omega) rfl (hs2.imp id fun f => f _ _ rfl) (by simp only []; omega) (repV_one hr2) (by omega) (by simp only []; omega) ?_
      intro v2
      refine rn_ ?_; intros
      refine h_hs (allIn (by repeat (first | exact trivial | refine ⟨rfl, ?_⟩))) (by first | exact Le.refl _ | assumption) ?_
      refine h_one 7 rfl (by kernel_rfl) ?_
      refine rn_ ?_; intros
      refine h_hs (allIn (by repeat (first | exact trivial | refine ⟨rfl, ?_⟩))) (by first | exact Le.refl _ | assumption) ?_
      refine h_end (by kernel_rfl) ?_
      refine rn_ ?_; intros
      rw [wr (by omega) (by omega)]
      refine go_keep [3, 4] [1] ?_
      refine st_ ?_
      have hrr := repV_append hrV1' hr2
      have hsum2 : tszL (ts.drop 1 ++ ts[0].l) + 1 = tszL ts := by rw [tszL_append]; omega
      refine go_rowcases 1 rfl ?_ ?_
      · intro hv hn hx
        subst hv
        have h0 : ts.drop 1 ++ ts[0].l = [] := by
          apply List.length_eq_zero_iff.1
          simp only [List.length_append, List.length_drop]; omega
        refine go_keep [3, 4] [] ?_
        refine st_ ?_
        rw [h0] at hsum2
        simp only [tszL] at hsum2
        exact ih (257 - (nj + 1)).toNat _ (by omega) ⟨[], nj + 1, none, 0, G', by omega, by omega, rfl, hle, by simp only [tszL]; omega, by simp, .inl rfl, rfl⟩
      · intro g capv hv hcv hxl
        subst hv
        refine go_pubrow 1 rfl (by omega) ?_
        intro G2 (hle2 : Le G' G2) hat2
        refine st_ ?_
        have e : ts.length - 1 + ts[0].l.length = (ts.drop 1 ++ ts[0].l).length := by simp only [List.length_append, List.length_drop]
        rw [e] at hcv ⊢
        refine ih (257 - (nj + 1)).toNat _ (by omega) ⟨ts.drop 1 ++ ts[0].l, nj + 1, some ⟨g, 0, none⟩, capv, G2, by omega, by omega, rfl, hle.trans hle2, by omega, hcv, .inr ⟨g, 0, _, rfl, hat2, repV_mono hle2 ?_⟩, rfl⟩
        exact hrr
    · refine x_ret rfl hQ hmb (by rw [hty]; rfl) rfl ?_; simp only [SV.den, resV]
      rw [cnt_eq x 0 (by omega)]
      have : ¬ nj ≤ 256 := by simpa using g2
      have e : min (0 + (tsz x : Int)) 257 = nj := by omega
      rw [e]
  · refine x_ret rfl hQ hmb (by rw [hty]; rfl) rfl ?_; simp only [SV.den, resV]
    have : ts = [] := by simpa using g1
    subst this
    rw [cnt_eq x 0 (by omega)]
    simp only [tszL] at hsum
    have e : min (0 + (tsz x : Int)) 257 = nj := by omega
    rw [e]

theorem refright_ok (x : VT) (sl : Value) (G : Hp) (hr : x.rep G sl) (hb : tsz x ≤ 2000000) : Pure Tryd.prog 30 [.agg #[.int .i64 x.k, .int .i64 x.n, sl]] G (fun r _ => r = .bool (vld x)) := by
  obtain ⟨ad, cap, rfl⟩ := VT.rep_slice hr
  refine enterX ty tyok Tryd.func30 rfl Tryd.ntmps30 [.a [.v (.int .i64 x.k), .v (.int .i64 x.n), .v _]] (by simp) ?_
  intro C hP hQ hnt hty hmb hmh hro; have hQp := qp_body hQ; refine st_ ?_
  refine rn_ ?_; intros
  refine go_call (by rw [hnt]; rfl) (by rw [hP]; kernel_rfl) rfl (hP ▸ refsize_ok x _ G hr hb) ?_
  rintro v G1 hle1 rfl
  refine rn_ ?_; intros
  refine go_gsplit rfl rfl (fun g1 => ?_) (fun g1 => ?_) <;> (refine st_ ?_; (refine rn_ ?_; intros))
  · refine go_call (by rw [hnt]; rfl) (by rw [hP]; kernel_rfl) rfl (hP ▸ refshapes_ok x _ G1 (VT.rep_mono hle1 hr)) ?_
    rintro v G2 hle2 rfl
    refine rn_ ?_; intros
    refine x_ret rfl hQ hmb (by rw [hty]; rfl) rfl ?_; simp only [SV.den, resV]
    simp only [vld, sml, g1, decide_true, decide_false, if_true, if_false, Bool.true_and, Bool.false_and, Bool.and_false, Bool.and_true, Bool.false_eq_true, Bool.true_eq_false, reduceIte]
  · refine x_ret rfl hQ hmb (by rw [hty]; rfl) rfl ?_; simp only [SV.den, resV]
    simp only [vld, sml, g1, decide_true, decide_false, if_true, if_false, Bool.true_and, Bool.false_and, Bool.and_false, Bool.and_true, Bool.false_eq_true, Bool.true_eq_false, reduceIte]
theorem refIsEvent_ok (x : VT) (sl : Value) (G : Hp) (hr : x.rep G sl) (hb : tsz x ≤ 2000000) : Pure Tryd.prog 31 [.agg #[.int .i64 x.k, .int .i64 x.n, sl]] G (fun r _ => r = .bool (vld x && evk x.k)) := by
  obtain ⟨ad, cap, rfl⟩ := VT.rep_slice hr
  refine enterX ty tyok Tryd.func31 rfl Tryd.ntmps31 [.a [.v (.int .i64 x.k), .v (.int .i64 x.n), .v _]] (by simp) ?_
  intro C hP hQ hnt hty hmb hmh hro; have hQp := qp_body hQ; refine st_ ?_
  refine rn_ ?_; intros
  refine go_call (by rw [hnt]; rfl) (by rw [hP]; kernel_rfl) rfl (hP ▸ refright_ok x _ G hr hb) ?_
  rintro v G1 hle1 rfl
  refine rn_ ?_; intros
  refine go_gsplit rfl rfl (fun g1 => ?_) (fun g1 => ?_) <;> (refine st_ ?_; (refine rn_ ?_; intros))
  · refine go_call (by rw [hnt]; rfl) (by rw [hP]; kernel_rfl) rfl (hP ▸ refevent_ok x.k G1) ?_
    rintro v G2 hle2 rfl
    refine rn_ ?_; intros
    refine x_ret rfl hQ hmb (by rw [hty]; rfl) rfl ?_; simp only [SV.den, resV]
    simp only [g1, decide_true, decide_false, if_true, if_false, Bool.true_and, Bool.false_and, Bool.and_false, Bool.and_true, Bool.false_eq_true, Bool.true_eq_false, reduceIte]
  · refine x_ret rfl hQ hmb (by rw [hty]; rfl) rfl ?_; simp only [SV.den, resV]
    simp only [g1, decide_true, decide_false, if_true, if_false, Bool.true_and, Bool.false_and, Bool.and_false, Bool.and_true, Bool.false_eq_true, Bool.true_eq_false, reduceIte]
end Go.Proofs.YthocgjchmpkhoaaDoor
namespace Go.Proofs.YthocgjchmpkhoaaDoor
set_option linter.unusedSimpArgs false
set_option linter.unusedVariables false
open Go.Sx

mutual
def veq : VT → VT → Bool
  | .mk k n l, .mk k' n' l' => (k == k') && (n == n') && veqL l l'
def veqL : List VT → List VT → Bool
  | [], [] => true
  | x :: l, y :: l' => veq x y && veqL l l'
  | [], _ :: _ => false
  | _ :: _, [] => false
end
theorem veqL_len : ∀ (l l' : List VT), l.length ≠ l'.length → veqL l l' = false
  | [], [], h => by simp at h
  | [], _ :: _, _ => by simp only [veqL]
  | _ :: _, [], _ => by simp only [veqL]
  | x :: l, y :: l', h => by simp only [veqL]; rw [veqL_len l l' (by simpa using h)]; simp
theorem veqL_nil (l l' : List VT) (h : l.length ≤ 0) (h' : l'.length = l.length) : veqL l l' = true := by
  cases l with
  | nil => cases l' with
    | nil => simp only [veqL]
    | cons y l' => simp at h'
  | cons x l => simp at h

end Go.Proofs.YthocgjchmpkhoaaDoor
namespace Go.Proofs.YthocgjchmpkhoaaDoor
set_option linter.unusedSimpArgs false
set_option linter.unusedVariables false
open Go.Sx

set_option maxHeartbeats 2000000 in
theorem refsame_ok (x : VT) : ∀ (y : VT) (sl sl' : Value) (G : Hp) (hr : x.rep G sl) (hr' : y.rep G sl'), Pure Tryd.prog 63 [.agg #[.int .i64 x.k, .int .i64 x.n, sl], .agg #[.int .i64 y.k, .int .i64 y.n, sl']] G (fun r _ => r = .bool (veq x y)) := by
  induction x using VT.ind with
  | h k m l IH =>
  intro y sl sl' G hr hr'
  obtain ⟨k', m', l'⟩ := y
  refine enterX ty tyok Tryd.func63 rfl Tryd.ntmps63 [.a [.v (.int .i64 k), .v (.int .i64 m), .v sl], .a [.v (.int .i64 k'), .v (.int .i64 m'), .v sl']] (by simp) ?_
  intro C hP hQ hnt hty hmb hmh hro; have hQp := qp_body hQ; refine st_ ?_
  rw [rep_iff] at hr hr'
  obtain ⟨hk, hm, hl, ad, cap, rfl, hr⟩ := hr
  obtain ⟨hk', hm', hl', ad', cap', rfl, hr'⟩ := hr'
  refine rn_ ?_; intros
  refine go_gsplit rfl rfl (fun g1 => ?_) (fun g1 => ?_) <;> (refine st_ ?_; (refine rn_ ?_; intros))
  · refine x_ret rfl hQ hmb (by rw [hty]; rfl) rfl ?_; simp only [SV.den, resV]
    have : (k == k') = false := by simpa using g1
    simp only [veq, this, decide_true, decide_false, if_true, if_false, Bool.true_and, Bool.false_and, Bool.and_false, Bool.and_true, Bool.false_eq_true, Bool.true_eq_false, reduceIte]
  have e1 : (k == k') = true := by simpa using g1
  refine go_gsplit rfl rfl (fun g2 => ?_) (fun g2 => ?_) <;> (refine st_ ?_; (refine rn_ ?_; intros))
  · refine x_ret rfl hQ hmb (by rw [hty]; rfl) rfl ?_; simp only [SV.den, resV]
    have : (m == m') = false := by simpa using g2
    simp only [veq, this, decide_true, decide_false, if_true, if_false, Bool.true_and, Bool.false_and, Bool.and_false, Bool.and_true, Bool.false_eq_true, Bool.true_eq_false, reduceIte]
  have e2 : (m == m') = true := by simpa using g2
  refine x_split rfl rfl rfl (fun g3 => ?_) (fun g3 => ?_) <;> (refine st_ ?_; (refine ru_ ?_; intros))
  · have : l.length ≠ l'.length := by simp at g3; omega
    refine x_ret rfl hQ hmb (by rw [hty]; rfl) rfl ?_; simp only [SV.den, resV]
    simp only [veq, veqL_len l l' this, decide_true, decide_false, if_true, if_false, Bool.true_and, Bool.false_and, Bool.and_false, Bool.and_true, Bool.false_eq_true, Bool.true_eq_false, reduceIte]
  have hll : l'.length = l.length := by simp at g3; omega
  refine go_keep [2, 3, 5] [0, 1] ?_
  refine st_ ?_
  rename_i b0 b1
  refine x_loop rfl (fun q s => ∃ (j : Nat) (G' : Hp), j ≤ l.length ∧ q = l.length - j ∧ Le G G' ∧ veqL l l' = veqL (l.drop j) (l'.drop j) ∧
    s = ⟨[(2, .p 0 b0 0), (3, .p 1 b1 0), (5, .v (.int .i64 j))], [(0, b0, .c 25 [.v (.int .i64 k), .v (.int .i64 m), .v (.slice ad l.length cap)]), (1, b1, .c 25 [.v (.int .i64 k'), .v (.int .i64 m'), .v (.slice ad' l'.length cap')])], G', []⟩) ⟨0, G, by omega, rfl, Le.refl _, by simp, rfl⟩ ?_
  rintro q s ⟨j, G', hj, hq, hle, hc, rfl⟩ ih
  refine rn_ ?_; intros
  refine x_if rfl rfl rfl rfl (fun ht => ?_) (fun ht => ?_)
  · have hlt : j < l.length := by simp at ht; omega
    have hlt' : j < l'.length := by omega
    rcases hr with rfl | ⟨b, off, cs, rfl, ha, hrV⟩
    · simp at hlt
    rcases hr' with rfl | ⟨b', off', cs', rfl, ha', hrV'⟩
    · simp at hlt'
    obtain ⟨adx, capx, hat, hrx⟩ := At_get ha hrV hlt
    obtain ⟨ady, capy, haty, hry⟩ := At_get ha' hrV' hlt'
    have hdrop : l.drop j = l[j] :: l.drop (j + 1) := List.drop_eq_getElem_cons hlt
    have hdrop' : l'.drop j = l'[j] :: l'.drop (j + 1) := List.drop_eq_getElem_cons hlt'
    refine rn_ ?_; intros
    refine x_draw rfl (by rw [hP]; kernel_rfl) rfl (by kernel_rfl) ?_
    refine runq 400 hty hnt ?_; refine st_ ?_
    refine q_q (by rw [hnt]; rfl) (quiet_index (by rw [hty]; rfl) (by rw [hty]; rfl) rfl rfl rfl (by omega) (by omega)) ?_
    refine q_q (by rw [hnt]; rfl) (quiet_load (by rw [hty]; rfl) rfl (by simp [TK.agg]) (hat.mono hle) rfl) ?_
    refine runq 400 hty hnt ?_; refine st_ ?_
    refine q_q (by rw [hnt]; rfl) (quiet_index (by rw [hty]; rfl) (by rw [hty]; rfl) rfl rfl rfl (by omega) (by omega)) ?_
    refine q_q (by rw [hnt]; rfl) (quiet_load (by rw [hty]; rfl) rfl (by simp [TK.agg]) (haty.mono hle) rfl) ?_
    refine q_callf (by rw [hnt]; rfl) (by rw [hP]; kernel_rfl) rfl (hP ▸ IH l[j] (List.getElem_mem hlt) l'[j] _ _ G' (VT.rep_mono hle hrx) (VT.rep_mono hle hry)) ?_
    refine runq 400 hty hnt ?_; refine st_ ?_
    refine q_end ?_
    refine rn_ ?_; intros
    refine x_if rfl rfl rfl rfl (fun hv => ?_) (fun hv => ?_)
    · have hv' : veq l[j] l'[j] = false := by simpa using hv
      refine rn_ ?_; intros
      refine x_ret rfl hQ hmb (by rw [hty]; rfl) rfl ?_; simp only [SV.den, resV]
      simp only [veq, hc, hdrop, hdrop', veqL, hv', decide_true, decide_false, if_true, if_false, Bool.true_and, Bool.false_and, Bool.and_false, Bool.and_true, Bool.false_eq_true, Bool.true_eq_false, reduceIte]
    · have hv' : veq l[j] l'[j] = true := by simpa using hv
      refine rn_ ?_; intros
      rw [wr (by omega) (by omega)]
      refine go_keep [2, 3, 5] [0, 1] ?_
      refine st_ ?_
      refine ih (l.length - (j + 1)) _ (by omega) ⟨j + 1, G', by omega, rfl, hle, ?_, by simp⟩
      rw [hc, hdrop, hdrop']; simp only [veqL, hv', decide_true, decide_false, if_true, if_false, Bool.true_and, Bool.false_and, Bool.and_false, Bool.and_true, Bool.false_eq_true, Bool.true_eq_false, reduceIte]
  · have hge : l.length ≤ j := by simp at ht; omega
    refine rn_ ?_; intros
    refine x_ret rfl hQ hmb (by rw [hty]; rfl) rfl ?_; simp only [SV.den, resV]
    simp only [veq, e1, e2, hc, veqL_nil (l.drop j) (l'.drop j) (by simp; omega) (by simp; omega), decide_true, decide_false, if_true, if_false, Bool.true_and, Bool.false_and, Bool.and_false, Bool.and_true, Bool.false_eq_true, Bool.true_eq_false, reduceIte]

theorem refSame_ok (x y : VT) (sl sl' : Value) (G : Hp) (hr : x.rep G sl) (hr' : y.rep G sl') (hb : tsz x ≤ 2000000) (hb' : tsz y ≤ 2000000) : Pure Tryd.prog 37 [.agg #[.int .i64 x.k, .int .i64 x.n, sl], .agg #[.int .i64 y.k, .int .i64 y.n, sl']] G (fun r _ => r = .bool (sml x && sml y && veq x y)) := by
  obtain ⟨ad, cap, rfl⟩ := VT.rep_slice hr
  obtain ⟨ad', cap', rfl⟩ := VT.rep_slice hr'
  refine enterX ty tyok Tryd.func37 rfl Tryd.ntmps37 [.a [.v (.int .i64 x.k), .v (.int .i64 x.n), .v _], .a [.v (.int .i64 y.k), .v (.int .i64 y.n), .v _]] (by simp) ?_
  intro C hP hQ hnt hty hmb hmh hro; have hQp := qp_body hQ; refine st_ ?_
  refine rn_ ?_; intros
  refine go_call (by rw [hnt]; rfl) (by rw [hP]; kernel_rfl) rfl (hP ▸ refsize_ok x _ G hr hb) ?_
  rintro v G1 (hle1 : Le G G1) rfl
  refine rn_ ?_; intros
  refine go_gsplit rfl rfl (fun g1 => ?_) (fun g1 => ?_) <;> (refine st_ ?_; (refine rn_ ?_; intros))
  · refine go_call (by rw [hnt]; rfl) (by rw [hP]; kernel_rfl) rfl (hP ▸ refsize_ok y _ G1 (VT.rep_mono hle1 hr') hb') ?_
    rintro v G2 (hle2 : Le G1 G2) rfl
    refine rn_ ?_; intros
    refine go_gsplit rfl rfl (fun g2 => ?_) (fun g2 => ?_) <;> (refine st_ ?_; (refine rn_ ?_; intros))
    · have h02 := hle1.trans hle2
      refine go_call (by rw [hnt]; rfl) (by rw [hP]; kernel_rfl) rfl (hP ▸ refsame_ok x y _ _ G2 (VT.rep_mono h02 hr) (VT.rep_mono h02 hr')) ?_
      rintro v G3 (hle3 : Le G2 G3) rfl
      refine rn_ ?_; intros
      refine x_ret rfl hQ hmb (by rw [hty]; rfl) rfl ?_; simp only [SV.den, resV]
      simp only [sml, g1, g2, decide_true, decide_false, if_true, if_false, Bool.true_and, Bool.false_and, Bool.and_false, Bool.and_true, Bool.false_eq_true, Bool.true_eq_false, reduceIte]
    · refine x_ret rfl hQ hmb (by rw [hty]; rfl) rfl ?_; simp only [SV.den, resV]
      simp only [sml, g1, g2, decide_true, decide_false, if_true, if_false, Bool.true_and, Bool.false_and, Bool.and_false, Bool.and_true, Bool.false_eq_true, Bool.true_eq_false, reduceIte]
  · refine x_ret rfl hQ hmb (by rw [hty]; rfl) rfl ?_; simp only [SV.den, resV]
    simp only [sml, g1, decide_true, decide_false, if_true, if_false, Bool.true_and, Bool.false_and, Bool.and_false, Bool.and_true, Bool.false_eq_true, Bool.true_eq_false, reduceIte]
end Go.Proofs.YthocgjchmpkhoaaDoor
namespace Go.Proofs.YthocgjchmpkhoaaDoor
set_option linter.unusedSimpArgs false
set_option linter.unusedVariables false
open Go.Sx

theorem lay_at {α : Type} : ∀ (a b c d : List α), b.length = c.length → lay (a ++ b ++ d) a.length c = some (a ++ c ++ d)
  | [], [], [], d, _ => by simp [lay]
  | [], [], _ :: _, d, h => by simp at h
  | [], _ :: _, [], d, h => by simp at h
  | [], x :: b, y :: c, d, h => by
    have := lay_at [] b c d (by simpa using h)
    simp only [List.nil_append, List.length_nil] at this
    simp [lay, this]
  | x :: a, b, [], d, h => by
    have hb : b = [] := List.length_eq_zero_iff.1 (by simpa using h)
    subst hb
    simp [lay]
  | x :: a, b, y :: c, d, h => by
    have := lay_at a b (y :: c) d h
    rw [List.append_assoc, List.append_assoc] at this
    simp only [List.cons_append, List.length_cons, List.append_assoc] at this ⊢
    simp [lay, this]
theorem tszL_mem : ∀ {l : List VT} {x : VT}, x ∈ l → tsz x ≤ tszL l
  | y :: l, x, h => by
    simp only [tszL]
    rcases List.mem_cons.1 h with rfl | h
    · omega
    · have := tszL_mem h; omega
end Go.Proofs.YthocgjchmpkhoaaDoor
namespace Go.Proofs.YthocgjchmpkhoaaDoor
set_option linter.unusedSimpArgs false
set_option linter.unusedVariables false
open Go.Sx

abbrev zeroV : Value := .agg #[.int .i64 0, .int .i64 0, .slice none 0 0]
set_option maxHeartbeats 4000000
end Go.Proofs.YthocgjchmpkhoaaDoor
namespace Go.Proofs.YthocgjchmpkhoaaDoor
set_option linter.unusedSimpArgs false
set_option linter.unusedVariables false
open Go.Sx

set_option maxHeartbeats 8000000
end Go.Proofs.YthocgjchmpkhoaaDoor
namespace Go.Proofs.YthocgjchmpkhoaaDoor
set_option linter.unusedSimpArgs false
set_option linter.unusedVariables false
open Go.Sx

set_option maxHeartbeats 4000000
end Go.Proofs.YthocgjchmpkhoaaDoor
namespace Go.Proofs.YthocgjchmpkhoaaDoor
set_option linter.unusedSimpArgs false
set_option linter.unusedVariables false
open Go.Sx

end Go.Proofs.YthocgjchmpkhoaaDoor
namespace Go.Sx
set_option linter.unusedSimpArgs false
set_option linter.unusedVariables false
mutual
def VT.repC (G : Hp) : VT → Value → Prop
  | .mk k n l, sl => isI64 k ∧ isI64 n ∧ l.length ≤ 9223372036854775807 ∧ ∃ ad cap, sl = .slice ad l.length cap ∧ l.length ≤ cap ∧ (l = [] ∨ ∃ b off cs, ad = some ⟨b, off, none⟩ ∧ At G b off cs ∧ repVC G l cs)
def repVC (G : Hp) : List VT → List Value → Prop
  | [], cs => cs = []
  | x :: l, cs => ∃ sl r, cs = .int .i64 x.k :: .int .i64 x.n :: sl :: r ∧ x.repC G sl ∧ repVC G l r
end

def repSC (G : Hp) (l : List VT) (sl : Value) : Prop :=
  l.length ≤ 9223372036854775807 ∧ ∃ ad cap, sl = .slice ad l.length cap ∧ l.length ≤ cap ∧ (l = [] ∨ ∃ b off cs, ad = some ⟨b, off, none⟩ ∧ At G b off cs ∧ repVC G l cs)

theorem repC_iff {G : Hp} {k n : Int} {l : List VT} {sl : Value} : (VT.mk k n l).repC G sl ↔ isI64 k ∧ isI64 n ∧ repSC G l sl := by
  simp only [VT.repC, repSC]

mutual
theorem VT.repC_mono {G G' : Hp} (hl : Le G G') : ∀ {x : VT} {sl : Value}, x.repC G sl → x.repC G' sl
  | .mk k n l, sl, h => by
    simp only [VT.repC] at h ⊢
    obtain ⟨h1, h2, h3, ad, cap, h4, hcp, h5⟩ := h
    refine ⟨h1, h2, h3, ad, cap, h4, hcp, ?_⟩
    rcases h5 with h5 | ⟨b, off, cs, h5, h6, h7⟩
    · exact .inl h5
    · exact .inr ⟨b, off, cs, h5, h6.mono hl, repVC_mono hl h7⟩
theorem repVC_mono {G G' : Hp} (hl : Le G G') : ∀ {l : List VT} {cs : List Value}, repVC G l cs → repVC G' l cs
  | [], _, h => by simp only [repVC] at h ⊢; exact h
  | x :: l, cs, h => by
    simp only [repVC] at h ⊢
    obtain ⟨sl, r, h1, h2, h3⟩ := h
    exact ⟨sl, r, h1, VT.repC_mono hl h2, repVC_mono hl h3⟩
end
theorem VT.repC_slice {G : Hp} : ∀ {x : VT} {sl : Value}, x.repC G sl → ∃ ad cap, sl = .slice ad x.l.length cap
  | .mk k n l, sl, h => by
    simp only [VT.repC] at h
    obtain ⟨_, _, _, ad, cap, h4, _⟩ := h
    exact ⟨ad, cap, h4⟩
theorem repVC_len {G : Hp} : ∀ {l : List VT} {cs : List Value}, repVC G l cs → cs.length = l.length * 3
  | [], cs, h => by simp only [repVC] at h; simp [h]
  | x :: l, cs, h => by
    simp only [repVC] at h
    obtain ⟨sl, r, rfl, h2, h3⟩ := h
    have := repVC_len h3
    simp only [List.length_cons]; omega
theorem repVC_drop {G : Hp} : ∀ {l : List VT} {cs : List Value} (i : Nat), repVC G l cs → repVC G (l.drop i) (cs.drop (i * 3))
  | l, cs, 0, h => by simpa using h
  | [], cs, i + 1, h => by simp only [repVC] at h; subst h; simp [repVC]
  | x :: l, cs, i + 1, h => by
    simp only [repVC] at h
    obtain ⟨sl, r, rfl, h2, h3⟩ := h
    have := repVC_drop i h3
    rw [show (i + 1) * 3 = i * 3 + 1 + 1 + 1 by omega]
    simpa using this
theorem repVC_append {G : Hp} : ∀ {l l' : List VT} {cs cs' : List Value}, repVC G l cs → repVC G l' cs' → repVC G (l ++ l') (cs ++ cs')
  | [], l', cs, cs', h, h' => by simp only [repVC] at h; subst h; simpa using h'
  | x :: l, l', cs, cs', h, h' => by
    simp only [repVC] at h
    obtain ⟨sl, r, rfl, h2, h3⟩ := h
    simp only [List.cons_append, repVC]
    exact ⟨sl, r ++ cs', by simp, h2, repVC_append h3 h'⟩
theorem repVC_get {G : Hp} {l : List VT} {cs : List Value} (h : repVC G l cs) {i : Nat} (hi : i < l.length) : ∃ sl, (cs.drop (i * 3)).take 3 = [.int .i64 l[i].k, .int .i64 l[i].n, sl] ∧ l[i].repC G sl := by
  have h1 := repVC_drop i h
  rw [List.drop_eq_getElem_cons hi] at h1
  simp only [repVC] at h1
  obtain ⟨sl, r, h2, h3, _⟩ := h1
  exact ⟨sl, by rw [h2]; simp, h3⟩
theorem At_getC {G : Hp} {l : List VT} {cs : List Value} {b off : Nat} (ha : At G b off cs) (h : repVC G l cs) {i : Nat} (hi : i < l.length) :
    ∃ ad cap, At G b (off + i * 3) [.int .i64 l[i].k, .int .i64 l[i].n, .slice ad l[i].l.length cap] ∧ l[i].repC G (.slice ad l[i].l.length cap) := by
  obtain ⟨sl, h1, h2⟩ := repVC_get h hi
  have hlen := repVC_len h
  have h3 := ha.sub (i * 3) 3 (by omega)
  rw [h1] at h3
  obtain ⟨ad, cap, rfl⟩ := VT.repC_slice h2
  exact ⟨ad, cap, h3, h2⟩
theorem VT.repC_cap {G : Hp} : ∀ {x : VT} {ad : Option Addr} {n cap : Nat}, x.repC G (.slice ad n cap) → n ≤ cap
  | .mk k m l, ad, n, cap, h => by
    simp only [VT.repC] at h
    obtain ⟨_, _, _, ad', cap', h4, h5, _⟩ := h
    cases h4; exact h5
mutual
theorem VT.repC_rep {G : Hp} : ∀ {x : VT} {sl : Value}, x.repC G sl → x.rep G sl
  | .mk k n l, sl, h => by
    simp only [VT.rep]
    simp only [VT.repC] at h
    obtain ⟨h1, h2, h3, ad, cap, h4, _, h5⟩ := h
    refine ⟨h1, h2, h3, ad, cap, h4, ?_⟩
    rcases h5 with h5 | ⟨b, off, cs, h5, h6, h7⟩
    · exact .inl h5
    · exact .inr ⟨b, off, cs, h5, h6, repVC_rep h7⟩
theorem repVC_rep {G : Hp} : ∀ {l : List VT} {cs : List Value}, repVC G l cs → repV G l cs
  | [], _, h => by simp only [repV]; simp only [repVC] at h; exact h
  | x :: l, cs, h => by
    simp only [repV]
    simp only [repVC] at h
    obtain ⟨sl, r, h1, h2, h3⟩ := h
    exact ⟨sl, r, h1, VT.repC_rep h2, repVC_rep h3⟩
end
end Go.Sx
namespace Go.Sx
set_option linter.unusedSimpArgs false
set_option linter.unusedVariables false
section
variable {α : Type} {r : Rp α} {G : Hp} {l : List α}
theorem Rp.srcS {v : Value} (h : r.S G l v) : ∃ cs, r.L G l cs ∧ ((∃ c, (SV.v v).den = .slice none 0 c ∧ l.length = 0 ∧ cs = []) ∨ ∀ (C : Ctx) (s : St), s.G = G → Src C s (.v v) l.length cs) := by
  obtain ⟨_, ad, cap, rfl, h⟩ := h
  exact Rp.src h
theorem Rp.S_lo {ad : Option Addr} {n cap a : Nat} (h : r.S G l (.slice ad n cap)) (ha : a ≤ l.length) (hc : l.length ≤ cap) : r.S G (l.drop a) (sliced ad cap a n r.size) := by
  obtain ⟨h63, ad', cap', e, h⟩ := h
  injection e with e1 e2 e3
  subst e1 e2 e3
  rcases Nat.lt_or_ge a l.length with hlt | hge
  · rcases h with rfl | ⟨b, off, cs, rfl, hat, hL⟩
    · simp at hlt
    · rw [sliced_some b off cap a l.length r.size hlt hc]
      exact ⟨by simp; omega, _, _, by rw [List.length_drop], .inr ⟨b, _, cs.drop (a * r.size), rfl, hat.drop _ (by rw [Rp.L_len hL]; exact Nat.mul_le_mul_right _ ha), Rp.L_drop a hL⟩⟩
  · have e : l.drop a = [] := List.drop_eq_nil_of_le hge
    have h0 : l.length - a = 0 := by omega
    rw [e, sliced, h0]
    exact Rp.S_nil _ _
end
end Go.Sx
namespace Go.Sx
set_option linter.unusedSimpArgs false
set_option linter.unusedVariables false
section
variable {C : Ctx} {K : List KI} {s : St} {R : Array Oper} {l : List Oper} {d : Option Tmp} {t : TypeId} {pos : String} {aft : Array Edge}
theorem q_gundef {op : Op} {j g : Nat} {want : Bool} (hj : (R[j]?).bind (·.dst) = some g) (hd : dOk C.nt d = true) (hu : lk g s.sl = some (.v undef))
    (h2 : SGo C (.q (Mem C s.own s.G) R l :: K) ⟨putS d (.v undef) s.sl, s.own, s.G, s.df⟩) : SGo C (.q (Mem C s.own s.G) R (⟨d, op, t, pos, aft, some (j, want)⟩ :: l) :: K) s := by
  intro a w hS
  have hy : yielded R a.tmps j = none := by
    have := hS.sl g _ hu
    simp [yielded, hj, this, SV.den, undef]
  simp only [wpK, wpQuiet, Region.wanted, hy]
  have := h2 _ _ (hS.put hd (.v undef) hS.mem)
  simp only [wpK] at this
  rw [if_neg (by simp)]
  exact this
theorem equalIn_p0 {P : Program} {T e : TypeId} (hT : P.underlying T = some (.pointer e)) (d : Nat) (w : World) : (Op.equalIn (d + 1) T (.pointer none) (.pointer none)).run P w = .ok true w := by
  simp only [Op.equalIn, Sem.run_bind, run_und w hT, Result.andThen_ok, Sem.run_pure]; rfl
theorem equalIn_p1 {P : Program} {T e : TypeId} (hT : P.underlying T = some (.pointer e)) (d : Nat) (a : Addr) (w : World) : (Op.equalIn (d + 1) T (.pointer (some a)) (.pointer none)).run P w = .ok false w := by
  simp only [Op.equalIn, Sem.run_bind, run_und w hT, Result.andThen_ok, Sem.run_pure]
theorem equal_p {P : Program} {T e : TypeId} (hT : P.underlying T = some (.pointer e)) (ad : Option Addr) (w : World) : (Op.equal T (.pointer ad) (.pointer none)).run P w = .ok ad.isNone w := by
  cases ad with
  | none => exact equalIn_p0 hT 9999 w
  | some a => exact equalIn_p1 hT 9999 a w
theorem quiet_pnil {sl : List (Nat × SV)} {own : Owns} {G : Hp} {T e T' : TypeId} {x : Operand} {ad : Option Addr} {vx : SV} {sz by' : Nat} {ze : List Value} {fl : List (Nat × Nat × Bool)} (hT : C.ty T = some ⟨.ptr e, sz, by', ze, fl⟩) (hx : ev sl x = some vx) (hv : vx.den = .pointer ad) : Quiet C sl own G (.binOp .eql T x (.const (.pointer none)) T') (.bool ad.isNone) := by
  intro a w d t pos aft g hs hh
  have hxv := ev_ok hs hx
  rw [hv] at hxv
  have hu := (C.tyok _ _ hT).k
  simp only [TK.fits] at hu
  have hc : a.eval (.const (.pointer none)) = .pointer none := rfl
  simp only [execOp, hxv, hc]
  have h1 : (eqGuard .eql T x (.const (.pointer none)) (.pointer ad) (.pointer none)).run C.P w = .ok () w := by simp [eqGuard]
  have h2 : (binOp .eql T (.pointer ad) (.pointer none)).run C.P w = .ok (.bool ad.isNone) w := by
    simp [binOp, equal_p hu]
  rw [Sem.run_bind]
  simp [h1, h2, Sem.run_bind]
end
end Go.Sx
namespace Go.Sx
set_option linter.unusedSimpArgs false
set_option linter.unusedVariables false
open Go.RowKit
section
variable {C : Ctx} {K : List KI} {s : St} {R : Array Oper} {t : TypeId} {pos : String} {aft : Array Edge} {own0 : Owns} {G0 : Hp}
end
end Go.Sx
namespace Go.Sx
set_option linter.unusedSimpArgs false
set_option linter.unusedVariables false
open Go.RowKit
section
variable {P : Program} {ro : Option Nat} {Q : Exit → Act → World → Prop}
theorem wpK_pan (ch : List PanicEntry) : ∀ (K : List KI) (a : Act) (w : World), noBr K = true → Q (.panic ch) a w → wpK P ro Q K (.panic ch) a w
  | [], _, _, _, h => h
  | .code _ :: K, a, w, hn, h => wpK_pan ch K a w hn h
  | .loop _ :: K, a, w, hn, h => wpK_pan ch K a w hn h
  | .ops _ _ :: K, a, w, hn, h => wpK_pan ch K a w hn h
  | .q _ _ _ :: K, a, w, hn, h => wpK_pan ch K a w hn h
  | .h _ _ _ _ :: K, a, w, hn, h => wpK_pan ch K a w hn h
  | .hs _ :: K, a, w, hn, h => wpK_pan ch K a w hn h
  | .hu _ _ _ _ _ :: K, a, w, hn, h => wpK_pan ch K a w hn h
  | .blk _ :: K, a, w, hn, h => wpK_pan ch K a w hn h
  | .br _ :: _, _, _, hn, _ => by simp [noBr] at hn
def pE (v : Value) : PanicEntry := { v := v, recovered := false }
def rmAll : List Nat → Owns → Owns
  | [], own => own
  | k :: ks, own => rmAll ks (rmk k own)
theorem lk_rmAll : ∀ (ks : List Nat) (own : Owns) (k : Nat), lk k (rmAll ks own) = if k ∈ ks then none else lk k own
  | [], own, k => by simp [rmAll]
  | j :: ks, own, k => by
    rw [rmAll, lk_rmAll ks, lk_rmk]
    by_cases h : k ∈ ks <;> by_cases h' : k = j <;> simp [h, h']
variable {C : Ctx} {K : List KI} {s : St} {R : Array Oper} {l : List Oper} {d : Option Tmp} {t : TypeId} {pos : String} {aft : Array Edge}
theorem Mem.panicked {own : Owns} {G : Hp} {w w' : World} (h : Mem C own G w) {ks : List Nat} {ow : Lds} (hk : lkAll own ks = some ow) (hn : noDup ks = true) (hf : Fr w w') (hs : ∀ g, g < w.heap.size → ¬ mutOf ow g → w'.heap[g]? = w.heap[g]?) : Mem C (rmAll ks own) G w' := by
  obtain ⟨hl, hget⟩ := lkAll_get hk
  have hmut : ∀ g, mutOf ow g → ∃ k b o, k ∈ ks ∧ lk k own = some (b, o) ∧ o.mut b g := by
    rintro g ⟨i, b, o, hi, hm⟩
    have hlt : i < ks.length := by rw [← hl]; exact (List.getElem?_eq_some_iff.1 hi).1
    obtain ⟨x, hx, hxk⟩ := hget i ks[i] (List.getElem?_eq_getElem hlt)
    rw [hi] at hx; cases hx
    exact ⟨ks[i], b, o, List.getElem_mem hlt, hxk, hm⟩
  refine ⟨fun k b o e => ?_, fun k k' b b' o o' g e e' f f' => ?_, ?_⟩
  · rw [lk_rmAll] at e
    split at e
    · cases e
    · rename_i hkk
      obtain ⟨f1, f2⟩ := h.own _ _ _ e
      refine ⟨OO.holds_same f1 hf fun g hg => hs g (h.lt e hg) fun hm => ?_, f2⟩
      obtain ⟨j, b', o', hj, hjk, hjm⟩ := hmut g hm
      have := h.inj _ _ _ _ _ _ g e hjk hg (OO.mut_blks (h.own _ _ _ hjk).1 hjm)
      subst this; exact hkk hj
  · rw [lk_rmAll] at e e'
    split at e
    · cases e
    · split at e'
      · cases e'
      · exact h.inj _ _ _ _ _ _ _ e e' f f'
  · have hg := h.grow
    have hno : ∀ g, mutOf ow g → G g = none ∧ (C.w0.heap.size ≤ g ∨ g ∈ C.mb) := by
      intro g hm
      obtain ⟨j, b', o', hj, hjk, hjm⟩ := hmut g hm
      obtain ⟨q1, q2, q3⟩ := (h.own _ _ _ hjk).2 g hjm
      refine ⟨q1, ?_⟩
      rcases Nat.lt_or_ge j C.mh with r | r
      · exact (q3 r).symm
      · exact .inl (q2 r)
    refine ⟨hf.os.trans hg.os, hf.tape.trans hg.tape, hf.output.trans hg.output, Nat.le_trans hg.size hf.size, fun j hj hm => ?_, fun j x e => ?_, hg.old⟩
    · rw [hs j (by have := hg.size; omega) fun q => ?_]
      · exact hg.blk j hj hm
      · rcases (hno j q).2 with r | r
        · omega
        · exact hm r
    · have hlt := lt_of_heap (hg.has j x e)
      rw [hs j hlt fun q => by rw [(hno j q).1] at e; cases e]
      exact hg.has j x e
def SPan (C : Ctx) (v : Value) (s : St) : Prop := ∀ a w, Sat C s a w → C.Q (.panic [pE v]) a w
theorem Lent.of {own : Owns} {G : Hp} {w : World} (h : Mem C own G w) {ks : List Nat} {ow : Lds} (hk : lkAll own ks = some ow) (hn : noDup ks = true) : Lent ow G w := by
  obtain ⟨hl, hget⟩ := lkAll_get hk
  have hat : ∀ (i b : Nat) (o : OO), ow[i]? = some (b, o) → ∃ k, ks[i]? = some k ∧ lk k own = some (b, o) := by
    intro i b o hi
    have hlt : i < ks.length := by rw [← hl]; exact (List.getElem?_eq_some_iff.1 hi).1
    obtain ⟨x, hx, hxk⟩ := hget i ks[i] (List.getElem?_eq_getElem hlt)
    rw [hi] at hx; cases hx
    exact ⟨ks[i], List.getElem?_eq_getElem hlt, hxk⟩
  have hnd : ∀ (ks : List Nat), noDup ks = true → ∀ (i j k : Nat), ks[i]? = some k → ks[j]? = some k → i = j := by
    intro ks
    induction ks with
    | nil => intro _ i j k h; simp at h
    | cons x ks ih =>
      intro h i j k hi hj
      simp only [noDup, Bool.and_eq_true, Bool.not_eq_true', List.contains_eq_mem, decide_eq_false_iff_not] at h
      cases i <;> cases j
      · rfl
      · simp at hi hj; subst hi; exact absurd (List.mem_of_getElem? hj) h.1
      · simp at hi hj; subst hj; exact absurd (List.mem_of_getElem? hi) h.1
      · simp at hi hj; rw [ih h.2 _ _ k hi hj]
  refine ⟨fun i b o hi => ?_, fun i j b b' o o' g hi hj f f' => ?_⟩
  · obtain ⟨k, _, hk2⟩ := hat i b o hi
    obtain ⟨f1, f2⟩ := h.own _ _ _ hk2
    refine ⟨?_, fun g hg => (f2 g hg).1⟩
    cases o <;> exact f1
  · obtain ⟨k, hk1, hk2⟩ := hat i b o hi
    obtain ⟨k', hk1', hk2'⟩ := hat j b' o' hj
    have e := h.inj _ _ _ _ _ _ g hk2 hk2' f f'
    subst e
    exact hnd ks hn i j k hk1 hk1'
theorem op_enterP {o : Oper} {a : Act} {w w' : World} {f : FuncId} {args : Array Value} (hrun : (execOp a.eval o).run P w = .ok (.enter f args) w') {Q : Exit → Act → World → Prop} {next : Act → World → Prop}
    (h : Calls P f args w' fun e w'' => (∃ v, e = .returned v ∧ next (a.put o.dst v) w'') ∨ ∃ ch, e = .panicked ch ∧ Q (.panic ch) a w'') : o.wpIn (FR ro) 0 P a w next Q := by
  refine ⟨fun _ _ => trivial, ?_⟩
  have := semAt_run (ro := ro) hrun (by simp)
  show o.uponIn _ _ _ _ _ _ ((o.semAt ro a.eval).run P w)
  rw [this]
  refine ⟨FR_depth _ _, callsFR.2 (h.mono ?_)⟩
  rintro e w'' (⟨v, rfl, hv⟩ | ⟨ch, rfl, hv⟩)
  · exact hv
  · exact hv
theorem go_panic {x : Operand} {y : SV} {T : TypeId} {v : Value} (hnb : noBr K = true) (hx : ev s.sl x = some y) (hy : y.den = .iface T v) (h : SPan C (.iface T v) s) : SGo C (.ops R (⟨d, .panic x, t, pos, aft, none⟩ :: l) :: K) s := by
  intro a w hS
  have hxv := ev_ok hS.sl hx
  rw [hy] at hxv
  refine K_op rfl ⟨fun _ _ => trivial, ?_⟩
  have hp : (Instr.panic (.iface T v)).run C.P w = .halt (.panic (.iface T v)) w := rfl
  have hrun : ∀ ro, ((⟨d, .panic x, t, pos, aft, none⟩ : Oper).semAt ro a.eval).run C.P w = .halt (.panic (.iface T v)) w := by
    intro ro
    cases ro <;> simp [Oper.semAt, execOp, hxv, hp, Sem.run_bind]
  show Oper.uponIn _ _ _ _ _ _ _ _
  rw [hrun]
  exact wpK_pan _ (.ops R l :: K) a w hnb (h a w hS)
def CloD (P : Program) (f : FuncId) (args : List Value) (G : Hp) (ow : Lds) (u : FrameMode) (φ : FrameMode → Hp → Lds → Prop) : Prop :=
  ∀ w, Has w G → Lent ow G w → CallsDIn Fence.wide 0 P f args.toArray u w fun e u' w' => RetW w G ow (fun _ G' ow' => φ u' G' ow') e w'
def dfn (f : FuncId) (cap : List Value) : Deferred := { target := .fn (.func f) cap.toArray, args := #[] }
theorem go_defer (hro : C.ro = none) {x : Operand} {tys : Array TypeId} {f : FuncId} {cap : List Value} {y : SV} (hd : dOk C.nt d = true) (hx : ev s.sl x = some y) (hy : y.den = .func (.func f) #[] cap.toArray)
    (h : SGo C (.ops R l :: K) ⟨putS d (.v undef) s.sl, s.own, s.G, dfn f cap :: s.df⟩) : SGo C (.ops R (⟨d, .defer ⟨.value x, #[], tys⟩, t, pos, aft, none⟩ :: l) :: K) s := by
  intro a w hS
  have hxv := ev_ok hS.sl hx
  rw [hy] at hxv
  refine K_op rfl ⟨fun _ _ => trivial, ?_⟩
  have hrun : ((⟨d, .defer ⟨.value x, #[], tys⟩, t, pos, aft, none⟩ : Oper).semAt none a.eval).run C.P w = .ok (.defer (dfn f cap)) w := by
    simp [Oper.semAt, execOp, resolve, hxv, Deferred.ofValue, dfn, Sem.run_bind]
  show Oper.uponIn _ _ _ _ _ _ _ _
  have hrun' : ((⟨d, .defer ⟨.value x, #[], tys⟩, t, pos, aft, none⟩ : Oper).semAt (FR C.ro).round a.eval).run C.P w = .ok (.defer (dfn f cap)) w := by
    rw [hro]; exact hrun
  rw [hrun']
  show wpK _ _ _ _ _ _ _
  have hS' := hS.put hd (.v undef) hS.mem
  have e : ({ a with defers := dfn f cap :: a.defers } : Act).put d undef = { a.put d undef with defers := dfn f cap :: a.defers } := by cases d <;> rfl
  rw [e]
  exact h _ w ⟨hS'.sl, hS'.nt, by simp only []; rw [hS.df], hS'.mem⟩
end
end Go.Sx
namespace Go.Sx
set_option linter.unusedSimpArgs false
set_option linter.unusedVariables false
open Go.RowKit
section
variable {C : Ctx} {K : List KI} {s : St} {R : Array Oper} {l : List Oper} {d : Option Tmp} {t : TypeId} {pos : String} {aft : Array Edge} {sl : List (Nat × SV)} {own : Owns} {G : Hp}
end
end Go.Sx
namespace Go.Sx
set_option linter.unusedSimpArgs false
set_option linter.unusedVariables false
open Go.RowKit
section
variable {C : Ctx} {K : List KI} {s : St} {R : Array Oper} {l : List Oper} {d : Option Tmp} {t : TypeId} {pos : String} {aft : Array Edge} {v : Value}
end
end Go.Sx
namespace Go.Sx
set_option linter.unusedSimpArgs false
set_option linter.unusedVariables false
open Go.RowKit
section
variable {C : Ctx} {K : List KI} {s : St} {R : Array Oper} {l : List Oper} {d : Option Tmp} {t : TypeId} {pos : String} {aft : Array Edge} {v : Value} {α : Type}
theorem go_rowC (k : Nat) {b n size : Nat} {e : TypeId} {v : Value} {xs : List Value} (hk : lk k s.own = some (b, .row v e size n xs)) (h : ∀ ad cap, v = .slice ad n cap → n ≤ cap → SGo C K s) : SGo C K s :=
  go_rowcases k hk (fun hv hn0 _ => h none 0 (by rw [hv, hn0]) (by omega)) (fun g cap hv hc _ => h _ cap hv hc)
end
end Go.Sx
namespace Go.Proofs.YthocgjchmpkhoaaDoor
set_option linter.unusedSimpArgs false
set_option linter.unusedVariables false
open Go.Sx
def rV : Rp VT where
  size := 3
  e G x cs := ∃ sl, cs = [.int .i64 x.k, .int .i64 x.n, sl] ∧ x.repC G sl ∧ tsz x ≤ 1048576
  mono hl h := by obtain ⟨sl, h1, h2, h3⟩ := h; exact ⟨sl, h1, VT.repC_mono hl h2, h3⟩
  len h := by obtain ⟨sl, rfl, _⟩ := h; rfl
  one h u hu := by
    obtain ⟨sl, rfl, h2, _⟩ := h
    obtain ⟨_, _, rfl⟩ := VT.repC_slice h2
    simp at hu
    rcases hu with rfl | rfl | rfl <;> rfl
theorem rV_at {G : Hp} {l : List VT} {ad : Option Addr} {n cap : Nat} (h : rV.S G l (.slice ad n cap)) {i : Nat} (hi : i < l.length) : ∃ b off sl, ad = some ⟨b, off, none⟩ ∧ At G b (off + i * 3) [.int .i64 l[i].k, .int .i64 l[i].n, sl] ∧ l[i].repC G sl ∧ tsz l[i] ≤ 1048576 := by
  obtain ⟨b, off, cap', c, hv, hat, sl, rfl, h1⟩ := Rp.S_get h hi
  cases hv
  exact ⟨b, off, sl, rfl, by simpa [rV] using hat, h1⟩
structure Cl where
  f : Int
  a : List VT
def rC : Rp Cl where
  size := 2
  e G x cs := ∃ sl, cs = [.int .i64 x.f, sl] ∧ isI64 x.f ∧ rV.S G x.a sl
  mono hl h := by obtain ⟨sl, h1, h2, h3⟩ := h; exact ⟨sl, h1, h2, Rp.S_mono hl h3⟩
  len h := by obtain ⟨sl, rfl, _⟩ := h; rfl
  one h u hu := by
    obtain ⟨sl, rfl, _, h2⟩ := h
    obtain ⟨_, _, rfl⟩ := Rp.S_slice h2
    simp at hu
    rcases hu with rfl | rfl <;> rfl
theorem rC_at {G : Hp} {l : List Cl} {ad : Option Addr} {n cap : Nat} (h : rC.S G l (.slice ad n cap)) {i : Nat} (hi : i < l.length) : ∃ b off sl, ad = some ⟨b, off, none⟩ ∧ At G b (off + i * 2) [.int .i64 l[i].f, sl] ∧ isI64 l[i].f ∧ rV.S G l[i].a sl := by
  obtain ⟨b, off, cap', c, hv, hat, sl, rfl, h1⟩ := Rp.S_get h hi
  cases hv
  exact ⟨b, off, sl, rfl, by simpa [rC] using hat, h1⟩
structure Bs where
  k : Int
  n : Int
  v : VT
  w : List Cl
  c : List Int
def bsL (x : Bs) (sv sw sc : Value) : List Value := [.int .i64 x.k, .int .i64 x.n, .int .i64 x.v.k, .int .i64 x.v.n, sv, sw, sc]
abbrev bsC (x : Bs) (sv sw sc : Value) : List SV := [.v (.int .i64 x.k), .v (.int .i64 x.n), .v (.int .i64 x.v.k), .v (.int .i64 x.v.n), .v sv, .v sw, .v sc]
structure Bs.rep (G : Hp) (x : Bs) (sv sw sc : Value) : Prop where
  k : isI64 x.k
  n : isI64 x.n
  v : x.v.repC G sv
  b : tsz x.v ≤ 1048576
  w : rC.S G x.w sw
  c : rI.S G x.c sc
theorem Bs.rep.mono {G G' : Hp} {x : Bs} {sv sw sc : Value} (h : x.rep G sv sw sc) (hl : Le G G') : x.rep G' sv sw sc := ⟨h.k, h.n, VT.repC_mono hl h.v, h.b, Rp.S_mono hl h.w, Rp.S_mono hl h.c⟩
def rB : Rp Bs where
  size := 7
  e G x cs := ∃ sv sw sc, cs = bsL x sv sw sc ∧ x.rep G sv sw sc
  mono hl h := by obtain ⟨a, b, c, h1, h2⟩ := h; exact ⟨a, b, c, h1, h2.mono hl⟩
  len h := by obtain ⟨a, b, c, rfl, _⟩ := h; rfl
  one h u hu := by
    obtain ⟨a, b, c, rfl, h2⟩ := h
    obtain ⟨_, _, rfl⟩ := VT.repC_slice h2.v
    obtain ⟨_, _, rfl⟩ := Rp.S_slice h2.w
    obtain ⟨_, _, rfl⟩ := Rp.S_slice h2.c
    simp [bsL] at hu
    rcases hu with rfl | rfl | rfl | rfl | rfl | rfl | rfl <;> rfl
theorem rB_at {G : Hp} {l : List Bs} {ad : Option Addr} {n cap : Nat} (h : rB.S G l (.slice ad n cap)) {i : Nat} (hi : i < l.length) : ∃ b off sv sw sc, ad = some ⟨b, off, none⟩ ∧ At G b (off + i * 7) (bsL l[i] sv sw sc) ∧ l[i].rep G sv sw sc := by
  obtain ⟨b, off, cap', c, hv, hat, sv, sw, sc, rfl, h1⟩ := Rp.S_get h hi
  cases hv
  exact ⟨b, off, sv, sw, sc, rfl, by simpa [rB] using hat, h1⟩
def CapOk (v : Value) : Prop := ∀ ad n c, v = .slice ad n c → n ≤ c
structure It where
  v : VT
  w : List Cl
  c : List Int
def itL (x : It) (sv sw sc : Value) : List Value := [.int .i64 x.v.k, .int .i64 x.v.n, sv, sw, sc]
abbrev itC (x : It) (sv sw sc : Value) : List SV := [.v (.int .i64 x.v.k), .v (.int .i64 x.v.n), .v sv, .v sw, .v sc]
structure It.rep (G : Hp) (x : It) (sv sw sc : Value) : Prop where
  v : x.v.repC G sv
  b : tsz x.v ≤ 1048576
  w : rC.S G x.w sw
  c : rI.S G x.c sc
  cc : CapOk sc
theorem It.rep.mono {G G' : Hp} {x : It} {sv sw sc : Value} (h : x.rep G sv sw sc) (hl : Le G G') : x.rep G' sv sw sc := ⟨VT.repC_mono hl h.v, h.b, Rp.S_mono hl h.w, Rp.S_mono hl h.c, h.cc⟩
def rT : Rp It where
  size := 5
  e G x cs := ∃ sv sw sc, cs = itL x sv sw sc ∧ x.rep G sv sw sc
  mono hl h := by obtain ⟨a, b, c, h1, h2⟩ := h; exact ⟨a, b, c, h1, h2.mono hl⟩
  len h := by obtain ⟨a, b, c, rfl, _⟩ := h; rfl
  one h u hu := by
    obtain ⟨a, b, c, rfl, h2⟩ := h
    obtain ⟨_, _, rfl⟩ := VT.repC_slice h2.v
    obtain ⟨_, _, rfl⟩ := Rp.S_slice h2.w
    obtain ⟨_, _, rfl⟩ := Rp.S_slice h2.c
    simp [itL] at hu
    rcases hu with rfl | rfl | rfl | rfl | rfl <;> rfl
theorem rT_at {G : Hp} {l : List It} {ad : Option Addr} {n cap : Nat} (h : rT.S G l (.slice ad n cap)) {i : Nat} (hi : i < l.length) : ∃ b off sv sw sc, ad = some ⟨b, off, none⟩ ∧ At G b (off + i * 5) (itL l[i] sv sw sc) ∧ l[i].rep G sv sw sc := by
  obtain ⟨b, off, cap', c, hv, hat, sv, sw, sc, rfl, h1⟩ := Rp.S_get h hi
  cases hv
  exact ⟨b, off, sv, sw, sc, rfl, by simpa [rT] using hat, h1⟩
structure Fc where
  st : Int
  l : List It
  b : List Bs
  c : List Int
  cl : Cl
structure Fc.rep (G : Hp) (x : Fc) (sl sb sc sa : Value) : Prop where
  cp : CapOk sl
  l : rT.S G x.l sl
  b : rB.S G x.b sb
  c : rI.S G x.c sc
  a : rV.S G x.cl.a sa
theorem Fc.rep.mono {G G' : Hp} {x : Fc} {sl sb sc sa : Value} (h : x.rep G sl sb sc sa) (hl : Le G G') : x.rep G' sl sb sc sa := ⟨h.cp, Rp.S_mono hl h.l, Rp.S_mono hl h.b, Rp.S_mono hl h.c, Rp.S_mono hl h.a⟩
def noF : Fc := ⟨0, [], [], [], ⟨0, []⟩⟩
def wrF : Fc := ⟨5, [], [], [], ⟨0, []⟩⟩
def zV : VT := .mk 0 0 []
def putsF (f : Fc) (l : List It) : Fc :=
  let L := l ++ f.l.drop 1
  if 32 < L.length + f.b.length ∨ (L.any fun x => decide (32 < x.w.length ∨ 32 < x.c.length)) = true then wrF else ⟨if L.length = 0 then 4 else 1, L, f.b, f.c, ⟨0, []⟩⟩
def baseF (x : It) : Bs :=
  if x.v.k = 5 then ⟨x.v.k, (x.v.l.getD 0 zV).n, x.v.l.getD 1 zV, x.w, x.c⟩ else
  if x.v.k = 6 then ⟨x.v.k, (x.v.l.getD 0 zV).n, zV, x.w, x.c⟩ else
  if x.v.k = 7 then ⟨x.v.k, 0, x.v.l.getD 0 zV, x.w, x.c⟩ else
  if x.v.k = 13 then ⟨x.v.k, x.v.n, zV, x.w, x.c⟩ else ⟨x.v.k, 0, zV, x.w, x.c⟩
def isB (k : Int) : Bool := k == 5 || k == 6 || k == 7 || k == 8 || k == 13
def stepF (f : Fc) : Fc × Int :=
  if f.st ≠ 1 then (f, 100) else
  match f.l.head? with
  | none => (f, 100)
  | some x =>
    if isB x.v.k = true then (putsF { f with b := f.b ++ [baseF x] } [], 0) else
    if x.v.k = 9 then (putsF f (x.v.l.map fun v => ⟨v, x.w, x.c⟩), 0) else
    if x.v.k = 10 then (putsF f [⟨x.v.l.getD 0 zV, ⟨x.v.n, x.v.l.drop 1⟩ :: x.w, x.c⟩], 0) else
    if x.v.k = 11 then ({ f with st := 2, cl := ⟨x.v.n, x.v.l⟩ }, 0) else
    if x.v.k = 12 then ({ f with st := 3 }, 0) else (wrF, 0)
def giveF (f : Fc) (v : VT) : Fc × Int :=
  if vld v = false then (f, 2) else
  if f.st ≠ 2 then (f, 100) else
  match f.l.head? with
  | none => (f, 100)
  | some x => (putsF f [⟨v, x.w, x.c⟩], 0)
def condF (f : Fc) (n : Int) : Fc × Int :=
  if n < 0 ∨ (0 < f.c.length ∧ n ≤ f.c.getD (f.c.length - 1) 0) then (f, 2) else
  if f.st ≠ 3 then (f, 100) else
  match f.l.head? with
  | none => (f, 100)
  | some x => ({ f with st := 2, l := ⟨x.v, x.w, x.c ++ [n]⟩ :: f.l.drop 1, c := f.c ++ [n], cl := ⟨x.v.n, x.v.l ++ [.mk 13 n []]⟩ }, 0)
def eqL {α : Type} (e : α → α → Bool) : List α → List α → Bool
  | [], [] => true
  | x :: a, y :: b => e x y && eqL e a b
  | _, _ => false
theorem eqL_len {α : Type} {e : α → α → Bool} : ∀ {a b : List α}, a.length ≠ b.length → eqL e a b = false
  | [], [], h => absurd rfl h
  | [], _ :: _, _ => rfl
  | _ :: _, [], _ => rfl
  | x :: a, y :: b, h => by rw [eqL, eqL_len (by simpa using h), Bool.and_false]
theorem eqL_refl {α : Type} {e : α → α → Bool} : ∀ {a : List α}, (∀ x ∈ a, e x x = true) → eqL e a a = true
  | [], _ => rfl
  | x :: a, h => by rw [eqL, h x (by simp), eqL_refl fun y hy => h y (by simp [hy])]; rfl
theorem eqL_step {α : Type} {e : α → α → Bool} {a b : List α} {k : Nat} (h1 : k < a.length) (h2 : k < b.length) : eqL e (a.drop k) (b.drop k) = (e a[k] b[k] && eqL e (a.drop (k + 1)) (b.drop (k + 1))) := by
  rw [List.drop_eq_getElem_cons h1, List.drop_eq_getElem_cons h2, eqL]
def vsm (x y : VT) : Bool := sml x && sml y && veq x y
def clE (x y : Cl) : Bool := x.f == y.f && eqL vsm x.a y.a
def bsE (x y : Bs) : Bool := x.k == y.k && x.n == y.n && vsm x.v y.v && eqL clE x.w y.w && eqL (· == ·) x.c y.c
end Go.Proofs.YthocgjchmpkhoaaDoor
namespace Go.Proofs.YthocgjchmpkhoaaDoor
set_option linter.unusedSimpArgs false
set_option linter.unusedVariables false
open Go.Sx
set_option maxHeartbeats 8000000
set_option maxRecDepth 20000
theorem vals_ok (a b : List VT) (s1 s2 : Value) (G : Hp) (h1 : rV.S G a s1) (h2 : rV.S G b s2) : Pure Tryd.prog 48 [s1, s2] G (fun v _ => v = .bool (eqL vsm a b)) := by
  have h10 := h1
  have h20 := h2
  have l1 := Rp.S_len h1
  have l2 := Rp.S_len h2
  obtain ⟨ad1, cap1, rfl⟩ := Rp.S_slice h1
  obtain ⟨ad2, cap2, rfl⟩ := Rp.S_slice h2
  refine enterX ty tyok Tryd.func48 rfl Tryd.ntmps48 [.v (.slice ad1 a.length cap1), .v (.slice ad2 b.length cap2)] (by simp) ?_
  intro C hP hQ hnt hty hmb hmh hro; have hQp := qp_body hQ; refine st_ ?_
  refine rn_ ?_; intros
  by_cases hl : a.length = b.length
  rotate_left
  · (refine x_split rfl rfl rfl (fun _ => ?_) (fun hc => absurd hc (by simp; omega)); refine st_ ?_; (refine ru_ ?_; intros))
    refine rn_ ?_; intros
    refine x_retc rfl hQ hmb rfl (by rw [hty]; simp only [so, sq, zy, zz, tyE, SO', SQ', opQ, opStore, opAlloc, ev, putS, dOk, cv, SV.cs, SV.one, SV.bool?, eqB, Value.oneCell', ldOwn, binInt, binConst, binBool, binStr, isC, TK.agg, rv, rv1, ldV, resOne, resV, Nat.reduceAdd, Nat.reduceMul, Nat.reduceSub, Nat.reduceLT, Nat.reduceLeDiff, Nat.reduceEqDiff, Nat.reduceBEq, reduceIte, reduceCtorEq, eq_self]; try rfl) rfl ?_; simp only [SV.den, resV, dens]
    rw [eqL_len hl]
  (refine x_split rfl rfl rfl (fun hc => absurd hc (by simp; omega)) (fun _ => ?_); refine st_ ?_; (refine ru_ ?_; intros))
  refine rn_ ?_; intros
  refine go_keep [0, 1, 5] [] ?_
  refine st_ ?_
  refine x_loop rfl (fun q st => ∃ (k : Nat), k ≤ a.length ∧ q = a.length - k ∧ eqL vsm a b = eqL vsm (a.drop k) (b.drop k) ∧
    st = ⟨[(0, .v (.slice ad1 a.length cap1)), (1, .v (.slice ad2 b.length cap2)), (5, .v (.int .i64 k))], [], G, []⟩) ⟨0, by omega, rfl, rfl, rfl⟩ ?_
  rintro q st ⟨k, hk, hq, heq, rfl⟩ ih
  refine rn_ ?_; intros
  refine x_if rfl rfl rfl rfl (fun hjl => ?_) (fun hjl => ?_)
  · have hlt : k < a.length := by simp at hjl; omega
    have hlt2 : k < b.length := by omega
    rw [eqL_step hlt hlt2] at heq
    obtain ⟨c1, o1, x1, rfl, hat1, hr1, hb1⟩ := rV_at h10 hlt
    obtain ⟨c2, o2, x2, rfl, hat2, hr2, hb2⟩ := rV_at h20 hlt2
    obtain ⟨a1, p1, rfl⟩ := VT.repC_slice hr1
    obtain ⟨a2, p2, rfl⟩ := VT.repC_slice hr2
    refine rn_ ?_; intros
    refine x_draw rfl (by rw [hP]; kernel_rfl) rfl (by kernel_rfl) ?_
    refine runq 400 hty hnt ?_; refine st_ ?_
    refine q_q (by rw [hnt]; rfl) (quiet_index (by rw [hty]; rfl) (by rw [hty]; rfl) rfl rfl rfl (by omega) (by omega)) ?_; refine runq 400 hty hnt ?_; refine st_ ?_
    refine q_q (v := .agg #[.int .i64 a[k].k, .int .i64 a[k].n, .slice a1 a[k].l.length p1]) (by rw [hnt]; rfl) ((quiet_load (by rw [hty]; rfl) rfl (fun q => by cases q) hat1 rfl).cast (by simp only [ldV]; rfl)) ?_
    refine runq 400 hty hnt ?_; refine st_ ?_
    refine q_q (by rw [hnt]; rfl) (quiet_index (by rw [hty]; rfl) (by rw [hty]; rfl) rfl rfl rfl (by omega) (by omega)) ?_; refine runq 400 hty hnt ?_; refine st_ ?_
    refine q_q (v := .agg #[.int .i64 b[k].k, .int .i64 b[k].n, .slice a2 b[k].l.length p2]) (by rw [hnt]; rfl) ((quiet_load (by rw [hty]; rfl) rfl (fun q => by cases q) hat2 rfl).cast (by simp only [ldV]; rfl)) ?_
    refine runq 400 hty hnt ?_; refine st_ ?_
    refine q_callf (by rw [hnt]; rfl) (by rw [hP]; kernel_rfl) rfl (hP ▸ refSame_ok a[k] b[k] _ _ _ (VT.repC_rep hr1) (VT.repC_rep hr2) (by omega) (by omega)) ?_; refine runq 400 hty hnt ?_; refine st_ ?_
    refine q_end ?_; refine rn_ ?_; intros
    rw [show (sml a[k] && sml b[k] && veq a[k] b[k]) = vsm a[k] b[k] from rfl]
    cases he : vsm a[k] b[k]
    · rw [he, Bool.false_and] at heq
      (try ((refine x_split rfl rfl rfl (fun _ => ?_) (fun hc => absurd hc (by first | decide +kernel | (simp; first | done | fail))); refine st_ ?_; (refine ru_ ?_; intros))))
      refine rn_ ?_; intros
      refine x_retc rfl hQ hmb rfl (by rw [hty]; simp only [so, sq, zy, zz, tyE, SO', SQ', opQ, opStore, opAlloc, ev, putS, dOk, cv, SV.cs, SV.one, SV.bool?, eqB, Value.oneCell', ldOwn, binInt, binConst, binBool, binStr, isC, TK.agg, rv, rv1, ldV, resOne, resV, Nat.reduceAdd, Nat.reduceMul, Nat.reduceSub, Nat.reduceLT, Nat.reduceLeDiff, Nat.reduceEqDiff, Nat.reduceBEq, reduceIte, reduceCtorEq, eq_self]; try rfl) rfl ?_; simp only [SV.den, resV, dens]
      rw [heq]
    · rw [he, Bool.true_and] at heq
      (try ((refine x_split rfl rfl rfl (fun hc => absurd hc (by first | decide +kernel | (simp; first | done | fail))) (fun _ => ?_); refine st_ ?_; (refine ru_ ?_; intros))))
      refine rn_ ?_; intros
      rw [wr (n := (k : Int) + 1) (by omega) (by omega)]
      refine go_keep [0, 1, 5] [] ?_
      refine st_ ?_
      exact ih (a.length - (k + 1)) _ (by omega) ⟨k + 1, by omega, rfl, heq, rfl⟩
  have hge : k = a.length := by simp at hjl; omega
  have heq2 : eqL vsm a b = true := by rw [heq, hge, List.drop_length, List.drop_eq_nil_of_le (by omega)]; rfl
  refine rn_ ?_; intros
  refine x_retc rfl hQ hmb rfl (by rw [hty]; simp only [so, sq, zy, zz, tyE, SO', SQ', opQ, opStore, opAlloc, ev, putS, dOk, cv, SV.cs, SV.one, SV.bool?, eqB, Value.oneCell', ldOwn, binInt, binConst, binBool, binStr, isC, TK.agg, rv, rv1, ldV, resOne, resV, Nat.reduceAdd, Nat.reduceMul, Nat.reduceSub, Nat.reduceLT, Nat.reduceLeDiff, Nat.reduceEqDiff, Nat.reduceBEq, reduceIte, reduceCtorEq, eq_self]; try rfl) rfl ?_; simp only [SV.den, resV, dens]
  rw [heq2]
theorem rints_ok (a b : List Int) (s1 s2 : Value) (G : Hp) (h1 : rI.S G a s1) (h2 : rI.S G b s2) : Pure Tryd.prog 25 [s1, s2] G (fun v _ => v = .bool (eqL (· == ·) a b)) := by
  have h10 := h1
  have h20 := h2
  have l1 := Rp.S_len h1
  have l2 := Rp.S_len h2
  obtain ⟨ad1, cap1, rfl⟩ := Rp.S_slice h1
  obtain ⟨ad2, cap2, rfl⟩ := Rp.S_slice h2
  refine enterX ty tyok Tryd.func25 rfl Tryd.ntmps25 [.v (.slice ad1 a.length cap1), .v (.slice ad2 b.length cap2)] (by simp) ?_
  intro C hP hQ hnt hty hmb hmh hro; have hQp := qp_body hQ; refine st_ ?_
  refine rn_ ?_; intros
  by_cases hl : a.length = b.length
  rotate_left
  · (refine x_split rfl rfl rfl (fun _ => ?_) (fun hc => absurd hc (by simp; omega)); refine st_ ?_; (refine ru_ ?_; intros))
    refine rn_ ?_; intros
    refine x_retc rfl hQ hmb rfl (by rw [hty]; simp only [so, sq, zy, zz, tyE, SO', SQ', opQ, opStore, opAlloc, ev, putS, dOk, cv, SV.cs, SV.one, SV.bool?, eqB, Value.oneCell', ldOwn, binInt, binConst, binBool, binStr, isC, TK.agg, rv, rv1, ldV, resOne, resV, Nat.reduceAdd, Nat.reduceMul, Nat.reduceSub, Nat.reduceLT, Nat.reduceLeDiff, Nat.reduceEqDiff, Nat.reduceBEq, reduceIte, reduceCtorEq, eq_self]; try rfl) rfl ?_; simp only [SV.den, resV, dens]
    rw [eqL_len hl]
  (refine x_split rfl rfl rfl (fun hc => absurd hc (by simp; omega)) (fun _ => ?_); refine st_ ?_; (refine ru_ ?_; intros))
  refine rn_ ?_; intros
  refine go_keep [0, 1, 5] [] ?_
  refine st_ ?_
  refine x_loop rfl (fun q st => ∃ (k : Nat), k ≤ a.length ∧ q = a.length - k ∧ eqL (· == ·) a b = eqL (· == ·) (a.drop k) (b.drop k) ∧
    st = ⟨[(0, .v (.slice ad1 a.length cap1)), (1, .v (.slice ad2 b.length cap2)), (5, .v (.int .i64 k))], [], G, []⟩) ⟨0, by omega, rfl, rfl, rfl⟩ ?_
  rintro q st ⟨k, hk, hq, heq, rfl⟩ ih
  refine rn_ ?_; intros
  refine x_if rfl rfl rfl rfl (fun hjl => ?_) (fun hjl => ?_)
  · have hlt : k < a.length := by simp at hjl; omega
    have hlt2 : k < b.length := by omega
    rw [eqL_step hlt hlt2] at heq
    obtain ⟨c1, o1, q1, y1, e1, hat1, hc1⟩ := Rp.S_get h10 hlt
    cases e1
    obtain ⟨c2, o2, q2, y2, e2, hat2, hc2⟩ := Rp.S_get h20 hlt2
    cases e2
    simp only [rI] at hat1 hc1 hat2 hc2
    obtain ⟨rfl, _⟩ := hc1
    obtain ⟨rfl, _⟩ := hc2
    rw [Nat.mul_one] at hat1 hat2
    refine rn_ ?_; intros
    refine x_draw rfl (by rw [hP]; kernel_rfl) rfl (by kernel_rfl) ?_
    refine runq 400 hty hnt ?_; refine st_ ?_
    refine q_q (by rw [hnt]; rfl) (quiet_index (by rw [hty]; rfl) (by rw [hty]; rfl) rfl rfl rfl (by omega) (by omega)) ?_; refine runq 400 hty hnt ?_; refine st_ ?_
    refine q_q (v := .int .i64 a[k]) (by rw [hnt]; rfl) ((quiet_load (vs := [.int .i64 a[k]]) (by rw [hty]; rfl) rfl (by simp [TK.agg]) (by simpa using hat1) rfl).cast (by rfl)) ?_
    refine runq 400 hty hnt ?_; refine st_ ?_
    refine q_q (by rw [hnt]; rfl) (quiet_index (by rw [hty]; rfl) (by rw [hty]; rfl) rfl rfl rfl (by omega) (by omega)) ?_; refine runq 400 hty hnt ?_; refine st_ ?_
    refine q_q (v := .int .i64 b[k]) (by rw [hnt]; rfl) ((quiet_load (vs := [.int .i64 b[k]]) (by rw [hty]; rfl) rfl (by simp [TK.agg]) (by simpa using hat2) rfl).cast (by rfl)) ?_
    refine runq 400 hty hnt ?_; refine st_ ?_
    refine q_end ?_; refine rn_ ?_; intros
    by_cases he : a[k] = b[k]
    · rw [show (a[k] == b[k]) = true by simpa using he, Bool.true_and] at heq
      (refine x_split rfl rfl rfl (fun hc => absurd hc (by simpa using he)) (fun _ => ?_); refine st_ ?_; (refine ru_ ?_; intros))
      refine rn_ ?_; intros
      rw [wr (n := (k : Int) + 1) (by omega) (by omega)]
      refine go_keep [0, 1, 5] [] ?_
      refine st_ ?_
      exact ih (a.length - (k + 1)) _ (by omega) ⟨k + 1, by omega, rfl, heq, rfl⟩
    · rw [show (a[k] == b[k]) = false by simpa using he, Bool.false_and] at heq
      (refine x_split rfl rfl rfl (fun _ => ?_) (fun hc => absurd hc (by simpa using he)); refine st_ ?_; (refine ru_ ?_; intros))
      refine rn_ ?_; intros
      refine x_retc rfl hQ hmb rfl (by rw [hty]; simp only [so, sq, zy, zz, tyE, SO', SQ', opQ, opStore, opAlloc, ev, putS, dOk, cv, SV.cs, SV.one, SV.bool?, eqB, Value.oneCell', ldOwn, binInt, binConst, binBool, binStr, isC, TK.agg, rv, rv1, ldV, resOne, resV, Nat.reduceAdd, Nat.reduceMul, Nat.reduceSub, Nat.reduceLT, Nat.reduceLeDiff, Nat.reduceEqDiff, Nat.reduceBEq, reduceIte, reduceCtorEq, eq_self]; try rfl) rfl ?_; simp only [SV.den, resV, dens]
      rw [heq]
  have hge : k = a.length := by simp at hjl; omega
  have heq2 : eqL (· == ·) a b = true := by rw [heq, hge, List.drop_length, List.drop_eq_nil_of_le (by omega)]; rfl
  refine rn_ ?_; intros
  refine x_retc rfl hQ hmb rfl (by rw [hty]; simp only [so, sq, zy, zz, tyE, SO', SQ', opQ, opStore, opAlloc, ev, putS, dOk, cv, SV.cs, SV.one, SV.bool?, eqB, Value.oneCell', ldOwn, binInt, binConst, binBool, binStr, isC, TK.agg, rv, rv1, ldV, resOne, resV, Nat.reduceAdd, Nat.reduceMul, Nat.reduceSub, Nat.reduceLT, Nat.reduceLeDiff, Nat.reduceEqDiff, Nat.reduceBEq, reduceIte, reduceCtorEq, eq_self]; try rfl) rfl ?_; simp only [SV.den, resV, dens]
  rw [heq2]
theorem sameCall_ok (x y : Cl) (s1 s2 : Value) (G : Hp) (h1 : rV.S G x.a s1) (h2 : rV.S G y.a s2) : Pure Tryd.prog 24 [.agg #[.int .i64 x.f, s1], .agg #[.int .i64 y.f, s2]] G (fun v _ => v = .bool (clE x y)) := by
  obtain ⟨ad1, cap1, rfl⟩ := Rp.S_slice h1
  obtain ⟨ad2, cap2, rfl⟩ := Rp.S_slice h2
  refine enterX ty tyok Tryd.func24 rfl Tryd.ntmps24 [.a [.v (.int .i64 x.f), .v (.slice ad1 x.a.length cap1)], .a [.v (.int .i64 y.f), .v (.slice ad2 y.a.length cap2)]] (by simp) ?_
  intro C hP hQ hnt hty hmb hmh hro; have hQp := qp_body hQ; refine st_ ?_
  refine rn_ ?_; intros
  cases hf : x.f == y.f
  · (refine go_gsplit rfl rfl (fun hc => absurd hc (by simp)) (fun _ => ?_); refine st_ ?_; (refine rn_ ?_; intros))
    repeat (refine go_gundef rfl (by rw [hnt]; rfl) rfl ?_; (refine st_ ?_; (refine rn_ ?_; intros)))
    refine rn_ ?_; intros
    refine x_retc rfl hQ hmb rfl (by rw [hty]; simp only [so, sq, zy, zz, tyE, SO', SQ', opQ, opStore, opAlloc, ev, putS, dOk, cv, SV.cs, SV.one, SV.bool?, eqB, Value.oneCell', ldOwn, binInt, binConst, binBool, binStr, isC, TK.agg, rv, rv1, ldV, resOne, resV, Nat.reduceAdd, Nat.reduceMul, Nat.reduceSub, Nat.reduceLT, Nat.reduceLeDiff, Nat.reduceEqDiff, Nat.reduceBEq, reduceIte, reduceCtorEq, eq_self]; try rfl) rfl ?_; simp only [SV.den, resV, dens]
    rw [clE, hf]; rfl
  · (refine go_gsplit rfl rfl (fun _ => ?_) (fun hc => absurd hc (by simp)); refine st_ ?_; (refine rn_ ?_; intros))
    refine go_callf (by rw [hnt]; rfl) (by rw [hP]; kernel_rfl) rfl (hP ▸ vals_ok x.a y.a _ _ G h1 h2) ?_; refine rn_ ?_; intros
    refine x_retc rfl hQ hmb rfl (by rw [hty]; simp only [so, sq, zy, zz, tyE, SO', SQ', opQ, opStore, opAlloc, ev, putS, dOk, cv, SV.cs, SV.one, SV.bool?, eqB, Value.oneCell', ldOwn, binInt, binConst, binBool, binStr, isC, TK.agg, rv, rv1, ldV, resOne, resV, Nat.reduceAdd, Nat.reduceMul, Nat.reduceSub, Nat.reduceLT, Nat.reduceLeDiff, Nat.reduceEqDiff, Nat.reduceBEq, reduceIte, reduceCtorEq, eq_self]; try rfl) rfl ?_; simp only [SV.den, resV, dens]
    rw [clE, hf]; rfl
theorem calls_ok (a b : List Cl) (s1 s2 : Value) (G : Hp) (h1 : rC.S G a s1) (h2 : rC.S G b s2) : Pure Tryd.prog 38 [s1, s2] G (fun v _ => v = .bool (eqL clE a b)) := by
  have h10 := h1
  have h20 := h2
  have l1 := Rp.S_len h1
  have l2 := Rp.S_len h2
  obtain ⟨ad1, cap1, rfl⟩ := Rp.S_slice h1
  obtain ⟨ad2, cap2, rfl⟩ := Rp.S_slice h2
  refine enterX ty tyok Tryd.func38 rfl Tryd.ntmps38 [.v (.slice ad1 a.length cap1), .v (.slice ad2 b.length cap2)] (by simp) ?_
  intro C hP hQ hnt hty hmb hmh hro; have hQp := qp_body hQ; refine st_ ?_
  refine rn_ ?_; intros
  by_cases hl : a.length = b.length
  rotate_left
  · (refine x_split rfl rfl rfl (fun _ => ?_) (fun hc => absurd hc (by simp; omega)); refine st_ ?_; (refine ru_ ?_; intros))
    refine rn_ ?_; intros
    refine x_retc rfl hQ hmb rfl (by rw [hty]; simp only [so, sq, zy, zz, tyE, SO', SQ', opQ, opStore, opAlloc, ev, putS, dOk, cv, SV.cs, SV.one, SV.bool?, eqB, Value.oneCell', ldOwn, binInt, binConst, binBool, binStr, isC, TK.agg, rv, rv1, ldV, resOne, resV, Nat.reduceAdd, Nat.reduceMul, Nat.reduceSub, Nat.reduceLT, Nat.reduceLeDiff, Nat.reduceEqDiff, Nat.reduceBEq, reduceIte, reduceCtorEq, eq_self]; try rfl) rfl ?_; simp only [SV.den, resV, dens]
    rw [eqL_len hl]
  (refine x_split rfl rfl rfl (fun hc => absurd hc (by simp; omega)) (fun _ => ?_); refine st_ ?_; (refine ru_ ?_; intros))
  refine rn_ ?_; intros
  refine go_keep [0, 1, 5] [] ?_
  refine st_ ?_
  refine x_loop rfl (fun q st => ∃ (k : Nat), k ≤ a.length ∧ q = a.length - k ∧ eqL clE a b = eqL clE (a.drop k) (b.drop k) ∧
    st = ⟨[(0, .v (.slice ad1 a.length cap1)), (1, .v (.slice ad2 b.length cap2)), (5, .v (.int .i64 k))], [], G, []⟩) ⟨0, by omega, rfl, rfl, rfl⟩ ?_
  rintro q st ⟨k, hk, hq, heq, rfl⟩ ih
  refine rn_ ?_; intros
  refine x_if rfl rfl rfl rfl (fun hjl => ?_) (fun hjl => ?_)
  · have hlt : k < a.length := by simp at hjl; omega
    have hlt2 : k < b.length := by omega
    rw [eqL_step hlt hlt2] at heq
    obtain ⟨c1, o1, x1, rfl, hat1, _, hr1⟩ := rC_at h10 hlt
    obtain ⟨c2, o2, x2, rfl, hat2, _, hr2⟩ := rC_at h20 hlt2
    obtain ⟨a1, p1, rfl⟩ := Rp.S_slice hr1
    obtain ⟨a2, p2, rfl⟩ := Rp.S_slice hr2
    refine rn_ ?_; intros
    refine x_draw rfl (by rw [hP]; kernel_rfl) rfl (by kernel_rfl) ?_
    refine runq 400 hty hnt ?_; refine st_ ?_
    refine q_q (by rw [hnt]; rfl) (quiet_index (by rw [hty]; rfl) (by rw [hty]; rfl) rfl rfl rfl (by omega) (by omega)) ?_; refine runq 400 hty hnt ?_; refine st_ ?_
    refine q_q (v := .agg #[.int .i64 a[k].f, .slice a1 a[k].a.length p1]) (by rw [hnt]; rfl) ((quiet_load (by rw [hty]; rfl) rfl (fun q => by cases q) hat1 rfl).cast (by simp only [ldV]; rfl)) ?_
    refine runq 400 hty hnt ?_; refine st_ ?_
    refine q_q (by rw [hnt]; rfl) (quiet_index (by rw [hty]; rfl) (by rw [hty]; rfl) rfl rfl rfl (by omega) (by omega)) ?_; refine runq 400 hty hnt ?_; refine st_ ?_
    refine q_q (v := .agg #[.int .i64 b[k].f, .slice a2 b[k].a.length p2]) (by rw [hnt]; rfl) ((quiet_load (by rw [hty]; rfl) rfl (fun q => by cases q) hat2 rfl).cast (by simp only [ldV]; rfl)) ?_
    refine runq 400 hty hnt ?_; refine st_ ?_
    refine q_callf (by rw [hnt]; rfl) (by rw [hP]; kernel_rfl) rfl (hP ▸ sameCall_ok a[k] b[k] _ _ _ hr1 hr2) ?_; refine runq 400 hty hnt ?_; refine st_ ?_
    refine q_end ?_; refine rn_ ?_; intros
    cases he : clE a[k] b[k]
    · rw [he, Bool.false_and] at heq
      (try ((refine x_split rfl rfl rfl (fun _ => ?_) (fun hc => absurd hc (by first | decide +kernel | (simp; first | done | fail))); refine st_ ?_; (refine ru_ ?_; intros))))
      refine rn_ ?_; intros
      refine x_retc rfl hQ hmb rfl (by rw [hty]; simp only [so, sq, zy, zz, tyE, SO', SQ', opQ, opStore, opAlloc, ev, putS, dOk, cv, SV.cs, SV.one, SV.bool?, eqB, Value.oneCell', ldOwn, binInt, binConst, binBool, binStr, isC, TK.agg, rv, rv1, ldV, resOne, resV, Nat.reduceAdd, Nat.reduceMul, Nat.reduceSub, Nat.reduceLT, Nat.reduceLeDiff, Nat.reduceEqDiff, Nat.reduceBEq, reduceIte, reduceCtorEq, eq_self]; try rfl) rfl ?_; simp only [SV.den, resV, dens]
      rw [heq]
    · rw [he, Bool.true_and] at heq
      (try ((refine x_split rfl rfl rfl (fun hc => absurd hc (by first | decide +kernel | (simp; first | done | fail))) (fun _ => ?_); refine st_ ?_; (refine ru_ ?_; intros))))
      refine rn_ ?_; intros
      rw [wr (n := (k : Int) + 1) (by omega) (by omega)]
      refine go_keep [0, 1, 5] [] ?_
      refine st_ ?_
      exact ih (a.length - (k + 1)) _ (by omega) ⟨k + 1, by omega, rfl, heq, rfl⟩
  have hge : k = a.length := by simp at hjl; omega
  have heq2 : eqL clE a b = true := by rw [heq, hge, List.drop_length, List.drop_eq_nil_of_le (by omega)]; rfl
  refine rn_ ?_; intros
  refine x_retc rfl hQ hmb rfl (by rw [hty]; simp only [so, sq, zy, zz, tyE, SO', SQ', opQ, opStore, opAlloc, ev, putS, dOk, cv, SV.cs, SV.one, SV.bool?, eqB, Value.oneCell', ldOwn, binInt, binConst, binBool, binStr, isC, TK.agg, rv, rv1, ldV, resOne, resV, Nat.reduceAdd, Nat.reduceMul, Nat.reduceSub, Nat.reduceLT, Nat.reduceLeDiff, Nat.reduceEqDiff, Nat.reduceBEq, reduceIte, reduceCtorEq, eq_self]; try rfl) rfl ?_; simp only [SV.den, resV, dens]
  rw [heq2]
theorem sameBase_ok (x y : Bs) (v1 w1 c1 v2 w2 c2 : Value) (G : Hp) (h1 : x.rep G v1 w1 c1) (h2 : y.rep G v2 w2 c2) : Pure Tryd.prog 15 [.agg (bsL x v1 w1 c1).toArray, .agg (bsL y v2 w2 c2).toArray] G (fun v _ => v = .bool (bsE x y)) := by
  obtain ⟨a1, p1, rfl⟩ := VT.repC_slice h1.v
  obtain ⟨a2, p2, rfl⟩ := VT.repC_slice h2.v
  obtain ⟨a3, p3, rfl⟩ := Rp.S_slice h1.w
  obtain ⟨a4, p4, rfl⟩ := Rp.S_slice h2.w
  obtain ⟨a5, p5, rfl⟩ := Rp.S_slice h1.c
  obtain ⟨a6, p6, rfl⟩ := Rp.S_slice h2.c
  have hb1 := h1.b
  have hb2 := h2.b
  refine enterX ty tyok Tryd.func15 rfl Tryd.ntmps15 [.a (bsC x (.slice a1 x.v.l.length p1) (.slice a3 x.w.length p3) (.slice a5 x.c.length p5)), .a (bsC y (.slice a2 y.v.l.length p2) (.slice a4 y.w.length p4) (.slice a6 y.c.length p6))] (by simp) ?_
  simp only [bsC]
  intro C hP hQ hnt hty hmb hmh hro; have hQp := qp_body hQ; refine st_ ?_
  refine rn_ ?_; intros
  cases e1 : x.k == y.k
  · (refine go_gsplit rfl rfl (fun hc => absurd hc (by simp)) (fun _ => ?_); refine st_ ?_; (refine rn_ ?_; intros))
    repeat (refine go_gundef rfl (by rw [hnt]; rfl) rfl ?_; (refine st_ ?_; (refine rn_ ?_; intros)))
    refine rn_ ?_; intros
    refine x_retc rfl hQ hmb rfl (by rw [hty]; simp only [so, sq, zy, zz, tyE, SO', SQ', opQ, opStore, opAlloc, ev, putS, dOk, cv, SV.cs, SV.one, SV.bool?, eqB, Value.oneCell', ldOwn, binInt, binConst, binBool, binStr, isC, TK.agg, rv, rv1, ldV, resOne, resV, Nat.reduceAdd, Nat.reduceMul, Nat.reduceSub, Nat.reduceLT, Nat.reduceLeDiff, Nat.reduceEqDiff, Nat.reduceBEq, reduceIte, reduceCtorEq, eq_self]; try rfl) rfl ?_; simp only [SV.den, resV, dens]
    simp only [bsE, e1, Bool.false_and]
  (refine go_gsplit rfl rfl (fun _ => ?_) (fun hc => absurd hc (by simp)); refine st_ ?_; (refine rn_ ?_; intros))
  cases e2 : x.n == y.n
  · (refine go_gsplit rfl rfl (fun hc => absurd hc (by simp)) (fun _ => ?_); refine st_ ?_; (refine rn_ ?_; intros))
    repeat (refine go_gundef rfl (by rw [hnt]; rfl) rfl ?_; (refine st_ ?_; (refine rn_ ?_; intros)))
    refine rn_ ?_; intros
    refine x_retc rfl hQ hmb rfl (by rw [hty]; simp only [so, sq, zy, zz, tyE, SO', SQ', opQ, opStore, opAlloc, ev, putS, dOk, cv, SV.cs, SV.one, SV.bool?, eqB, Value.oneCell', ldOwn, binInt, binConst, binBool, binStr, isC, TK.agg, rv, rv1, ldV, resOne, resV, Nat.reduceAdd, Nat.reduceMul, Nat.reduceSub, Nat.reduceLT, Nat.reduceLeDiff, Nat.reduceEqDiff, Nat.reduceBEq, reduceIte, reduceCtorEq, eq_self]; try rfl) rfl ?_; simp only [SV.den, resV, dens]
    simp only [bsE, e1, e2, Bool.false_and, Bool.and_false]
  (refine go_gsplit rfl rfl (fun _ => ?_) (fun hc => absurd hc (by simp)); refine st_ ?_; (refine rn_ ?_; intros))
  refine go_callf (by rw [hnt]; rfl) (by rw [hP]; kernel_rfl) rfl (hP ▸ refSame_ok x.v y.v _ _ G (VT.repC_rep h1.v) (VT.repC_rep h2.v) (by omega) (by omega)) ?_; refine rn_ ?_; intros
  rw [show (sml x.v && sml y.v && veq x.v y.v) = vsm x.v y.v from rfl]
  cases e3 : vsm x.v y.v
  · (refine go_gsplit rfl rfl (fun hc => absurd hc (by simp)) (fun _ => ?_); refine st_ ?_; (refine rn_ ?_; intros))
    repeat (refine go_gundef rfl (by rw [hnt]; rfl) rfl ?_; (refine st_ ?_; (refine rn_ ?_; intros)))
    refine rn_ ?_; intros
    refine x_retc rfl hQ hmb rfl (by rw [hty]; simp only [so, sq, zy, zz, tyE, SO', SQ', opQ, opStore, opAlloc, ev, putS, dOk, cv, SV.cs, SV.one, SV.bool?, eqB, Value.oneCell', ldOwn, binInt, binConst, binBool, binStr, isC, TK.agg, rv, rv1, ldV, resOne, resV, Nat.reduceAdd, Nat.reduceMul, Nat.reduceSub, Nat.reduceLT, Nat.reduceLeDiff, Nat.reduceEqDiff, Nat.reduceBEq, reduceIte, reduceCtorEq, eq_self]; try rfl) rfl ?_; simp only [SV.den, resV, dens]
    simp only [bsE, e1, e2, e3, Bool.false_and, Bool.and_false]
  (refine go_gsplit rfl rfl (fun _ => ?_) (fun hc => absurd hc (by simp)); refine st_ ?_; (refine rn_ ?_; intros))
  refine go_callf (by rw [hnt]; rfl) (by rw [hP]; kernel_rfl) rfl (hP ▸ calls_ok x.w y.w _ _ G h1.w h2.w) ?_; refine rn_ ?_; intros
  cases e4 : eqL clE x.w y.w
  · (refine go_gsplit rfl rfl (fun hc => absurd hc (by simp)) (fun _ => ?_); refine st_ ?_; (refine rn_ ?_; intros))
    repeat (refine go_gundef rfl (by rw [hnt]; rfl) rfl ?_; (refine st_ ?_; (refine rn_ ?_; intros)))
    refine rn_ ?_; intros
    refine x_retc rfl hQ hmb rfl (by rw [hty]; simp only [so, sq, zy, zz, tyE, SO', SQ', opQ, opStore, opAlloc, ev, putS, dOk, cv, SV.cs, SV.one, SV.bool?, eqB, Value.oneCell', ldOwn, binInt, binConst, binBool, binStr, isC, TK.agg, rv, rv1, ldV, resOne, resV, Nat.reduceAdd, Nat.reduceMul, Nat.reduceSub, Nat.reduceLT, Nat.reduceLeDiff, Nat.reduceEqDiff, Nat.reduceBEq, reduceIte, reduceCtorEq, eq_self]; try rfl) rfl ?_; simp only [SV.den, resV, dens]
    simp only [bsE, e1, e2, e3, e4, Bool.false_and, Bool.and_false]
  (refine go_gsplit rfl rfl (fun _ => ?_) (fun hc => absurd hc (by simp)); refine st_ ?_; (refine rn_ ?_; intros))
  refine go_callf (by rw [hnt]; rfl) (by rw [hP]; kernel_rfl) rfl (hP ▸ rints_ok x.c y.c _ _ G h1.c h2.c) ?_; refine rn_ ?_; intros
  refine x_retc rfl hQ hmb rfl (by rw [hty]; simp only [so, sq, zy, zz, tyE, SO', SQ', opQ, opStore, opAlloc, ev, putS, dOk, cv, SV.cs, SV.one, SV.bool?, eqB, Value.oneCell', ldOwn, binInt, binConst, binBool, binStr, isC, TK.agg, rv, rv1, ldV, resOne, resV, Nat.reduceAdd, Nat.reduceMul, Nat.reduceSub, Nat.reduceLT, Nat.reduceLeDiff, Nat.reduceEqDiff, Nat.reduceBEq, reduceIte, reduceCtorEq, eq_self]; try rfl) rfl ?_; simp only [SV.den, resV, dens]
  rw [bsE, e1, e2, e3, e4]; rfl
theorem bases_ok (a b : List Bs) (s1 s2 : Value) (G : Hp) (h1 : rB.S G a s1) (h2 : rB.S G b s2) : Pure Tryd.prog 9 [s1, s2] G (fun v _ => v = .bool (eqL bsE a b)) := by
  have h10 := h1
  have h20 := h2
  have l1 := Rp.S_len h1
  have l2 := Rp.S_len h2
  obtain ⟨ad1, cap1, rfl⟩ := Rp.S_slice h1
  obtain ⟨ad2, cap2, rfl⟩ := Rp.S_slice h2
  refine enterX ty tyok Tryd.func9 rfl Tryd.ntmps9 [.v (.slice ad1 a.length cap1), .v (.slice ad2 b.length cap2)] (by simp) ?_
  intro C hP hQ hnt hty hmb hmh hro; have hQp := qp_body hQ; refine st_ ?_
  refine rn_ ?_; intros
  by_cases hl : a.length = b.length
  rotate_left
  · (refine x_split rfl rfl rfl (fun _ => ?_) (fun hc => absurd hc (by simp; omega)); refine st_ ?_; (refine ru_ ?_; intros))
    refine rn_ ?_; intros
    refine x_retc rfl hQ hmb rfl (by rw [hty]; simp only [so, sq, zy, zz, tyE, SO', SQ', opQ, opStore, opAlloc, ev, putS, dOk, cv, SV.cs, SV.one, SV.bool?, eqB, Value.oneCell', ldOwn, binInt, binConst, binBool, binStr, isC, TK.agg, rv, rv1, ldV, resOne, resV, Nat.reduceAdd, Nat.reduceMul, Nat.reduceSub, Nat.reduceLT, Nat.reduceLeDiff, Nat.reduceEqDiff, Nat.reduceBEq, reduceIte, reduceCtorEq, eq_self]; try rfl) rfl ?_; simp only [SV.den, resV, dens]
    rw [eqL_len hl]
  (refine x_split rfl rfl rfl (fun hc => absurd hc (by simp; omega)) (fun _ => ?_); refine st_ ?_; (refine ru_ ?_; intros))
  refine rn_ ?_; intros
  refine go_keep [0, 1, 5] [] ?_
  refine st_ ?_
  refine x_loop rfl (fun q st => ∃ (k : Nat), k ≤ a.length ∧ q = a.length - k ∧ eqL bsE a b = eqL bsE (a.drop k) (b.drop k) ∧
    st = ⟨[(0, .v (.slice ad1 a.length cap1)), (1, .v (.slice ad2 b.length cap2)), (5, .v (.int .i64 k))], [], G, []⟩) ⟨0, by omega, rfl, rfl, rfl⟩ ?_
  rintro q st ⟨k, hk, hq, heq, rfl⟩ ih
  refine rn_ ?_; intros
  refine x_if rfl rfl rfl rfl (fun hjl => ?_) (fun hjl => ?_)
  · have hlt : k < a.length := by simp at hjl; omega
    have hlt2 : k < b.length := by omega
    rw [eqL_step hlt hlt2] at heq
    obtain ⟨c1, o1, v1, w1, n1, rfl, hat1, hr1⟩ := rB_at h10 hlt
    obtain ⟨c2, o2, v2, w2, n2, rfl, hat2, hr2⟩ := rB_at h20 hlt2
    obtain ⟨a1, p1, rfl⟩ := VT.repC_slice hr1.v
    obtain ⟨a2, p2, rfl⟩ := VT.repC_slice hr2.v
    obtain ⟨a3, p3, rfl⟩ := Rp.S_slice hr1.w
    obtain ⟨a4, p4, rfl⟩ := Rp.S_slice hr2.w
    obtain ⟨a5, p5, rfl⟩ := Rp.S_slice hr1.c
    obtain ⟨a6, p6, rfl⟩ := Rp.S_slice hr2.c
    refine rn_ ?_; intros
    refine x_draw rfl (by rw [hP]; kernel_rfl) rfl (by kernel_rfl) ?_
    refine runq 400 hty hnt ?_; refine st_ ?_
    refine q_q (by rw [hnt]; rfl) (quiet_index (by rw [hty]; rfl) (by rw [hty]; rfl) rfl rfl rfl (by omega) (by omega)) ?_; refine runq 400 hty hnt ?_; refine st_ ?_
    refine q_q (v := .agg (bsL a[k] (.slice a1 a[k].v.l.length p1) (.slice a3 a[k].w.length p3) (.slice a5 a[k].c.length p5)).toArray) (by rw [hnt]; rfl) ((quiet_load (by rw [hty]; rfl) rfl (fun q => by cases q) (by simpa only [Int.toNat_natCast] using hat1) rfl).cast (by simp only [ldV]; rfl)) ?_
    simp only [bsL]
    refine runq 400 hty hnt ?_; refine st_ ?_
    refine q_q (by rw [hnt]; rfl) (quiet_index (by rw [hty]; rfl) (by rw [hty]; rfl) rfl rfl rfl (by omega) (by omega)) ?_; refine runq 400 hty hnt ?_; refine st_ ?_
    refine q_q (v := .agg (bsL b[k] (.slice a2 b[k].v.l.length p2) (.slice a4 b[k].w.length p4) (.slice a6 b[k].c.length p6)).toArray) (by rw [hnt]; rfl) ((quiet_load (by rw [hty]; rfl) rfl (fun q => by cases q) (by simpa only [Int.toNat_natCast] using hat2) rfl).cast (by simp only [ldV]; rfl)) ?_
    simp only [bsL]
    refine runq 400 hty hnt ?_; refine st_ ?_
    refine q_callf (by rw [hnt]; rfl) (by rw [hP]; kernel_rfl) rfl (hP ▸ sameBase_ok a[k] b[k] _ _ _ _ _ _ _ hr1 hr2) ?_; refine runq 400 hty hnt ?_; refine st_ ?_
    refine q_end ?_; refine rn_ ?_; intros
    cases he : bsE a[k] b[k]
    · rw [he, Bool.false_and] at heq
      (try ((refine x_split rfl rfl rfl (fun _ => ?_) (fun hc => absurd hc (by first | decide +kernel | (simp; first | done | fail))); refine st_ ?_; (refine ru_ ?_; intros))))
      refine rn_ ?_; intros
      refine x_retc rfl hQ hmb rfl (by rw [hty]; simp only [so, sq, zy, zz, tyE, SO', SQ', opQ, opStore, opAlloc, ev, putS, dOk, cv, SV.cs, SV.one, SV.bool?, eqB, Value.oneCell', ldOwn, binInt, binConst, binBool, binStr, isC, TK.agg, rv, rv1, ldV, resOne, resV, Nat.reduceAdd, Nat.reduceMul, Nat.reduceSub, Nat.reduceLT, Nat.reduceLeDiff, Nat.reduceEqDiff, Nat.reduceBEq, reduceIte, reduceCtorEq, eq_self]; try rfl) rfl ?_; simp only [SV.den, resV, dens]
      rw [heq]
    · rw [he, Bool.true_and] at heq
      (try ((refine x_split rfl rfl rfl (fun hc => absurd hc (by first | decide +kernel | (simp; first | done | fail))) (fun _ => ?_); refine st_ ?_; (refine ru_ ?_; intros))))
      refine rn_ ?_; intros
      rw [wr (n := (k : Int) + 1) (by omega) (by omega)]
      refine go_keep [0, 1, 5] [] ?_
      refine st_ ?_
      exact ih (a.length - (k + 1)) _ (by omega) ⟨k + 1, by omega, rfl, heq, rfl⟩
  have hge : k = a.length := by simp at hjl; omega
  have heq2 : eqL bsE a b = true := by rw [heq, hge, List.drop_length, List.drop_eq_nil_of_le (by omega)]; rfl
  refine rn_ ?_; intros
  refine x_retc rfl hQ hmb rfl (by rw [hty]; simp only [so, sq, zy, zz, tyE, SO', SQ', opQ, opStore, opAlloc, ev, putS, dOk, cv, SV.cs, SV.one, SV.bool?, eqB, Value.oneCell', ldOwn, binInt, binConst, binBool, binStr, isC, TK.agg, rv, rv1, ldV, resOne, resV, Nat.reduceAdd, Nat.reduceMul, Nat.reduceSub, Nat.reduceLT, Nat.reduceLeDiff, Nat.reduceEqDiff, Nat.reduceBEq, reduceIte, reduceCtorEq, eq_self]; try rfl) rfl ?_; simp only [SV.den, resV, dens]
  rw [heq2]
end Go.Proofs.YthocgjchmpkhoaaDoor
