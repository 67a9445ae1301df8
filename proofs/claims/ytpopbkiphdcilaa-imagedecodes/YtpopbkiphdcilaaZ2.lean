/-
  A symbolic walk over the model's code: the statement 'for .. := range f'. Generic: names no program.
-/
import Derived.Test.YtpopbkiphdcilaaZ1
import Derived.MapKept
import Derived.Test.YtpopbkiphdcilaaRows
set_option linter.unusedSimpArgs false
set_option linter.unusedVariables false
namespace Go.Sx
set_option linter.unusedSimpArgs false
set_option linter.unusedVariables false
open Go.RowKit

abbrev Owns := List (Nat × Nat × OO)

def putsS : List Nat → List Value → List (Nat × SV) → List (Nat × SV)
  | p :: ps, v :: vs, sl => putsS ps vs (stk p (rv v) sl)
  | _, _, sl => sl

theorem slots_puts : ∀ (ps : List Nat) (vs : List Value) (sl : List (Nat × SV)) (tmps : Array Value) (df : List Deferred), (∀ p ∈ ps, p < tmps.size) → Slots sl ⟨tmps, df⟩ →
    Slots (putsS ps vs sl) ⟨(ps.zip vs).foldl (fun t (p, v) => t.setIfInBounds p v) tmps, df⟩ ∧ ((ps.zip vs).foldl (fun t (p, v) => t.setIfInBounds p v) tmps).size = tmps.size
  | [], vs, sl, tmps, df, _, h => by simp [putsS, h]
  | p :: ps, [], sl, tmps, df, _, h => by simp [putsS, h]
  | p :: ps, v :: vs, sl, tmps, df, hp, h => by
    simp only [putsS, List.zip_cons_cons, List.foldl_cons]
    have := slots_puts ps vs (stk p (rv v) sl) (tmps.setIfInBounds p v) df (fun q hq => by simpa using hp q (by simp [hq])) (fun i x e => by
      rw [lk_stk] at e
      show (tmps.setIfInBounds p v)[i]? = _
      split at e
      · rename_i hi; subst hi; cases e
        rw [Array.getElem?_setIfInBounds_self_of_lt (hp i (by simp)), rv_den]
      · rename_i hi
        rw [Array.getElem?_setIfInBounds_ne (Ne.symm hi)]
        exact h i x e)
    refine ⟨this.1, ?_⟩
    rw [this.2]; simp

def Plain (own : Owns) : Prop := ∀ h b o, lk h own = some (b, o) → ∀ g, o.blks b g → o.mut b g

def RZ (C : Ctx) (Gs : Hp) (l D : Nat) (p : Obj → Owns → Prop) : Zn where
  A Z M W := ∃ own G rc, p rc own ∧ Plain own ∧ Mem C own G W ∧ Le Gs G ∧ W.heap[l]? = some rc ∧ W.heap[D]? = some (.deferred (some [])) ∧ G l = none ∧ G D = none ∧ (∀ h b o, lk h own = some (b, o) → ¬ o.blks b l ∧ ¬ o.blks b D) ∧
    (∀ g, Z g ↔ g = l ∨ g = D ∨ (∃ h b o, lk h own = some (b, o) ∧ o.blks b g) ∨ (∃ x, G g = some x) ∨ g < C.w0.heap.size) ∧ (∀ g, M g ↔ g = l ∨ g = D ∨ ∃ h b o, lk h own = some (b, o) ∧ o.mut b g)
  lt Z M W h g hg := by
    obtain ⟨own, G, rc, _, _, hm, _, hl, hD, _, _, _, hZ, _⟩ := h
    rcases (hZ g).1 hg with rfl | rfl | ⟨k, b, o, h1, h2⟩ | ⟨x, h1⟩ | h1
    · exact lt_of_heap hl
    · exact lt_of_heap hD
    · exact hm.lt h1 h2
    · exact lt_of_heap (hm.has g x h1)
    · have := hm.grow.size; omega
  sub Z M W h g hg := by
    obtain ⟨own, G, rc, _, _, hm, _, hl, hD, _, _, _, hZ, hM⟩ := h
    rcases (hM g).1 hg with rfl | rfl | ⟨k, b, o, h1, h2⟩
    · exact (hZ _).2 (.inl rfl)
    · exact (hZ _).2 (.inr (.inl rfl))
    · exact (hZ _).2 (.inr (.inr (.inl ⟨k, b, o, h1, OO.mut_blks (hm.own _ _ _ h1).1 h2⟩)))
  st Z M W W' h hf hs := by
    obtain ⟨own, G, rc, hp, hpl, hm, hle, hl, hD, hGl, hGD, hno, hZ, hM⟩ := h
    refine ⟨own, G, rc, hp, hpl, ⟨fun k b o e => ?_, hm.inj, ?_⟩, hle, ?_, ?_, hGl, hGD, hno, hZ, hM⟩
    · obtain ⟨f1, f2⟩ := hm.own k b o e
      exact ⟨OO.holds_same f1 hf fun g hg => hs g ((hZ g).2 (.inr (.inr (.inl ⟨k, b, o, e, hg⟩)))), f2⟩
    · have q := hm.grow
      refine ⟨hf.os.trans q.os, hf.tape.trans q.tape, hf.output.trans q.output, Nat.le_trans q.size hf.size, fun k hk hmb => ?_, fun b o e => ?_, q.old⟩
      · rw [hs k ((hZ k).2 (.inr (.inr (.inr (.inr hk)))))]; exact q.blk k hk hmb
      · rw [hs b ((hZ b).2 (.inr (.inr (.inr (.inl ⟨o, e⟩)))))]; exact q.has b o e
    · rw [hs l ((hZ l).2 (.inl rfl))]; exact hl
    · rw [hs D ((hZ D).2 (.inr (.inl rfl)))]; exact hD

def QR (C0 : Ctx) (I : Nat → Owns → Prop) (J : Code → Owns → Prop) (l D : Nat) (r : Loop) (k : Nat) : Exit → Act → World → Prop := fun e _ w =>
  ∃ own G, Mem C0 own G w ∧ lk 999 own = some (l, .o (.loop { r with state := .busy })) ∧ lk 998 own = some (D, .o (.deferred (some []))) ∧
    match e with
    | .normal => I (k + 1) (rmk 998 (rmk 999 own))
    | .ret => J .ret (rmk 998 (rmk 999 own))
    | .exit id => J (.exit id) (rmk 998 (rmk 999 own))
    | .goto t => J (.goto t) (rmk 998 (rmk 999 own))
    | _ => False

structure Round (C' C0 : Ctx) (C : Ctx) (I : Nat → Owns → Prop) (J : Code → Owns → Prop) (l D : Nat) (r : Loop) (k : Nat) : Prop where
  P : C'.P = C.P
  ty : C'.ty = C.ty
  nt : C'.nt = C.nt
  mh : C'.mh = 1000
  ro : C'.ro = some l
  Q : C'.Q = QR C0 I J l D r k
  mem : ∀ own G w, Mem C' own G w → Mem C0 own G w
  ready : r.state = .ready

section
variable {C C' C0 : Ctx} {K : List KI} {s : St} {I : Nat → Owns → Prop} {J : Code → Owns → Prop} {l D k : Nat} {r : Loop}

theorem Round.qp (h : Round C' C0 C I J l D r k) : QP C' := by
  intro c a w d v hp
  rw [h.Q] at hp ⊢
  exact hp

theorem go_br (h9 : lk 999 s.own = some (l, .o (.loop r))) (hr : r.state = .ready) (h : SGo C K ⟨s.sl, stk 999 (l, .o (.loop { r with state := .busy })) s.own, s.G, s.df⟩) : SGo C (.br l :: K) s := by
  intro a w hS
  have hl : w.heap[l]? = some (.loop r) := (hS.mem.own _ _ _ h9).1
  refine ⟨_, run_beginRound hl hr, ?_⟩
  refine h a _ ⟨hS.sl, hS.nt, hS.df, ?_⟩
  refine hS.mem.put h9 rfl rfl rfl (by simp) (fun j _ hj => World.putObj_heap_other hj) (World.putObj_heap_same (lt_of_heap hl)) (fun g => ⟨.inl, .inl⟩)
theorem go_rend (hR : Round C' C0 C I J l D r k) (h9 : lk 999 s.own = some (l, .o (.loop { r with state := .busy }))) (h8 : lk 998 s.own = some (D, .o (.deferred (some [])))) (h : I (k + 1) (rmk 998 (rmk 999 s.own))) : SGo C' [] s := by
  intro a w hS
  show C'.Q .normal a w
  rw [hR.Q]
  exact ⟨s.own, s.G, hR.mem _ _ _ hS.mem, h9, h8, h⟩
theorem x_rret {kc : Code} (ht : tag kc = 7) (hR : Round C' C0 C I J l D r k) (h9 : lk 999 s.own = some (l, .o (.loop { r with state := .busy }))) (h8 : lk 998 s.own = some (D, .o (.deferred (some [])))) (h : J .ret (rmk 998 (rmk 999 s.own))) (hnb : noBr K = true := by rfl) : SGo C' (.code kc :: K) s := by
  intro a w hS
  cases kc <;> simp [tag] at ht
  · rename_i a b c; cases c <;> simp at ht
  refine wpIn_ret ?_
  rw [wpK_ret _ _ _ hnb, hR.Q]
  exact ⟨s.own, s.G, hR.mem _ _ _ hS.mem, h9, h8, h⟩
theorem wpK_exit0 {P : Program} {ro : Option Nat} {Q : Exit → Act → World → Prop} (id : Nat) : ∀ (K : List KI) (a : Act) (w : World), noBr K = true → popTo id K = none → Q (.exit id) a w → wpK P ro Q K (.exit id) a w
  | [], _, _, _, _, g => g
  | .code _ :: K, a, w, h, e, g => wpK_exit0 id K a w h e g
  | .loop _ :: K, a, w, h, e, g => wpK_exit0 id K a w h e g
  | .ops _ _ :: K, a, w, h, e, g => wpK_exit0 id K a w h e g
  | .q _ _ _ :: K, a, w, h, e, g => wpK_exit0 id K a w h e g
  | .h _ _ _ _ :: K, a, w, h, e, g => wpK_exit0 id K a w h e g
  | .hs _ :: K, a, w, h, e, g => wpK_exit0 id K a w h e g
  | .br _ :: K, a, w, h, e, g => by cases h
  | .blk id' :: K, a, w, h, e, g => by
    simp only [popTo] at e
    simp only [wpK]
    split at e
    · cases e
    · rename_i q; rw [if_neg q]; exact wpK_exit0 id K a w h e g
theorem x_rexit {kc : Code} (ht : tag kc = 4) {id : Nat} (hi : cid kc = id) (hp : popTo id K = none) (hR : Round C' C0 C I J l D r k) (h9 : lk 999 s.own = some (l, .o (.loop { r with state := .busy }))) (h8 : lk 998 s.own = some (D, .o (.deferred (some [])))) (h : J (.exit id) (rmk 998 (rmk 999 s.own))) (hnb : noBr K = true := by rfl) : SGo C' (.code kc :: K) s := by
  subst hi
  intro a w hS
  cases kc <;> simp [tag] at ht
  · rename_i a b c; cases c <;> simp at ht
  refine wpIn_exit (wpK_exit0 _ K a w hnb hp ?_)
  rw [hR.Q]
  exact ⟨s.own, s.G, hR.mem _ _ _ hS.mem, h9, h8, h⟩

theorem Mem.alloc0 {own : Owns} {G : Hp} {w : World} (h : Mem C own G w) (o : Obj) : Mem C own G (w.alloc o) :=
  h.stay (G1 := G) (G' := G) ((Grow.refl h.has).alloc o)

theorem Mem.other {own : Owns} {G : Hp} {w : World} (h : Mem C own G w) {l : Nat} {o : Obj} (hG : G l = none) (hl : C.w0.heap.size ≤ l) (hno : ∀ k b x, lk k own = some (b, x) → ¬ x.blks b l) : Mem C own G (w.putObj l o) := by
  have hs : ∀ j, j ≠ l → (w.putObj l o).heap[j]? = w.heap[j]? := fun j hj => World.putObj_heap_other hj
  refine ⟨fun k b x e => ?_, h.inj, ?_⟩
  · obtain ⟨f1, f2⟩ := h.own k b x e
    exact ⟨OO.holds_same f1 ⟨rfl, rfl, rfl, by simp⟩ fun g hg => hs g (fun q => hno k b x e (q ▸ hg)), f2⟩
  · have q := h.grow
    refine ⟨q.os, q.tape, q.output, by simpa using q.size, fun k hk hm => ?_, fun b x e => ?_, q.old⟩
    · rw [hs k (by omega)]; exact q.blk k hk hm
    · rw [hs b (by intro e'; subst e'; rw [hG] at e; cases e)]; exact q.has b x e

theorem Mem.addD {own : Owns} {G : Hp} {w : World} (h : Mem C own G w) {kd b D : Nat} {ds : List Nat} (hk : lk kd own = some (b, dzO ds)) (hD : w.heap[D]? = some (.deferred (some []))) (hG : G D = none) (hl : C.w0.heap.size ≤ D) (hno : ∀ k b x, lk k own = some (b, x) → ¬ x.blks b D) : Mem C (stk kd (b, dzO (D :: ds)) own) G w := by
  obtain ⟨g1, g2⟩ := h.own _ _ _ hk
  obtain ⟨z1, z2, z3, z4⟩ := g1
  refine ⟨fun j c x e => ?_, fun j j' c c' x x' g e e' f f' => ?_, h.grow⟩
  · rw [lk_stk] at e
    split at e
    · rename_i hj; subst hj; cases e
      refine ⟨⟨fun _ => Iff.rfl, fun _ => Iff.rfl, ?_, ?_⟩, fun g hg => ?_⟩
      · refine List.nodup_cons.2 ⟨fun q => hno _ _ _ hk q, z3⟩
      · intro g hg
        rcases List.mem_cons.1 hg with rfl | hg
        · exact hD
        · exact z4 g hg
      · rcases List.mem_cons.1 hg with rfl | hg
        · exact ⟨hG, fun _ => hl, fun _ => .inr hl⟩
        · exact g2 g hg
    · exact h.own _ _ _ e
  · have key : ∀ {j c x}, lk j own = some (c, x) → x.blks c g → g ∈ D :: ds → j = kd := by
      intro j2 c2 x2 e2 f2 f3
      rcases List.mem_cons.1 f3 with hg | hg
      · rw [hg] at f2; exact absurd f2 (hno _ _ _ e2)
      · exact h.inj _ _ _ _ _ _ g e2 hk f2 hg
    rw [lk_stk] at e e'
    split at e <;> split at e'
    · omega
    · rename_i h1 h2; cases e; exact absurd (key e' f' f) h2
    · rename_i h1 h2; cases e'; exact absurd (key e f f') h1
    · exact h.inj _ _ _ _ _ _ _ e e' f f'

open Classical in
theorem go_range (kd : Nat) {g : Operand} {ps : Array Tmp} {assign body : Code} {gf : FuncId} {cap : List Value} {zg : SV} {enc : Nat → List Value → Hp → Prop} {N bd : Nat} {ds : List Nat}
    (hro : C.ro = none) (hmh : C.mh = 0) (hg : ev s.sl g = some zg) (hgv : zg.den = .func (.func gf) #[] cap.toArray) (hcall : canCall C.P gf = true) (hps : ∀ p ∈ ps.toList, p < C.nt)
    (hit : Iter C.P gf cap s.G enc N) (hmono : ∀ k vs G G', Le G G' → enc k vs G → enc k vs G') (hlen : ∀ k vs G, enc k vs G → vs.length = ps.size)
    (I : Nat → Owns → Prop) (J : Code → Owns → Prop) (hI : ∀ k own, I k own → (∀ h x, lk h own = some x → h < 998) ∧ Plain own ∧ lk kd own = some (bd, dzO ds)) (hJ : ∀ c own, J c own → Plain own ∧ lk kd own = some (bd, dzO ds)) (h0 : I 0 s.own)
    (hbody : ∀ C' C0 k own vs G1 l D r, k < N → I k own → Le s.G G1 → enc k vs G1 → Round C' C0 C I J l D r k →
      SGo C' [.code assign, .br l, .code body] ⟨putsS ps.toList vs s.sl, (998, D, .o (.deferred (some []))) :: (999, l, .o (.loop r)) :: own, G1, []⟩)
    (hdone : ∀ D own G', I N own → Le s.G G' → SGo C K ⟨s.sl, stk kd (bd, dzO (D :: ds)) own, G', mkD D :: s.df⟩)
    (hstop : ∀ D c own G', J c own → Le s.G G' → SGo C (.code c :: K) ⟨s.sl, stk kd (bd, dzO (D :: ds)) own, G', mkD D :: s.df⟩) : SGo C (.code (.rangeFunc g ps assign body) :: K) s := by
  intro a w hS
  have hgv' := ev_ok hS.sl hg
  rw [hgv] at hgv'
  show Code.wpIn (FR C.ro) 0 C.P _ _ a w
  rw [hro]
  refine wpIn_rangeFunc ?_
  intro fn _
  obtain ⟨rec, hrec⟩ : ∃ rec : LoopState → Option Code → Loop, rec = fun st pe => { state := st, pending := pe, fn, tmps := a.tmps, params := ps, assign, body, defers := w.heap.size } := ⟨_, rfl⟩
  obtain ⟨W1, hW1⟩ : ∃ W1, (w.alloc (.deferred (some []))).alloc (.loop (rec .ready none)) = W1 := ⟨_, rfl⟩
  obtain ⟨l, hl⟩ : ∃ l, w.heap.size + 1 = l := ⟨_, rfl⟩
  obtain ⟨D, hD⟩ : ∃ D, w.heap.size = D := ⟨_, rfl⟩
  have hsz := hS.mem.grow.size
  have hL1 : W1.heap[l]? = some (.loop (rec .ready none)) := by
    rw [← hW1, ← hl]; have := World.alloc_heap_new (w.alloc (.deferred (some []))) (.loop (rec .ready none)); rwa [World.size_alloc] at this
  have hD1 : W1.heap[D]? = some (.deferred (some [])) := by
    rw [← hW1, ← hD]; exact (Below.heap_alloc _ _ _ (by simp)).trans (World.alloc_heap_new w _)
  have hm1 : Mem C s.own s.G W1 := by rw [← hW1]; exact (hS.mem.alloc0 _).alloc0 _
  have hGn : ∀ g, w.heap.size ≤ g → s.G g = none := fun g hg => by
    cases hG : s.G g with
    | none => rfl
    | some x => have := lt_of_heap (hS.mem.has g x hG); omega
  have hbn : ∀ g, w.heap.size ≤ g → ∀ h b o, lk h s.own = some (b, o) → ¬ o.blks b g := fun g hg h b o e q => by
    have := hS.mem.lt e q; omega
  -- the zones
  obtain ⟨A, hA⟩ : ∃ A : Nat → Zn, A = fun k => RZ C s.G l D (fun rc own => rc = .loop (rec .ready none) ∧ I k own) := ⟨_, rfl⟩
  obtain ⟨B, hB⟩ : ∃ B : Zn, B = RZ C s.G l D (fun rc own => ∃ c, rc = .loop (rec .done (some c)) ∧ J c own) := ⟨_, rfl⟩
  have hlD : l ≠ D := by omega
  have hyok : YOk C.P l A B enc N := by
    intro k vs W Z M G2 hkN hAk hG2 hM2 henc
    rw [hA] at hAk
    obtain ⟨own, G, rc, ⟨rfl, hIk⟩, hpl, hm, hle, hLl, hLD, hGl, hGD, hno, hZ, hM⟩ := hAk
    obtain ⟨hI1, _, hIkd⟩ := hI k own hIk
    have hsz2 := hm.grow.size
    have hyl := run_yield (P := C.P) (args := vs.toArray) hLl (by rw [hrec]; simpa using hlen k vs G2 henc)
    refine ⟨_, _, _, _, hyl, ?_⟩
    -- what is known in the round
    obtain ⟨G1, hG1⟩ : ∃ G1 : Hp, G1 = fun b => match G b with | some o => some o | none => G2 b := ⟨_, rfl⟩
    have hG1s : ∀ b o, G b = some o → G1 b = some o := fun b o e => by rw [hG1]; simp [e]
    have hG1h : Has W G1 := fun b o e => by
      rw [hG1] at e
      simp only at e
      cases hb : G b with
      | some x => rw [hb] at e; cases e; exact hm.has b _ hb
      | none => rw [hb] at e; exact hG2 b o e
    have hle2 : Le G2 G1 := fun b o e => by
      cases hb : G b with
      | some x =>
        have e1 := hm.has b x hb
        have e2 := hG2 b o e
        rw [e1] at e2; cases e2
        exact hG1s b _ hb
      | none => rw [hG1]; simp [hb, e]
    have hG1n : ∀ g, M g → G1 g = none := fun g hg => by
      have e1 : G g = none := by
        rcases (hM g).1 hg with rfl | rfl | ⟨h, b, o, e, q⟩
        · exact hGl
        · exact hGD
        · exact ((hm.own _ _ _ e).2 g q).1
      rw [hG1]; simp [e1, hM2 g hg]
    obtain ⟨C0, hC0⟩ : ∃ C0 : Ctx, C0 = ⟨C.P, fun _ _ _ => True, C.nt, C.ty, C.tyok, W, G1, (List.range W.heap.size).filter (fun g => decide (M g)), 1000, some l⟩ := ⟨_, rfl⟩
    obtain ⟨C', hC'⟩ : ∃ C' : Ctx, C' = ⟨C.P, QR C0 I J l D (rec .ready none) k, C.nt, C.ty, C.tyok, W, G1, (List.range W.heap.size).filter (fun g => decide (M g)), 1000, some l⟩ := ⟨_, rfl⟩
    have hmem : ∀ own G w, Mem C' own G w → Mem C0 own G w := fun own G w h => by
      rw [hC'] at h; rw [hC0]; exact ⟨h.own, h.inj, h.grow⟩
    have hround : Round C' C0 C I J l D (rec .ready none) k := by
      refine ⟨?_, ?_, ?_, ?_, ?_, ?_, hmem, by rw [hrec]⟩ <;> rw [hC']
    have hgo := hbody C' C0 k own vs G1 l D (rec .ready none) hkN hIk (hle.trans hG1s) (hmono k vs G2 G1 hle2 henc) hround
    have hMl : M l := (hM l).2 (.inl rfl)
    have hMD : M D := (hM D).2 (.inr (.inl rfl))
    have hltl := lt_of_heap hLl
    have hltD := lt_of_heap hLD
    have hmb : ∀ g, g ∈ C'.mb ↔ g < W.heap.size ∧ M g := fun g => by rw [hC']; simp [List.mem_filter]
    have hw0 : C'.w0 = W := by rw [hC']
    have hmh' : C'.mh = 1000 := by rw [hC']
    have hmem1 : Mem C' ((998, D, .o (.deferred (some []))) :: (999, l, .o (.loop (rec .ready none))) :: own) G1 W := by
      refine ⟨fun h b o e => ?_, fun h h' b b' o o' g e e' f f' => ?_, ?_⟩
      · simp only [lk] at e
        split at e
        · rename_i q; subst q; cases e
          refine ⟨hLD, fun g hg => ?_⟩
          simp only [OO.mut] at hg
          subst hg
          exact ⟨hG1n _ hMD, fun q => by omega, fun _ => .inl ((hmb _).2 ⟨hltD, hMD⟩)⟩
        · split at e
          · rename_i q; subst q; cases e
            refine ⟨hLl, fun g hg => ?_⟩
            simp only [OO.mut] at hg
            subst hg
            exact ⟨hG1n _ hMl, fun q => by omega, fun _ => .inl ((hmb _).2 ⟨hltl, hMl⟩)⟩
          · obtain ⟨f1, f2⟩ := hm.own _ _ _ e
            have hh := hI1 _ _ e
            refine ⟨?_, fun g hg => ?_⟩
            · cases o <;> exact f1
            · have hMg := (hM g).2 (.inr (.inr ⟨h, b, o, e, hg⟩))
              exact ⟨hG1n g hMg, fun q => by omega, fun _ => .inl ((hmb g).2 ⟨hm.ltm e hg, hMg⟩)⟩
      · simp only [lk] at e e'
        split at e
        · rename_i q; subst q; cases e
          simp only [OO.blks] at f
          subst f
          split at e'
          · omega
          · split at e'
            · cases e'; simp only [OO.blks] at f'; omega
            · exact absurd f' (hno _ _ _ e').2
        · split at e
          · rename_i q; subst q; cases e
            simp only [OO.blks] at f
            subst f
            split at e'
            · cases e'; simp only [OO.blks] at f'; omega
            · split at e'
              · omega
              · exact absurd f' (hno _ _ _ e').1
          · split at e'
            · cases e'; simp only [OO.blks] at f'; subst f'; exact absurd f (hno _ _ _ e).2
            · split at e'
              · cases e'; simp only [OO.blks] at f'; subst f'; exact absurd f (hno _ _ _ e).1
              · exact hm.inj _ _ _ _ _ _ _ e e' f f'
      · have : Grow C'.mb W G1 W G1 := Grow.refl hG1h
        rw [hC'] at this ⊢
        exact this
    have hslots := slots_puts ps.toList vs s.sl a.tmps [] (fun p hp => by rw [hS.nt]; exact hps p hp) (fun i x e => hS.sl i x e)
    have hwp := hgo ⟨_, []⟩ W ⟨hslots.1, by rw [hslots.2, hround.nt]; exact hS.nt, rfl, hmem1⟩
    rw [hround.P, hround.ro] at hwp
    have hzip : (ps.zip vs.toArray).foldl (fun t (x : Tmp × Value) => match x with | (p, v) => t.setIfInBounds p v) a.tmps = (ps.toList.zip vs).foldl (fun t (p, v) => t.setIfInBounds p v) a.tmps := by
      rw [← Array.foldl_toList, Array.toList_zip]
    -- what a round's end leads to
    have fin : ∀ (W3 : World) (own3 : Owns) (G3 : Hp) (jump : Option Code) (p : Obj → Owns → Prop), Mem C0 own3 G3 W3 → lk 999 own3 = some (l, .o (.loop { rec .ready none with state := .busy })) → lk 998 own3 = some (D, .o (.deferred (some []))) →
        p (.loop (rec (if jump.isNone then .ready else .done) jump)) (rmk 998 (rmk 999 own3)) → Plain (rmk 998 (rmk 999 own3)) →
        ∃ W4 Z' M', (Instr.endRound l jump).run C.P W3 = .ok (.bool jump.isNone) W4 ∧ YRes W Z M W4 Z' M' ∧ (RZ C s.G l D p).A Z' M' W4 := by
      intro W3 own3 G3 jump p hm3 h9 h8 hp3 hpl3
      rw [hC0] at hm3
      have hl3 : W3.heap[l]? = some (.loop { rec .ready none with state := .busy }) := (hm3.own _ _ _ h9).1
      have hD3 : W3.heap[D]? = some (.deferred (some [])) := (hm3.own _ _ _ h8).1
      have hend := run_endRound (P := C.P) jump hl3
      have hgr := hm3.grow
      have hmb0 : ∀ g, g ∈ (List.range W.heap.size).filter (fun g => decide (M g)) ↔ g < W.heap.size ∧ M g := fun g => by simp [List.mem_filter]
      -- the blocks of what is the caller's own
      have hown : ∀ h b o, lk h (rmk 998 (rmk 999 own3)) = some (b, o) → lk h own3 = some (b, o) ∧ h ≠ 998 ∧ h ≠ 999 := fun h b o e => by
        rw [lk_rmk] at e
        split at e
        · cases e
        · rw [lk_rmk] at e
          split at e
          · cases e
          · exact ⟨e, by assumption, by assumption⟩
      have hmut : ∀ h b o, lk h own3 = some (b, o) → ∀ g, o.mut b g → M g ∨ W.heap.size ≤ g := fun h b o e g hg => by
        obtain ⟨_, q2, q3⟩ := (hm3.own _ _ _ e).2 g hg
        rcases Nat.lt_or_ge h 1000 with r | r
        · exact (q3 r).imp (fun q => ((hmb0 g).1 q).2) id
        · exact .inr (q2 r)
      obtain ⟨G4, hG4⟩ : ∃ G4 : Hp, G4 = fun b => if b < W.heap.size then G b else G3 b := ⟨_, rfl⟩
      have hMG : ∀ g, M g → G g = none := fun g hg => by
        rcases (hM g).1 hg with rfl | rfl | ⟨h, b, o, e, q⟩
        · exact hGl
        · exact hGD
        · exact ((hm.own _ _ _ e).2 g q).1
      have hMlow : ∀ g, M g → C.w0.heap.size ≤ g := fun g hg => by
        rcases (hM g).1 hg with rfl | rfl | ⟨h, b, o, e, q⟩
        · omega
        · omega
        · exact ((hm.own _ _ _ e).2 g q).2.1 (by omega)
      have hsame4 : ∀ j, j < W.heap.size → ¬ M j → (W3.putObj l (.loop { { rec .ready none with state := .busy } with state := if jump.isNone then .ready else .done, pending := jump })).heap[j]? = W.heap[j]? := fun j hj hM' => by
        rw [World.putObj_heap_other (by intro e; subst e; exact hM' hMl)]
        exact hgr.blk j hj (fun q => hM' ((hmb0 j).1 q).2)
      have hG3l : G3 l = none := ((hm3.own _ _ _ h9).2 l rfl).1
      have hG3D : G3 D = none := ((hm3.own _ _ _ h8).2 D rfl).1
      have hhas4 : ∀ b o, G4 b = some o → (W3.putObj l (.loop { { rec .ready none with state := .busy } with state := if jump.isNone then .ready else .done, pending := jump })).heap[b]? = some o := fun b o e => by
        rw [hG4] at e
        simp only at e
        split at e
        · rename_i hb
          rw [hsame4 b hb (fun q => by rw [hMG b q] at e; cases e)]
          exact hm.has b o e
        · rw [World.putObj_heap_other (fun q => by subst q; rw [hG3l] at e; cases e)]
          exact hgr.has b o e
      have hrc : (Loop.mk (if jump.isNone then .ready else .done) jump (rec .ready none).fn (rec .ready none).tmps (rec .ready none).params (rec .ready none).assign (rec .ready none).body (rec .ready none).defers) = rec (if jump.isNone then .ready else .done) jump := by rw [hrec]
      refine ⟨_, _, _, hend, ⟨⟨hgr.os, hgr.tape, hgr.output, by simpa using hgr.size⟩, fun g hg => ?_, fun g hg => ?_, hsame4⟩, rmk 998 (rmk 999 own3), G4, _, hp3, hpl3, ⟨fun h b o e => ?_, fun h h' b b' o o' g e e' f f' => ?_, ?_⟩, ?_, ?_, ?_, ?_, ?_, ?_, fun g => Iff.rfl, fun g => Iff.rfl⟩
      · rcases hg with rfl | rfl | ⟨h, b, o, e, q⟩ | ⟨x, e⟩ | q
        · exact .inl ((hZ _).2 (.inl rfl))
        · exact .inl ((hZ _).2 (.inr (.inl rfl)))
        · refine (hmut h b o (hown _ _ _ e).1 g (hpl3 h b o e g q)).imp (fun q => ?_) id
          rcases (hM g).1 q with rfl | rfl | ⟨h', b', o', e', q'⟩
          · exact (hZ _).2 (.inl rfl)
          · exact (hZ _).2 (.inr (.inl rfl))
          · exact (hZ _).2 (.inr (.inr (.inl ⟨h', b', o', e', OO.mut_blks (hm.own _ _ _ e').1 q'⟩)))
        · rw [hG4] at e
          simp only at e
          split at e
          · exact .inl ((hZ _).2 (.inr (.inr (.inr (.inl ⟨x, e⟩)))))
          · exact .inr (by omega)
        · exact .inl ((hZ _).2 (.inr (.inr (.inr (.inr q)))))
      · rcases hg with rfl | rfl | ⟨h, b, o, e, q⟩
        · exact .inl hMl
        · exact .inl hMD
        · exact hmut h b o (hown _ _ _ e).1 g q
      · obtain ⟨e1, n8, n9⟩ := hown _ _ _ e
        obtain ⟨f1, f2⟩ := hm3.own _ _ _ e1
        refine ⟨?_, fun g hg => ?_⟩
        · have : OO.holds C.w0.heap.size W3 b o := by cases o <;> exact f1
          refine OO.holds_same this ⟨rfl, rfl, rfl, by simp⟩ fun g hg => ?_
          rw [World.putObj_heap_other]
          intro q
          subst q
          exact n9 (hm3.inj _ _ _ _ _ _ g e1 h9 hg rfl)
        · have hq := hmut _ _ _ e1 g hg
          refine ⟨?_, fun _ => hq.elim (hMlow g) (fun q => by omega), fun q => by omega⟩
          rw [hG4]
          show (if g < W.heap.size then G g else G3 g) = none
          split
          · rename_i hlt
            exact hMG g (hq.resolve_right (by omega))
          · exact (f2 g hg).1
      · exact hm3.inj _ _ _ _ _ _ _ (hown _ _ _ e).1 (hown _ _ _ e').1 f f'
      · refine ⟨hgr.os.trans hm.grow.os, hgr.tape.trans hm.grow.tape, hgr.output.trans hm.grow.output, by have := hgr.size; simp only [World.putObj_size]; exact Nat.le_trans hsz2 this, fun j hj hmbj => ?_, hhas4, fun b hb => ?_⟩
        · rw [hsame4 j (by omega) (fun q => by have := hMlow j q; omega)]
          exact hm.grow.blk j hj hmbj
        · rw [hG4]
          show (if b < W.heap.size then G b else G3 b) = _
          rw [if_pos (by omega)]
          exact hm.grow.old b hb
      · intro b o e
        rw [hG4]
        show (if b < W.heap.size then G b else G3 b) = _
        have := hle b o e
        rw [if_pos (lt_of_heap (hm.has b o this))]
        exact this
      · rw [World.putObj_heap_same (lt_of_heap hl3)]
        exact congrArg (fun x => some (Obj.loop x)) hrc
      · rw [World.putObj_heap_other (Ne.symm hlD)]; exact hD3
      · rw [hG4]
        show (if l < W.heap.size then G l else G3 l) = none
        rw [if_pos hltl]; exact hGl
      · rw [hG4]
        show (if D < W.heap.size then G D else G3 D) = none
        rw [if_pos hltD]; exact hGD
      · intro h b o e
        obtain ⟨e1, n8, n9⟩ := hown _ _ _ e
        exact ⟨fun q => n9 (hm3.inj _ _ _ _ _ _ l e1 h9 q rfl), fun q => n8 (hm3.inj _ _ _ _ _ _ D e1 h8 q rfl)⟩
    refine roundIn_of_wpIn trivial ?_
    rw [hrec]
    simp only [hzip]
    refine wpIn_mono hwp ?_
    intro e a₁ w₁ hq
    cases e with
    | normal =>
      obtain ⟨w₂, hbr, hb⟩ := hq
      refine ⟨w₂, hbr, wpIn_mono hb ?_⟩
      intro e a₂ w₃ hq
      have hq' : C'.Q e a₂ w₃ := hq
      rw [hround.Q] at hq'
      obtain ⟨own3, G3, hm3, h9, h8, hend⟩ := hq'
      cases e with
      | normal =>
        obtain ⟨W4, Z', M', q1, q2, q3⟩ := fin w₃ own3 G3 none (fun rc own => rc = .loop (rec .ready none) ∧ I (k + 1) own) hm3 h9 h8 ⟨rfl, hend⟩ (hI _ _ hend).2.1
        exact ⟨_, _, q1, _, rfl, Z', M', q2, .inl ⟨rfl, by rw [hA]; exact q3⟩⟩
      | ret =>
        obtain ⟨W4, Z', M', q1, q2, q3⟩ := fin w₃ own3 G3 (some .ret) (fun rc own => ∃ c, rc = .loop (rec .done (some c)) ∧ J c own) hm3 h9 h8 ⟨_, rfl, hend⟩ (hJ _ _ hend).1
        exact ⟨_, _, q1, _, rfl, Z', M', q2, .inr ⟨rfl, by rw [hB]; exact q3⟩⟩
      | exit id =>
        obtain ⟨W4, Z', M', q1, q2, q3⟩ := fin w₃ own3 G3 (some (.exit id)) (fun rc own => ∃ c, rc = .loop (rec .done (some c)) ∧ J c own) hm3 h9 h8 ⟨_, rfl, hend⟩ (hJ _ _ hend).1
        exact ⟨_, _, q1, _, rfl, Z', M', q2, .inr ⟨rfl, by rw [hB]; exact q3⟩⟩
      | goto id =>
        obtain ⟨W4, Z', M', q1, q2, q3⟩ := fin w₃ own3 G3 (some (.goto id)) (fun rc own => ∃ c, rc = .loop (rec .done (some c)) ∧ J c own) hm3 h9 h8 ⟨_, rfl, hend⟩ (hJ _ _ hend).1
        exact ⟨_, _, q1, _, rfl, Z', M', q2, .inr ⟨rfl, by rw [hB]; exact q3⟩⟩
      | panic ch => exact hend.elim
      | outgrown => exact hend.elim
    | exit id => exact hq.elim
    | goto id => exact hq.elim
    | ret => exact hq.elim
    | panic ch => exact hq.elim
    | outgrown => exact hq.elim
  refine ⟨l, [mkD D], W1, { target := .fn (.func gf) cap.toArray, args := #[.func (.yield l) #[] #[]] }, W1, gf, #[.func (.yield l) #[] #[]] ++ cap.toArray, W1, ?_, ?_, ?_, ?_, FR_depth _ _, ?_⟩
  · have := run_enterLoop_outer (P := C.P) (w := w) fn a.tmps ps assign body
    rw [← hW1, ← hl, ← hD, hrec]
    exact this
  · simp only [resolve, hgv']
    simp [go_sem]
  · intro f' _; trivial
  · simp only [invoke]
    exact callFunc_ok hcall _ _
  · refine callsFR.2 ?_
    have hc := hit l A B hyok W1 (fun g => g = l ∨ g = D ∨ (∃ h b o, lk h s.own = some (b, o) ∧ o.blks b g) ∨ (∃ x, s.G g = some x) ∨ g < C.w0.heap.size) (fun g => g = l ∨ g = D ∨ ∃ h b o, lk h s.own = some (b, o) ∧ o.mut b g) hm1.has
      (by
        rw [hA]
        exact ⟨s.own, s.G, _, ⟨rfl, h0⟩, (hI 0 s.own h0).2.1, hm1, Le.refl _, hL1, hD1, hGn l (by omega), hGn D (by omega), fun h b o e => ⟨hbn l (by omega) h b o e, hbn D (by omega) h b o e⟩, fun _ => Iff.rfl, fun _ => Iff.rfl⟩)
      (by
        intro g hg
        rcases hg with rfl | rfl | ⟨h, b, o, e, q⟩
        · exact hGn _ (by omega)
        · exact hGn _ (by omega)
        · exact ((hS.mem.own _ _ _ e).2 g q).1)
    have harr : (#[.func (.yield l) #[] #[]] ++ cap.toArray : Array Value) = (.func (.yield l) #[] #[] :: cap).toArray := by simp
    rw [harr]
    refine hc.mono ?_
    rintro e w3 ⟨v, G3, Y, Z', M', rfl, hr, hG3, hold, hMG3, hY, hYc⟩
    have main : ∀ (p : Obj → Owns → Prop) (jump : Option Code) (st : LoopState), st ≠ .busy → (∀ rc own, p rc own → rc = .loop (rec st jump)) → (RZ C s.G l D p).A Z' M' w3 →
        ∃ own G, p (.loop (rec st jump)) own ∧ Le s.G G ∧ (Instr.endLoop l).run C.P w3 = .ok jump (w3.putObj l (.loop { rec st jump with state := .exhausted })) ∧
          (lk kd own = some (bd, dzO ds) → Sat C ⟨s.sl, stk kd (bd, dzO (D :: ds)) own, G, mkD D :: s.df⟩ { a with defers := [mkD D] ++ a.defers } (w3.putObj l (.loop { rec st jump with state := .exhausted }))) := by
      intro p jump st hst hp hz
      obtain ⟨own, G, rc, hpp, hpl, hm, hle, hLl, hLD, hGl, hGD, hno, _, _⟩ := hz
      obtain rfl := hp rc own hpp
      have hend := run_endLoop (P := C.P) hLl (by rw [hrec]; exact hst)
      refine ⟨own, G, hpp, hle, by rw [hend]; rw [hrec], fun hkd => ⟨hS.sl, hS.nt, by show [mkD D] ++ a.defers = _; rw [hS.df]; rfl, ?_⟩⟩
      have hm4 := hm.other (o := .loop { rec st jump with state := .exhausted }) hGl (by omega) (fun h b x e => (hno h b x e).1)
      exact hm4.addD hkd (by rw [World.putObj_heap_other (Ne.symm hlD)]; exact hLD) hGD (by omega) (fun h b x e => (hno h b x e).2)
    rcases hYc with rfl | rfl
    · rw [hA] at hY
      obtain ⟨own, G, hpp, hle, hend, hsat⟩ := main _ none .ready (by simp) (fun rc own h => h.1) hY
      refine ⟨none, _, hend, ?_⟩
      have := hdone D own G hpp.2 hle _ _ (hsat (hI _ _ hpp.2).2.2)
      rw [hro] at this
      exact this
    · rw [hB] at hY
      have hY' := hY
      obtain ⟨own, G, rc, ⟨c, rfl, hJc⟩, hpl, hm, hle, hLl, hLD, hGl, hGD, hno, hZ', hM'⟩ := hY
      obtain ⟨own2, G4, hpp, hle4, hend, hsat⟩ := main (fun rc own => rc = .loop (rec .done (some c)) ∧ J c own) (some c) .done (by simp) (fun rc own h => h.1) ⟨own, G, _, ⟨rfl, hJc⟩, hpl, hm, hle, hLl, hLD, hGl, hGD, hno, hZ', hM'⟩
      refine ⟨some c, _, hend, ?_⟩
      have := hstop D c own2 G4 hpp.2 hle4 _ _ (hsat (hJ _ _ hpp.2).2)
      rw [hro] at this
      exact this
end
end Go.Sx
namespace Go.Sx
set_option linter.unusedSimpArgs false
set_option linter.unusedVariables false
open Go.RowKit

structure FA where
  i : Nat
  d : Nat
  h : Nat
  T : TypeId
  z : List SV

section
variable {C : Ctx} {K : List KI} {s : St} {R : Array Oper} {l : List Oper} {d : Option Tmp} {t : TypeId} {pos : String} {aft : Array Edge} {own0 : Owns} {G0 : Hp} {sl : List (Nat × SV)} {own : Owns} {G : Hp} {df : List Deferred}

theorem go_newAt (k : Nat) {op : Op} (hd : dOk C.nt d = true) {r : TypeId × List SV × (Nat → Nat → SV)} (ho : opAlloc C.ty s.sl op = some r) (hk : lk k s.own = none) (hmh : C.mh ≤ k)
    (h : ∀ b, SGo C (.ops R l :: K) ⟨putS d (r.2.2 k b) s.sl, stk k (b, .c r.1 r.2.1) s.own, s.G, s.df⟩) : SGo C (.ops R (⟨d, op, t, pos, aft, none⟩ :: l) :: K) s := by
  intro a w hS
  have hrun := alloc_ok hS (o := ⟨d, op, t, pos, aft, none⟩) (e := r.1) (cells := r.2.1) (mk := r.2.2) ho k
  exact K_value rfl hrun (h _ _ _ (hS.put hd _ (hS.mem.new hk hmh rfl rfl rfl (by simp) (fun j hj => alloc_old w _ hj) (alloc_new w _) (fun g hg => by simp only [OO.blks] at hg; omega))))

end
end Go.Sx
namespace Go.Sx
set_option linter.unusedSimpArgs false
set_option linter.unusedVariables false
open Go.RowKit
section
variable {C : Ctx} {K : List KI} {s : St} {sl : List (Nat × SV)} {own : Owns} {G : Hp}

theorem equalIn_f {P : Program} {T : TypeId} {a b c} (hT : P.underlying T = some (.func a b c)) (d : Nat) (fn : Fn) (p q : Array Value) (w : World) : (Op.equalIn (d + 1) T (.func fn p q) .nilFunc).run P w = .ok false w := by
  simp only [Op.equalIn, Sem.run_bind, run_und w hT, Result.andThen_ok, Sem.run_pure]
theorem equal_f {P : Program} {T : TypeId} {a b c} (hT : P.underlying T = some (.func a b c)) (fn : Fn) (p q : Array Value) (w : World) : (Op.equal T (.func fn p q) .nilFunc).run P w = .ok false w := equalIn_f hT 9999 fn p q w

theorem quiet_feq {T T' : TypeId} {x : Operand} {vx : SV} {fn : Fn} {p q : Array Value} {sz by' : Nat} {ze : List Value} {fl : List (Nat × Nat × Bool)} (hT : C.ty T = some ⟨.func, sz, by', ze, fl⟩) (hx : ev sl x = some vx) (hv : vx.den = .func fn p q) : Quiet C sl own G (.binOp .eql T x (.const .nilFunc) T') (.bool false) := by
  intro a w d t pos aft g hs hh
  have hxv := ev_ok hs hx
  rw [hv] at hxv
  obtain ⟨u1, u2, u3, hu⟩ := (C.tyok _ _ hT).k
  have hc : a.eval (.const .nilFunc) = .nilFunc := rfl
  simp only [execOp, hxv, hc]
  have h1 : (eqGuard .eql T x (.const .nilFunc) (.func fn p q) .nilFunc).run C.P w = .ok () w := by simp [eqGuard]
  have h2 : (binOp .eql T (.func fn p q) .nilFunc).run C.P w = .ok (.bool false) w := by
    simp [binOp, equal_f hu]
  rw [Sem.run_bind]
  simp [h1, h2, Sem.run_bind]

def cps : Code → Array Tmp
  | .rangeFunc _ ps _ _ => ps
  | _ => #[]
theorem x_range (kd : Nat) {kc : Code} (ht : tag kc = 10) {g : Operand} (hcg : cop kc = g) {ps : Array Tmp} (hcp : cps kc = ps) {gf : FuncId} {cap : List Value} {zg : SV} {enc : Nat → List Value → Hp → Prop} {N bd : Nat} {ds : List Nat}
    (hro : C.ro = none) (hmh : C.mh = 0) (hg : ev s.sl g = some zg) (hgv : zg.den = .func (.func gf) #[] cap.toArray) (hcall : canCall C.P gf = true) (hps : ∀ p ∈ ps.toList, p < C.nt)
    (hit : Iter C.P gf cap s.G enc N) (hmono : ∀ k vs G G', Le G G' → enc k vs G → enc k vs G') (hlen : ∀ k vs G, enc k vs G → vs.length = ps.size)
    (I : Nat → Owns → Prop) (J : Code → Owns → Prop) (hI : ∀ k own, I k own → (∀ h x, lk h own = some x → h < 998) ∧ Plain own ∧ lk kd own = some (bd, dzO ds)) (hJ : ∀ c own, J c own → Plain own ∧ lk kd own = some (bd, dzO ds)) (h0 : I 0 s.own)
    (hbody : ∀ C' C0 k own vs G1 l D r, k < N → I k own → Le s.G G1 → enc k vs G1 → Round C' C0 C I J l D r k →
      SGo C' [.code (c1 kc), .br l, .code (c2 kc)] ⟨putsS ps.toList vs s.sl, (998, D, .o (.deferred (some []))) :: (999, l, .o (.loop r)) :: own, G1, []⟩)
    (hdone : ∀ D own G', I N own → Le s.G G' → SGo C K ⟨s.sl, stk kd (bd, dzO (D :: ds)) own, G', mkD D :: s.df⟩)
    (hstop : ∀ D c own G', J c own → Le s.G G' → SGo C (.code c :: K) ⟨s.sl, stk kd (bd, dzO (D :: ds)) own, G', mkD D :: s.df⟩) : SGo C (.code kc :: K) s := by
  subst hcg hcp
  cases kc <;> simp [tag] at ht
  · rename_i a b c; cases c <;> simp at ht
  · exact go_range kd hro hmh hg hgv hcall hps hit hmono hlen I J hI hJ h0 hbody hdone hstop

theorem plain_nil : Plain [] := fun _ _ _ e => by simp [lk] at e
theorem plain_cons {x : Nat × Nat × OO} {own : Owns} (h : ∀ g, x.2.2.blks x.2.1 g → x.2.2.mut x.2.1 g) (h' : Plain own) : Plain (x :: own) := by
  intro k b o e
  obtain ⟨i, c, p⟩ := x
  simp only [lk] at e
  split at e
  · cases e; exact h
  · exact h' k b o e
def keysLt (n : Nat) : Owns → Bool
  | [] => true
  | x :: own => decide (x.1 < n) && keysLt n own
theorem keys_lt {n : Nat} : ∀ {own : Owns}, keysLt n own = true → ∀ h x, lk h own = some x → h < n
  | [], _, h, x, e => by simp [lk] at e
  | y :: own, hk, h, x, e => by
    simp only [keysLt, Bool.and_eq_true, decide_eq_true_eq] at hk
    simp only [lk] at e
    split at e
    · rename_i q; omega
    · exact keys_lt hk.2 h x e

theorem cut_tail (n : Nat) (P : St → Prop) (key : ∀ s', P s' → SGo C (K.drop n) s') (h : (∀ s', P s' → SGo C (K.drop n) s') → SGo C K s) : SGo C K s := h key
end
end Go.Sx
namespace Go.Sx
set_option linter.unusedSimpArgs false
set_option linter.unusedVariables false
open Go.RowKit

def diff (G' G : Hp) : Hp := fun b => match G b with | some _ => none | none => G' b
theorem diff_le (G' G : Hp) : Le (diff G' G) G' := fun b o e => by
  unfold diff at e
  cases hG : G b with
  | none => rw [hG] at e; exact e
  | some x => rw [hG] at e; cases e
theorem diff_mono {G G1 G1' G2 : Hp} (h : Le G G1) (h' : Le G1' G2) : Le (diff G1' G1) (diff G2 G) := fun b o e => by
  unfold diff at e ⊢
  cases hG : G b with
  | none =>
    cases hG1 : G1 b with
    | none => rw [hG1] at e; exact h' b o e
    | some x => rw [hG1] at e; cases e
  | some x => rw [h b x hG] at e; cases e
theorem at_diff {G' G : Hp} {b off : Nat} {vs : List Value} (h : At G' b off vs) (hG : G b = none) : At (diff G' G) b off vs := by
  obtain ⟨arr, e, fz, h1, h2, h3⟩ := h
  exact ⟨arr, e, fz, by unfold diff; rw [hG]; exact h1, h2, h3⟩

theorem Iter.mono {P : Program} {f : FuncId} {cap : List Value} {G G' : Hp} {enc : Nat → List Value → Hp → Prop} {N : Nat} (h : Iter P f cap G enc N) (hl : Le G G') : Iter P f cap G' enc N := by
  intro l A B hy w Z M hw hA hM
  have hw0 : Has w G := fun b o e => hw b o (hl b o e)
  have hM0 : ∀ g, M g → G g = none := fun g hg => by
    cases hq : G g with
    | none => rfl
    | some o => have := hl g o hq; rw [hM g hg] at this; cases this
  refine (h l A B hy w Z M hw0 hA hM0).mono ?_
  rintro e w' ⟨v, G1, Y, Z', M', rfl, hr, hh, hold, hm, hY, hφ⟩
  refine ⟨v, fun b => if b < w.heap.size then G' b else G1 b, Y, Z', M', rfl, hr, ?_, ?_, ?_, hY, hφ⟩
  · intro b o e
    simp only at e
    split at e
    · rename_i hb
      have hnm : ¬ M b := fun q => by rw [hM b q] at e; cases e
      rw [hr.same b hb hnm]
      exact hw b o e
    · exact hh b o e
  · intro b hb
    simp only [hb, if_true]
  · intro g hg
    simp only
    split
    · rename_i hb
      rcases hr.m g hg with q | q
      · exact hM g q
      · omega
    · exact hm g hg

section
variable {C : Ctx} {K : List KI} {s : St} {R : Array Oper} {l : List Oper} {d : Option Tmp} {t : TypeId} {pos : String} {aft : Array Edge} {v : Value}

theorem go_known {P : Prop} (h : ∀ a w, Sat C s a w → P) (h' : P → SGo C K s) : SGo C K s := fun a w hS => h' (h a w hS) a w hS

theorem go_new0 (k : Nat) {b g : Nat} {o : OO} (hk : lk k s.own = some (b, o)) (hg : o.mut b g) (h : s.G g = none → SGo C K s) : SGo C K s :=
  go_known (fun _ _ hS => ((hS.mem.own _ _ _ hk).2 g hg).1) h

theorem go_rekey (i j : Nat) {b : Nat} {o : OO} (hi : lk i s.own = some (b, o)) (hj : lk j s.own = none) (hmi : C.mh ≤ i) (hmj : C.mh ≤ j) (h : SGo C K ⟨s.sl, stk j (b, o) (rmk i s.own), s.G, s.df⟩) : SGo C K s := by
  intro a w hS
  refine h a w ⟨hS.sl, hS.nt, hS.df, ?_⟩
  have key : ∀ k c x, lk k (stk j (b, o) (rmk i s.own)) = some (c, x) → ∃ k', lk k' s.own = some (c, x) ∧ (k = j ∧ k' = i ∨ k ≠ j ∧ k' = k ∧ k ≠ i) := by
    intro k c x e
    rw [lk_stk] at e
    split at e
    · rename_i q; cases e; exact ⟨i, hi, .inl ⟨q, rfl⟩⟩
    · rename_i q
      rw [lk_rmk] at e
      split at e
      · cases e
      · rename_i q2; exact ⟨k, e, .inr ⟨q, rfl, q2⟩⟩
  refine ⟨fun k c x e => ?_, fun k k' c c' x x' g e e' f f' => ?_, hS.mem.grow⟩
  · obtain ⟨k', e1, hk⟩ := key k c x e
    obtain ⟨f1, f2⟩ := hS.mem.own _ _ _ e1
    refine ⟨f1, fun g hg => ?_⟩
    obtain ⟨q1, q2, q3⟩ := f2 g hg
    rcases hk with ⟨rfl, rfl⟩ | ⟨_, rfl, _⟩
    · exact ⟨q1, fun _ => q2 hmi, fun q => by omega⟩
    · exact ⟨q1, q2, q3⟩
  · obtain ⟨k1, e1, hk1⟩ := key k c x e
    obtain ⟨k2, e2, hk2⟩ := key k' c' x' e'
    have := hS.mem.inj _ _ _ _ _ _ g e1 e2 f f'
    rcases hk1 with ⟨rfl, rfl⟩ | ⟨_, rfl, h3⟩ <;> rcases hk2 with ⟨rfl, rfl⟩ | ⟨_, rfl, h4⟩
    · rfl
    · exact absurd this.symm h4
    · exact absurd this h3
    · exact this

theorem go_callw {g : Operand} {f : FuncId} {cap : List Value} {args : Array Operand} {tys : Array TypeId} {vs : List SV} {z : SV} {φ : Value → Hp → Prop} (hd : dOk C.nt d = true) (hf : canCall C.P f = true) (hg : ev s.sl g = some z) (hz : z.den = .func (.func f) #[] cap.toArray) (ha : evs s.sl args.toList = some vs) (hc : Pure C.P f (dens vs ++ cap) s.G φ)
    (h : ∀ v G', Le s.G G' → φ v G' → SGo C (.ops R l :: K) ⟨putS d (rv v) s.sl, s.own, G', s.df⟩) : SGo C (.ops R (⟨d, .call ⟨.value g, args, tys⟩, t, pos, aft, none⟩ :: l) :: K) s := by
  intro a w hS
  have hargs : args.map a.eval = (dens vs).toArray := by apply Array.ext'; rw [Array.toList_map]; exact evs_ok hS.sl ha
  have hgv := ev_ok hS.sl hg
  rw [hz] at hgv
  have hrun : (execOp a.eval ⟨d, .call ⟨.value g, args, tys⟩, t, pos, aft, none⟩).run C.P w = .ok (.enter f (dens vs ++ cap).toArray) w := by
    simp only [execOp, resolve, hargs, hgv, Deferred.ofValue, Sem.run_bind, Sem.run_pure, Result.andThen_ok, invoke]
    simp [callFunc_ok hf]
  refine K_enter rfl hrun ((hc w hS.mem.has).mono ?_)
  rintro e w' ⟨v, G', rfl, hg', hφ⟩
  have hle : Le s.G G' := fun b o e => hg'.keep hS.mem.has e
  have hS' := hS.put hd (rv v) (hS.mem.call hg')
  rw [rv_den] at hS'
  exact ⟨_, rfl, h v G' hle hφ _ _ hS'⟩
end
end Go.Sx
namespace Go.Sx
set_option linter.unusedSimpArgs false
set_option linter.unusedVariables false
open Go.RowKit


structure Rp (α : Type) where
  size : Nat
  e : Hp → α → List Value → Prop
  mono : ∀ {G G' x cs}, Le G G' → e G x cs → e G' x cs
  len : ∀ {G x cs}, e G x cs → cs.length = size
  one : ∀ {G x cs}, e G x cs → ∀ u ∈ cs, u.oneCell' = true

section
variable {α : Type} (r : Rp α)

def Rp.L (G : Hp) : List α → List Value → Prop
  | [], cs => cs = []
  | x :: l, cs => ∃ c d, cs = c ++ d ∧ r.e G x c ∧ Rp.L G l d
def Rp.S (G : Hp) (l : List α) (v : Value) : Prop :=
  l.length ≤ 9223372036854775807 ∧ ∃ ad cap, v = .slice ad l.length cap ∧ (l = [] ∨ ∃ b off cs, ad = some ⟨b, off, none⟩ ∧ At G b off cs ∧ r.L G l cs)
variable {r} {G G' : Hp}
theorem Rp.L_mono (hl : Le G G') : ∀ {l : List α} {cs : List Value}, r.L G l cs → r.L G' l cs
  | [], _, h => h
  | x :: l, cs, h => by
    obtain ⟨c, d, h1, h2, h3⟩ := h
    exact ⟨c, d, h1, r.mono hl h2, Rp.L_mono hl h3⟩
theorem Rp.S_mono (hl : Le G G') {l : List α} {v : Value} (h : r.S G l v) : r.S G' l v := by
  obtain ⟨h3, ad, cap, h4, h5⟩ := h
  refine ⟨h3, ad, cap, h4, ?_⟩
  rcases h5 with h5 | ⟨b, off, cs, h5, h6, h7⟩
  · exact .inl h5
  · exact .inr ⟨b, off, cs, h5, h6.mono hl, Rp.L_mono hl h7⟩
theorem Rp.S_slice {l : List α} {v : Value} (h : r.S G l v) : ∃ ad cap, v = .slice ad l.length cap := by
  obtain ⟨_, ad, cap, h, _⟩ := h; exact ⟨ad, cap, h⟩
theorem Rp.S_len {l : List α} {v : Value} (h : r.S G l v) : l.length ≤ 9223372036854775807 := h.1
theorem Rp.S_nil (ad : Option Addr) (cap : Nat) : r.S G [] (.slice ad 0 cap) := ⟨by simp, ad, cap, rfl, .inl rfl⟩
theorem Rp.L_len : ∀ {l : List α} {cs : List Value}, r.L G l cs → cs.length = l.length * r.size
  | [], cs, h => by have h : cs = [] := h; simp [h]
  | x :: l, cs, h => by
    obtain ⟨c, d, rfl, h2, h3⟩ := h
    have := Rp.L_len h3
    have := r.len h2
    simp only [List.length_cons, List.length_append, Nat.succ_mul]; omega
theorem Rp.L_one : ∀ {l : List α} {cs : List Value}, r.L G l cs → ∀ u ∈ cs, u.oneCell' = true
  | [], cs, h => by have h : cs = [] := h; simp [h]
  | x :: l, cs, h => by
    obtain ⟨c, d, rfl, h2, h3⟩ := h
    intro u hu
    rcases List.mem_append.1 hu with hu | hu
    · exact r.one h2 u hu
    · exact Rp.L_one h3 u hu
theorem Rp.L_append : ∀ {l l' : List α} {cs cs' : List Value}, r.L G l cs → r.L G l' cs' → r.L G (l ++ l') (cs ++ cs')
  | [], l', cs, cs', h, h' => by have h : cs = [] := h; subst h; simpa using h'
  | x :: l, l', cs, cs', h, h' => by
    obtain ⟨c, d, rfl, h2, h3⟩ := h
    exact ⟨c, d ++ cs', by simp, h2, Rp.L_append h3 h'⟩
theorem Rp.L_single {x : α} {cs : List Value} (h : r.e G x cs) : r.L G [x] cs := ⟨cs, [], by simp, h, rfl⟩
theorem Rp.L_drop : ∀ {l : List α} {cs : List Value} (i : Nat), r.L G l cs → r.L G (l.drop i) (cs.drop (i * r.size))
  | l, cs, 0, h => by simpa using h
  | [], cs, i + 1, h => by have h : cs = [] := h; subst h; simp [Rp.L]
  | x :: l, cs, i + 1, h => by
    obtain ⟨c, d, rfl, h2, h3⟩ := h
    have := Rp.L_drop i h3
    have hc := r.len h2
    have e : (c ++ d).drop ((i + 1) * r.size) = d.drop (i * r.size) := by rw [Nat.succ_mul, Nat.add_comm, ← hc, List.drop_length_add_append]
    rw [e]
    simpa using this
theorem Rp.L_get {l : List α} {cs : List Value} (h : r.L G l cs) {i : Nat} (hi : i < l.length) : ∃ c, (cs.drop (i * r.size)).take r.size = c ∧ r.e G l[i] c := by
  have h1 := Rp.L_drop i h
  rw [List.drop_eq_getElem_cons hi] at h1
  obtain ⟨c, d, h2, h3, _⟩ := h1
  refine ⟨c, ?_, h3⟩
  rw [h2, ← r.len h3, List.take_left]
theorem Rp.at_get {l : List α} {cs : List Value} {b off : Nat} (ha : At G b off cs) (h : r.L G l cs) {i : Nat} (hi : i < l.length) : ∃ c, At G b (off + i * r.size) c ∧ r.e G l[i] c := by
  obtain ⟨c, h1, h2⟩ := Rp.L_get h hi
  have hlen := Rp.L_len h
  have h3 := ha.sub (i * r.size) r.size (by rw [hlen]; have := Nat.mul_le_mul_right r.size (show i + 1 ≤ l.length from hi); rw [Nat.succ_mul] at this; omega)
  rw [h1] at h3
  exact ⟨c, h3, h2⟩
theorem Rp.S_get {l : List α} {v : Value} (h : r.S G l v) {i : Nat} (hi : i < l.length) : ∃ b off cap c, v = .slice (some ⟨b, off, none⟩) l.length cap ∧ At G b (off + i * r.size) c ∧ r.e G l[i] c := by
  obtain ⟨_, ad, cap, rfl, h | ⟨b, off, cs, rfl, ha, hL⟩⟩ := h
  · subst h; simp at hi
  · obtain ⟨c, h1, h2⟩ := Rp.at_get ha hL hi
    exact ⟨b, off, cap, c, rfl, h1, h2⟩
theorem lay_0 : ∀ (vs z x : List Value), z.length = vs.length → lay (z ++ x) 0 vs = some (vs ++ x)
  | [], z, x, h => by have := List.length_eq_zero_iff.1 h; subst this; simp [lay]
  | v :: vs, [], x, h => by simp at h
  | v :: vs, y :: z, x, h => by
    simp only [List.cons_append, lay]
    rw [lay_0 vs z x (by simpa using h)]
    rfl
theorem lay_m : ∀ (y vs z x : List Value), z.length = vs.length → lay (y ++ (z ++ x)) y.length vs = some (y ++ (vs ++ x))
  | [], vs, z, x, h => by simpa using lay_0 vs z x h
  | u :: y, vs, z, x, h => by
    have := lay_m y vs z x h
    cases vs with
    | nil => have := List.length_eq_zero_iff.1 h; subst this; simp [lay]
    | cons v vs =>
      simp only [List.cons_append, List.length_cons, lay]
      rw [this]
      rfl
theorem lay_put {xs c : List Value} {m : Nat} (h : m + c.length ≤ xs.length) : lay xs m c = some (xs.take m ++ c ++ xs.drop (m + c.length)) := by
  have h0 : xs = xs.take m ++ ((xs.drop m).take c.length ++ xs.drop (m + c.length)) := by
    rw [← List.drop_drop, List.take_append_drop, List.take_append_drop]
  have h1 : m = (xs.take m).length := by rw [List.length_take]; omega
  have h2 := lay_m (xs.take m) c ((xs.drop m).take c.length) (xs.drop (m + c.length)) (by simp; omega)
  rw [← h1, ← h0] at h2
  rw [h2, List.append_assoc]
theorem Rp.src {l : List α} {ad : Option Addr} {cap : Nat} (h : l = [] ∨ ∃ b off cs, ad = some ⟨b, off, none⟩ ∧ At G b off cs ∧ r.L G l cs) :
    ∃ cs, r.L G l cs ∧ ((∃ c, (SV.v (.slice ad l.length cap)).den = .slice none 0 c ∧ l.length = 0 ∧ cs = []) ∨ ∀ (C : Ctx) (s : St), s.G = G → Src C s (.v (.slice ad l.length cap)) l.length cs) := by
  rcases h with rfl | ⟨b, off, cs, rfl, ha, hr⟩
  · refine ⟨[], by simp [Rp.L], ?_⟩
    cases ad with
    | none => exact .inl ⟨cap, rfl, rfl, rfl⟩
    | some a => exact .inr fun _ _ _ => src_empty rfl
  · exact ⟨cs, hr, .inr fun _ s hs => src_at (by rw [hs]; exact ha)⟩

variable {C : Ctx} {K : List KI} {s : St} {R : Array Oper} {l : List Oper} {d : Option Tmp} {t : TypeId} {pos : String} {aft : Array Edge} {v : Value}

theorem go_pubL (r : Rp α) (k : Nat) {b n : Nat} {e : TypeId} {v : Value} {xs : List Value} {ts : List α} (hk : lk k s.own = some (b, .row v e r.size n xs)) (hmh : C.mh ≤ k) (hn : n = ts.length) (h63 : n ≤ 9223372036854775807) (hr : r.L s.G ts xs)
    (h : ∀ G' ad cap, Le s.G G' → v = .slice ad ts.length cap → r.S G' ts (.slice ad ts.length cap) → SGo C K ⟨s.sl, rmk k s.own, G', s.df⟩) : SGo C K s := by
  subst hn
  refine go_rowcases k hk (fun hv hn0 hx => ?_) (fun g cap hv hc hl => ?_)
  · have h0 : ts = [] := List.length_eq_zero_iff.1 hn0
    refine go_drop k (h s.G none 0 (Le.refl _) (by rw [hv, h0]; rfl) ⟨h63, none, 0, rfl, .inl h0⟩)
  · subst hv
    refine go_pubrow k hk hmh ?_
    intro G' hle hat
    exact h G' _ _ hle rfl ⟨h63, _, _, rfl, .inr ⟨g, 0, xs, rfl, hat, Rp.L_mono hle hr⟩⟩
theorem go_lendL (r : Rp α) (k : Nat) {f : FuncId} {args : Array Operand} {tys : Array TypeId} {vs : List SV} {b n : Nat} {e : TypeId} {u : Value} {xs : List Value} {ts : List α} (hd : dOk C.nt d = true) (hf : canCall C.P f = true) (ha : evs s.sl args.toList = some vs)
    (hk : lk k s.own = some (b, .row u e r.size n xs)) (hn : n = ts.length) (h63 : n ≤ 9223372036854775807) (hr : r.L s.G ts xs) (hc : ∀ G1, Le s.G G1 → r.S G1 ts u → Pure C.P f (dens vs) G1 (fun r _ => r = v))
    (h : SGo C (.ops R l :: K) ⟨putS d (rv v) s.sl, s.own, s.G, s.df⟩) : SGo C (.ops R (⟨d, .call ⟨.value (.func f), args, tys⟩, t, pos, aft, none⟩ :: l) :: K) s := by
  subst hn
  refine go_rowcases k hk (fun hv hn0 hx => ?_) (fun g cap hv hc' hl => ?_)
  · have h0 : ts = [] := List.length_eq_zero_iff.1 hn0
    exact go_callf hd hf ha (hc s.G (Le.refl _) ⟨h63, none, 0, by rw [hv, h0]; rfl, .inl h0⟩) h
  · subst hv
    exact go_lendR k hd hf ha hk (fun G1 hle hat => hc G1 hle ⟨h63, _, _, rfl, .inr ⟨g, 0, xs, rfl, hat, Rp.L_mono hle hr⟩⟩) h
end

def rI : Rp Int where
  size := 1
  e _ n cs := cs = [.int .i64 n] ∧ isI64 n
  mono _ h := h
  len h := by rw [h.1]; rfl
  one h u hu := by rw [h.1] at hu; simp at hu; subst hu; rfl
theorem rI_L {G : Hp} : ∀ {l : List Int} {cs : List Value}, rI.L G l cs ↔ cs = l.map (.int .i64 ·) ∧ ∀ n ∈ l, isI64 n
  | [], cs => by simp [Rp.L]
  | x :: l, cs => by
    constructor
    · rintro ⟨c, d, rfl, ⟨rfl, h1⟩, h2⟩
      obtain ⟨rfl, h3⟩ := rI_L.1 h2
      exact ⟨by simp, by simpa using ⟨h1, h3⟩⟩
    · rintro ⟨rfl, h⟩
      exact ⟨[.int .i64 x], _, by simp, ⟨rfl, h x (by simp)⟩, rI_L.2 ⟨rfl, fun n hn => h n (by simp [hn])⟩⟩


abbrev Lds := List (Nat × OO)
structure Lent (ow : Lds) (G : Hp) (w : World) : Prop where
  own : ∀ (i b : Nat) (o : OO), ow[i]? = some (b, o) → o.holds 0 w b ∧ ∀ g, o.mut b g → G g = none
  inj : ∀ (i j b b' : Nat) (o o' : OO) (g : Nat), ow[i]? = some (b, o) → ow[j]? = some (b', o') → o.blks b g → o'.blks b' g → i = j
def mutOf (ow : Lds) (g : Nat) : Prop := ∃ (i b : Nat) (o : OO), ow[i]? = some (b, o) ∧ o.mut b g
def blkOf (ow : Lds) (g : Nat) : Prop := ∃ (i b : Nat) (o : OO), ow[i]? = some (b, o) ∧ o.blks b g
def RetW (w : World) (G : Hp) (ow : Lds) (φ : Value → Hp → Lds → Prop) : Ending → World → Prop := fun e w' =>
  ∃ v G' ow', e = .returned v ∧ Fr w w' ∧ (∀ g, g < w.heap.size → ¬ mutOf ow g → w'.heap[g]? = w.heap[g]?) ∧ Has w' G' ∧ (∀ b, b < w.heap.size → G' b = G b) ∧ Lent ow' G' w' ∧ ow'.length = ow.length ∧
    (∀ g, blkOf ow' g → blkOf ow g ∨ w.heap.size ≤ g) ∧ (∀ g, mutOf ow' g → mutOf ow g ∨ w.heap.size ≤ g) ∧ φ v G' ow'
def PureW (P : Program) (f : FuncId) (args : List Value) (G : Hp) (ow : Lds) (φ : Value → Hp → Lds → Prop) : Prop :=
  ∀ w, Has w G → Lent ow G w → Calls P f args.toArray w (RetW w G ow φ)

def enumO : Nat → Lds → Owns
  | _, [] => []
  | i, x :: l => (i, x.1, x.2) :: enumO (i + 1) l
theorem lk_enumO : ∀ (ow : Lds) (i k : Nat), lk k (enumO i ow) = if k < i then none else ow[k - i]?
  | [], i, k => by simp [enumO, lk]
  | x :: l, i, k => by
    simp only [enumO, lk]
    split
    · rename_i h; subst h; simp
    · rename_i h
      rw [lk_enumO l (i + 1) k]
      by_cases hk : k < i
      · rw [if_pos hk, if_pos (by omega)]
      · rw [if_neg hk, if_neg (by omega)]
        rw [show k - i = (k - (i + 1)) + 1 by omega, List.getElem?_cons_succ]

def pickO (own : Owns) : Nat → Nat → Option Lds
  | _, 0 => some []
  | i, n + 1 => match lk i own with
    | some x => match pickO own (i + 1) n with
      | some l => some (x :: l)
      | none => none
    | none => none
theorem pickO_get {own : Owns} : ∀ {n i : Nat} {l : Lds}, pickO own i n = some l → l.length = n ∧ ∀ j x, l[j]? = some x → lk (i + j) own = some x
  | 0, i, l, h => by simp only [pickO, Option.some.injEq] at h; subst h; simp
  | n + 1, i, l, h => by
    simp only [pickO] at h
    cases h1 : lk i own with
    | none => rw [h1] at h; cases h
    | some x =>
      rw [h1] at h
      cases h2 : pickO own (i + 1) n with
      | none => rw [h2] at h; cases h
      | some l' =>
        rw [h2] at h
        simp only [Option.some.injEq] at h
        subst h
        obtain ⟨q1, q2⟩ := pickO_get h2
        refine ⟨by simp [q1], fun j y hj => ?_⟩
        cases j with
        | zero => simp at hj; subst hj; simpa using h1
        | succ j => simp only [List.getElem?_cons_succ] at hj; have := q2 j y hj; rwa [Nat.add_assoc, Nat.add_comm 1 j] at this

section
variable {C : Ctx} {K : List KI} {s : St} {R : Array Oper} {l : List Oper} {d : Option Tmp} {t : TypeId} {pos : String} {aft : Array Edge} {v : Value}

theorem enterW {P : Program} {f : FuncId} {fn : Func} {G : Hp} {ow : Lds} {φ : Value → Hp → Lds → Prop} (ty : TypeId → Option TI) (tyok : ∀ T i, ty T = some i → i.ok P T) {nt : Nat}
    (hf : P.funcs[f]? = some fn) (hb : fn.body.isSome = true) (hn : fn.ntmps = nt) (svs : List SV) (hargs : svs.length ≤ nt) {mh : Nat} (hmh : ow.length = mh)
    (h : ∀ C : Ctx, C.P = P → C.Q = bodyPost C.P fn (RetW C.w0 G ow φ) → C.nt = nt → C.ty = ty → (∀ g, g ∈ C.mb → mutOf ow g) → C.mh = mh → C.ro = none → C.G0 = G → (∀ g, mutOf ow g → blkOf ow g) → SGo C [.code (fn.body.getD .skip)] ⟨enumS 0 svs, enumO 0 ow, G, []⟩) : PureW P f (dens svs) G ow φ := by
  intro w hw hL
  classical
  refine calls_of_wp hf (body_eq hb) ((wpIn_wide (n := 0)).1 ?_)
  have hlt : ∀ g, blkOf ow g → g < w.heap.size := fun g ⟨i, b, o, e, hg⟩ => OO.holds_lt (hL.own i b o e).1 hg
  have hml : ∀ g, mutOf ow g → g < w.heap.size := fun g ⟨i, b, o, e, hg⟩ => hlt g ⟨i, b, o, e, OO.mut_blks (hL.own i b o e).1 hg⟩
  have hmem : ∀ g, g ∈ (List.range w.heap.size).filter (fun g => decide (mutOf ow g)) ↔ mutOf ow g := fun g => by
    simp only [List.mem_filter, List.mem_range, decide_eq_true_eq]
    exact ⟨fun q => q.2, fun q => ⟨hml g q, q⟩⟩
  have hlk : ∀ k b o, lk k (enumO 0 ow) = some (b, o) → ow[k]? = some (b, o) := fun k b o e => by
    rw [lk_enumO] at e; simpa using e
  have := h ⟨P, bodyPost P fn (RetW w G ow φ), nt, ty, tyok, w, G, (List.range w.heap.size).filter (fun g => decide (mutOf ow g)), mh, none⟩ rfl rfl rfl rfl (fun g hg => (hmem g).1 hg) rfl rfl rfl (fun g ⟨i, b, o, e, hg⟩ => ⟨i, b, o, e, OO.mut_blks (hL.own i b o e).1 hg⟩) { tmps := (dens svs).toArray ++ Array.replicate (fn.ntmps - (dens svs).toArray.size) undef, defers := [] } w
    ⟨slots_args _ _ _ (fun i x e => by have := (lk_enumS svs 0 i x e).2; simpa using this), by simp [hn, dens_eq]; omega, rfl, ⟨fun k b o e => ?_, fun k k' b b' o o' g e e' f f' => ?_, Grow.refl hw⟩⟩
  · simp only [wpK] at this
    exact this
  · have e' := hlk _ _ _ e
    obtain ⟨h1, h2⟩ := hL.own _ _ _ e'
    refine ⟨h1, fun g hg => ⟨h2 g hg, fun q => ?_, fun _ => .inl ((hmem g).2 ⟨_, _, _, e', hg⟩)⟩⟩
    have hk : k < ow.length := by
      rcases Nat.lt_or_ge k ow.length with q | q
      · exact q
      · rw [List.getElem?_eq_none q] at e'; cases e'
    have q : mh ≤ k := q
    omega
  · exact hL.inj _ _ _ _ _ _ g (hlk _ _ _ e) (hlk _ _ _ e') f f'

theorem x_retW {k : Code} (ht : tag k = 7) {fn : Func} {G : Hp} {ow : Lds} {φ : Value → Hp → Lds → Prop} (hQ : C.Q = bodyPost C.P fn (RetW C.w0 G ow φ)) (hmb : ∀ g, g ∈ C.mb → mutOf ow g) {mh : Nat} (hmh : C.mh = mh) (hG : C.G0 = G) (hmub : ∀ g, mutOf ow g → blkOf ow g) (hml : ow.length = mh)
    {r : ResultVar} {rs : List ResultVar} (hrs : fn.results.toList = r :: rs) {xs : List SV} (hr : resAll s.sl C.ty s.own (r :: rs) = some xs) (hdf : s.df = []) {ow' : Lds} (hp : pickO s.own 0 mh = some ow')
    (hpl : Plain (enumO 0 ow')) (h : φ (resV xs).den s.G ow') (hnb : noBr K = true := by rfl) : SGo C (.code k :: K) s := by
  intro a w hS
  cases k <;> simp [tag] at ht
  · rename_i a b c; cases c <;> simp at ht
  refine wpIn_ret ?_
  rw [wpK_ret _ _ _ hnb, hQ]
  have hg := hS.mem.grow
  obtain ⟨p1, p2⟩ := pickO_get hp
  have p3 : ∀ {i b o}, ow'[i]? = some (b, o) → lk i s.own = some (b, o) := fun {i b o} e => by simpa using p2 i _ e
  have p4 : ∀ {i b o}, ow'[i]? = some (b, o) → i < mh := fun {i b o} e => by
    rcases Nat.lt_or_ge i ow'.length with q | q
    · omega
    · rw [List.getElem?_eq_none q] at e; cases e
  have p5 : ∀ g, blkOf ow' g → mutOf ow' g := fun g ⟨i, b, o, e, hb⟩ => ⟨i, b, o, e, hpl i b o (by rw [lk_enumO]; simpa using e) g hb⟩
  have p6 : ∀ g, mutOf ow' g → mutOf ow g ∨ C.w0.heap.size ≤ g := fun g ⟨i, b, o, e, hb⟩ => by
    obtain ⟨_, q⟩ := hS.mem.own _ _ _ (p3 e)
    rcases (q g hb).2.2 (by rw [hmh]; exact p4 e) with q | q
    · exact .inl (hmb g q)
    · exact .inr q
  refine ⟨by rw [hS.df, hdf], _, results_ok hS (by rw [hrs]; exact hr), _, _, ow', rfl, hg.fr, fun g hg1 hg2 => ?_, hg.has, fun b hb => by rw [hg.old b hb, hG], ⟨fun i b o e => ?_, fun i j b b' o o' g e e' f f' => ?_⟩, by omega, fun g q => ?_, p6, h⟩
  · exact hg.blk g hg1 fun q => hg2 (hmb g q)
  · obtain ⟨q1, q2⟩ := hS.mem.own _ _ _ (p3 e)
    exact ⟨q1, fun g q => (q2 g q).1⟩
  · exact hS.mem.inj _ _ _ _ _ _ g (p3 e) (p3 e') f f'
  · exact (p6 g (p5 g q)).imp (hmub g) id

def setO : List Nat → Lds → Owns → Owns
  | k :: ks, x :: l, own => setO ks l (stk k x own)
  | _, _, own => own
def lkAll (own : Owns) : List Nat → Option Lds
  | [] => some []
  | k :: ks => match lk k own with
    | some x => match lkAll own ks with
      | some l => some (x :: l)
      | none => none
    | none => none
def noDup : List Nat → Bool
  | [] => true
  | k :: ks => !ks.contains k && noDup ks
theorem lkAll_get {own : Owns} : ∀ {ks : List Nat} {l : Lds}, lkAll own ks = some l → l.length = ks.length ∧ ∀ (i k : Nat), ks[i]? = some k → ∃ x, l[i]? = some x ∧ lk k own = some x
  | [], l, h => by simp only [lkAll, Option.some.injEq] at h; subst h; simp
  | k :: ks, l, h => by
    simp only [lkAll] at h
    cases h1 : lk k own with
    | none => rw [h1] at h; cases h
    | some x =>
      rw [h1] at h
      cases h2 : lkAll own ks with
      | none => rw [h2] at h; cases h
      | some l' =>
        rw [h2] at h
        simp only [Option.some.injEq] at h
        subst h
        obtain ⟨q1, q2⟩ := lkAll_get h2
        refine ⟨by simp [q1], fun i k' hi => ?_⟩
        cases i with
        | zero => simp at hi; subst hi; exact ⟨x, by simp, h1⟩
        | succ i => simp only [List.getElem?_cons_succ] at hi ⊢; exact q2 i k' hi
theorem lk_setO : ∀ {ks : List Nat} {l : Lds} {own : Owns} {k : Nat}, noDup ks = true → l.length = ks.length → (∃ (i : Nat) (x : Nat × OO), ks[i]? = some k ∧ l[i]? = some x ∧ lk k (setO ks l own) = some x) ∨ (k ∉ ks ∧ lk k (setO ks l own) = lk k own)
  | [], l, own, k, _, _ => .inr ⟨by simp, by cases l <;> rfl⟩
  | j :: ks, [], own, k, _, h => by simp at h
  | j :: ks, x :: l, own, k, hn, h => by
    simp only [noDup, Bool.and_eq_true, Bool.not_eq_true', List.contains_eq_mem, decide_eq_false_iff_not] at hn
    simp only [setO]
    rcases lk_setO (ks := ks) (l := l) (own := stk j x own) (k := k) hn.2 (by simpa using h) with ⟨i, y, h1, h2, h3⟩ | ⟨h1, h2⟩
    · exact .inl ⟨i + 1, y, by simpa using h1, by simpa using h2, h3⟩
    · by_cases hk : k = j
      · subst hk
        exact .inl ⟨0, x, by simp, by simp, by rw [h2, lk_stk]; simp⟩
      · exact .inr ⟨by simp [hk, h1], by rw [h2, lk_stk, if_neg hk]⟩

theorem Mem.lentM {own : Owns} {G G' : Hp} {w w' : World} (h : Mem C own G w) {ks : List Nat} {ow ow' : Lds} (hk : lkAll own ks = some ow) (hn : noDup ks = true) (hks : (∀ k ∈ ks, C.mh ≤ k) ∨ (∀ k ∈ ks, k < C.mh))
    (hf : Fr w w') (hs : ∀ g, g < w.heap.size → ¬ mutOf ow g → w'.heap[g]? = w.heap[g]?) (hG : Has w' G') (hold : ∀ b, b < w.heap.size → G' b = G b) (hL : Lent ow' G' w') (hlen : ow'.length = ow.length)
    (hb : ∀ g, blkOf ow' g → blkOf ow g ∨ w.heap.size ≤ g) (hm : ∀ g, mutOf ow' g → mutOf ow g ∨ w.heap.size ≤ g) : Mem C (setO ks ow' own) G' w' := by
  obtain ⟨k1, k2⟩ := lkAll_get hk
  have hidx : ∀ {i : Nat} {x : Nat × OO}, ow[i]? = some x → ∃ k, ks[i]? = some k ∧ lk k own = some x := fun {i x} e => by
    have hi : i < ks.length := by
      rcases Nat.lt_or_ge i ow.length with q | q
      · omega
      · rw [List.getElem?_eq_none q] at e; cases e
    obtain ⟨x', e1, e2⟩ := k2 i ks[i] (by rw [List.getElem?_eq_getElem hi])
    rw [e] at e1; cases e1
    exact ⟨ks[i], by rw [List.getElem?_eq_getElem hi], e2⟩
  have hout : ∀ {k b : Nat} {o : OO} {g : Nat}, k ∉ ks → lk k own = some (b, o) → o.blks b g → ¬ blkOf ow g := fun {k b o g} hk' e hg ⟨i, b', o', e', hg'⟩ => by
    obtain ⟨k', e1, e2⟩ := hidx e'
    have := h.inj _ _ _ _ _ _ g e e2 hg hg'
    subst this
    exact hk' (List.mem_of_getElem? e1)
  have hmutb : ∀ g, mutOf ow g → blkOf ow g := fun g ⟨i, b, o, e, hg⟩ => by
    obtain ⟨k', _, e2⟩ := hidx e
    exact ⟨i, b, o, e, OO.mut_blks (h.own _ _ _ e2).1 hg⟩
  have hlt' : ow'.length = ks.length := by omega
  refine ⟨fun k b o e => ?_, fun k k' b b' o o' g e e' f f' => ?_, ?_⟩
  · rcases lk_setO (own := own) (k := k) hn hlt' with ⟨i, x, h1, h2, h3⟩ | ⟨h1, h2⟩
    · rw [e] at h3; cases h3
      obtain ⟨q1, q2⟩ := hL.own i b o h2
      refine ⟨q1, fun g hg => ?_⟩
      have key : (C.mh ≤ k → C.w0.heap.size ≤ g) ∧ (k < C.mh → g ∈ C.mb ∨ C.w0.heap.size ≤ g) := by
        rcases hm g ⟨i, b, o, h2, hg⟩ with ⟨j, b2, o2, e2, hg2⟩ | q
        · obtain ⟨k', e3, e4⟩ := hidx e2
          obtain ⟨_, q5⟩ := h.own _ _ _ e4
          obtain ⟨_, q6, q7⟩ := q5 g hg2
          have m1 := List.mem_of_getElem? h1
          have m2 := List.mem_of_getElem? e3
          rcases hks with hks | hks
          · exact ⟨fun _ => q6 (hks _ m2), fun q => by have := hks _ m1; omega⟩
          · exact ⟨fun q => by have := hks _ m1; omega, fun _ => q7 (hks _ m2)⟩
        · have := h.grow.size
          exact ⟨fun _ => by omega, fun _ => .inr (by omega)⟩
      exact ⟨q2 g hg, key⟩
    · rw [h2] at e
      obtain ⟨q1, q2⟩ := h.own _ _ _ e
      refine ⟨OO.holds_same q1 hf fun g hg => hs g (h.lt e hg) fun q => hout h1 e hg (hmutb g q), fun g hg => ?_⟩
      obtain ⟨q3, q4, q5⟩ := q2 g hg
      exact ⟨by rw [hold g (h.ltm e hg)]; exact q3, q4, q5⟩
  · rcases lk_setO (own := own) (k := k) hn hlt' with ⟨i, x, h1, h2, h3⟩ | ⟨h1, h2⟩
    · rw [e] at h3; cases h3
      rcases lk_setO (own := own) (k := k') hn hlt' with ⟨i', x', h1', h2', h3'⟩ | ⟨h1', h2'⟩
      · rw [e'] at h3'; cases h3'
        have := hL.inj _ _ _ _ _ _ g h2 h2' f f'
        subst this
        rw [h1] at h1'; cases h1'; rfl
      · rw [h2'] at e'
        exfalso
        rcases hb g ⟨_, _, _, h2, f⟩ with q | q
        · exact hout h1' e' f' q
        · have := h.lt e' f'; omega
    · rw [h2] at e
      rcases lk_setO (own := own) (k := k') hn hlt' with ⟨i', x', h1', h2', h3'⟩ | ⟨h1', h2'⟩
      · rw [e'] at h3'; cases h3'
        exfalso
        rcases hb g ⟨_, _, _, h2', f'⟩ with q | q
        · exact hout h1 e f q
        · have := h.lt e f; omega
      · rw [h2'] at e'
        exact h.inj _ _ _ _ _ _ g e e' f f'
  · have hg := h.grow
    refine ⟨hf.os.trans hg.os, hf.tape.trans hg.tape, hf.output.trans hg.output, Nat.le_trans hg.size hf.size, fun j hj hm' => ?_, hG, fun b hb' => ?_⟩
    · rw [hs j (by have := hg.size; omega) ?_]
      · exact hg.blk j hj hm'
      · rintro ⟨i, b, o, e, hgj⟩
        obtain ⟨k', _, e2⟩ := hidx e
        obtain ⟨_, q⟩ := h.own _ _ _ e2
        obtain ⟨_, q1, q2⟩ := q j hgj
        rcases Nat.lt_or_ge k' C.mh with q3 | q3
        · rcases q2 q3 with q4 | q4
          · exact hm' q4
          · omega
        · have := q1 q3; omega
    · rw [hold b (by have := hg.size; omega)]; exact hg.old b hb'

theorem go_callW (ks : List Nat) {f : FuncId} {args : Array Operand} {tys : Array TypeId} {vs : List SV} {ow : Lds} {φ : Value → Hp → Lds → Prop} (hd : dOk C.nt d = true) (hf : canCall C.P f = true) (ha : evs s.sl args.toList = some vs)
    (hk : lkAll s.own ks = some ow) (hn : noDup ks = true) (hks : (∀ k ∈ ks, C.mh ≤ k) ∨ (∀ k ∈ ks, k < C.mh)) (hc : PureW C.P f (dens vs) s.G ow φ)
    (h : ∀ v G' ow', Le s.G G' → φ v G' ow' → SGo C (.ops R l :: K) ⟨putS d (rv v) s.sl, setO ks ow' s.own, G', s.df⟩) : SGo C (.ops R (⟨d, .call ⟨.value (.func f), args, tys⟩, t, pos, aft, none⟩ :: l) :: K) s := by
  intro a w hS
  have hargs : args.map a.eval = (dens vs).toArray := by apply Array.ext'; rw [Array.toList_map]; exact evs_ok hS.sl ha
  have hrun : (execOp a.eval ⟨d, .call ⟨.value (.func f), args, tys⟩, t, pos, aft, none⟩).run C.P w = .ok (.enter f (dens vs).toArray) w := by
    simp only [execOp, resolve, hargs, Act.eval, Deferred.ofValue, Sem.run_bind, Sem.run_pure, Result.andThen_ok, invoke]
    simp [callFunc_ok hf]
  obtain ⟨k1, k2⟩ := lkAll_get hk
  have hidx : ∀ {i : Nat} {x : Nat × OO}, ow[i]? = some x → ∃ k, ks[i]? = some k ∧ lk k s.own = some x := fun {i x} e => by
    have hi : i < ks.length := by
      rcases Nat.lt_or_ge i ow.length with q | q
      · omega
      · rw [List.getElem?_eq_none q] at e; cases e
    obtain ⟨x', e1, e2⟩ := k2 i ks[i] (by rw [List.getElem?_eq_getElem hi])
    rw [e] at e1; cases e1
    exact ⟨ks[i], by rw [List.getElem?_eq_getElem hi], e2⟩
  have hnd : ∀ (ks : List Nat), noDup ks = true → ∀ (i j k : Nat), ks[i]? = some k → ks[j]? = some k → i = j := by
    intro ks
    induction ks with
    | nil => intro _ i j k h; simp at h
    | cons x ks ih =>
      intro h i j k hi hj
      simp only [noDup, Bool.and_eq_true, Bool.not_eq_true', List.contains_eq_mem, decide_eq_false_iff_not] at h
      cases i <;> cases j
      · rfl
      · simp at hi hj; subst hi; exact absurd (List.mem_of_getElem? hj) h.1
      · simp at hi hj; subst hj; exact absurd (List.mem_of_getElem? hi) h.1
      · simp at hi hj; rw [ih h.2 _ _ k hi hj]
  refine K_enter rfl hrun ((hc w hS.mem.has ⟨fun i b o e => ?_, fun i j b b' o o' g e e' q q' => ?_⟩).mono ?_)
  · obtain ⟨k, _, e2⟩ := hidx e
    obtain ⟨q1, q2⟩ := hS.mem.own _ _ _ e2
    exact ⟨q1, fun g hg => (q2 g hg).1⟩
  · obtain ⟨k, e1, e2⟩ := hidx e
    obtain ⟨k', e1', e2'⟩ := hidx e'
    have := hS.mem.inj _ _ _ _ _ _ g e2 e2' q q'
    subst this
    exact hnd ks hn i j k e1 e1'
  · rintro e w' ⟨v, G', ow', rfl, q1, q2, q3, q4, q5, q6, q7, q8, hφ⟩
    have hm := hS.mem.lentM hk hn hks q1 q2 q3 q4 q5 q6 q7 q8
    have hle : Le s.G G' := fun b o e => by rw [q4 b (lt_of_heap (hS.mem.has b o e))]; exact e
    refine ⟨v, rfl, ?_⟩
    have := hS.put hd (rv v) hm
    rw [rv_den] at this
    exact h v G' ow' hle hφ _ _ this
end
section
variable {C : Ctx} {K : List KI} {s : St} {R : Array Oper} {l : List Oper} {d : Option Tmp} {t : TypeId} {pos : String} {aft : Array Edge}
theorem go_gundef {op : Op} {j g : Nat} {want : Bool} (hj : (R[j]?).bind (·.dst) = some g) (hd : dOk C.nt d = true) (hu : lk g s.sl = some (.v undef))
    (h2 : SGo C (.ops R l :: K) ⟨putS d (.v undef) s.sl, s.own, s.G, s.df⟩) : SGo C (.ops R (⟨d, op, t, pos, aft, some (j, want)⟩ :: l) :: K) s := by
  intro a w hS
  have hy : yielded R a.tmps j = none := by
    have := hS.sl g _ hu
    simp [yielded, hj, this, SV.den, undef]
  simp only [wpK, wpListIn, Region.wanted, hy]
  have := h2 _ _ (hS.put hd (.v undef) hS.mem)
  simp only [wpK] at this
  rw [if_neg (by simp)]
  exact ⟨fun _ _ => trivial, this⟩
end
end Go.Sx
namespace Go.Sx
set_option linter.unusedSimpArgs false
set_option linter.unusedVariables false
open Go.RowKit
section
variable {C : Ctx} {K : List KI} {s : St} {R : Array Oper} {l : List Oper} {d : Option Tmp} {t : TypeId} {pos : String} {aft : Array Edge}
theorem go_append0 (k : Nat) {x y : Operand} {T e : TypeId} {te : TI} {sz by' : Nat} {ze : List Value} {fl : List (Nat × Nat × Bool)} {b n m : Nat} {v : Value} {xs news : List Value} {z : SV} {vx : SV}
    (hd : dOk C.nt d = true) (hT : C.ty T = some ⟨.slice e, sz, by', ze, fl⟩) (he : C.ty e = some te) (hsz : 0 < te.size) (hx : ev s.sl x = some vx) (hvx : vx.den = v) (hk : lk k s.own = some (b, .row v e te.size n xs))
    (hy : ev s.sl y = some z) (hsrc : Src C s z m news) (hl : news.length = m * te.size) (h1 : ∀ u ∈ news, u.oneCell' = true) (h63 : n + m ≤ 9223372036854775807) (hbytes : (n + m) * te.bytes ≤ 140737488355328)
    (h : ∀ v', SGo C (.ops R l :: K) ⟨putS d (.v v') s.sl, stk k (b, .row v' e te.size (n + m) (xs ++ news)) s.own, s.G, s.df⟩) :
    SGo C (.ops R (⟨d, .call ⟨.builtin .append, #[x, y], #[T, T]⟩, t, pos, aft, none⟩ :: l) :: K) s := by
  intro a w hS
  have hxv := ev_ok hS.sl hx
  have hyv := ev_ok hS.sl hy
  rw [hvx] at hxv
  obtain ⟨ad, c, hz, hnews⟩ := hsrc w hS.mem
  rw [hz] at hyv
  have g1 := (C.tyok _ _ hT).k
  simp only [TK.fits] at g1
  obtain ⟨f1, f2⟩ := hS.mem.own _ _ _ hk
  simp only [OO.holds] at f1
  obtain ⟨v', w', hr, k1, k2, k3⟩ := append_row (P := C.P) (w := w) 0 T t e g1 (C.tyok _ _ he) hsz v n xs f1 ad m c news hl hnews h1 h63 hbytes (Nat.zero_le _)
  have hrun : (execOp a.eval ⟨d, .call ⟨.builtin .append, #[x, y], #[T, T]⟩, t, pos, aft, none⟩).run C.P w = .ok (.value v') w' := by
    simp only [execOp, resolve, invoke, builtin, Sem.run_bind, Sem.run_pure, Result.andThen_ok, List.map_toArray, List.map_cons, List.map_nil, hxv, hyv, hr]
  have hm' : Mem C (stk k (b, .row v' e te.size (n + m) (xs ++ news)) s.own) s.G w' :=
    hS.mem.put hk k2.os k2.tape k2.output k2.size (fun j hj hne => k2.block j hj (fun q => hne q.symm)) k1 (fun g => ⟨fun hg => k3 g hg, fun hg => k3 g hg⟩)
  refine K_value rfl hrun ?_
  have := h v' _ _ (hS.put hd (.v v') hm')
  simpa only [SV.den] using this
end
end Go.Sx
namespace Go.Sx
set_option linter.unusedSimpArgs false
set_option linter.unusedVariables false
open Go.RowKit
section
variable {C : Ctx} {K : List KI} {s : St} {R : Array Oper} {l : List Oper} {d : Option Tmp} {t : TypeId} {pos : String} {aft : Array Edge}
theorem h_takeG (i : Nat) {own0 : List (Nat × Nat × OO)} {G0 : Hp} {n j g : Nat} {want : Bool} {listed : Array Bool} {op : Op} {x : SV} (hi : R[i]? = some ⟨d, op, t, pos, aft, some (j, want)⟩) (hj : (R[j]?).bind (·.dst) = some g) (hg : lk g s.sl = some (.b want)) (hs : Region.noSelect R = true) (hf : Region.free .any R listed i = true)
    (hr : (Region.ready .any R listed).contains i = true) (hQ : QP C) (hd : dOk C.nt d = true) (ho : ∀ j y, lk j own0 = some y → lk j s.own = some y) (hG : Le G0 s.G)
    (hq : Quiet C s.sl own0 G0 op x.den) (h : SGo C (.h (Hold C own0 G0) R n (listed.setIfInBounds i true) :: K) ⟨putS d x s.sl, s.own, s.G, s.df⟩) :
    SGo C (.h (Hold C own0 G0) R (n + 1) listed :: K) s := by
  intro a w hS
  have hhold : Hold C own0 G0 w := ⟨fun k b o e => (hS.mem.own k b o (ho _ _ e)).1, fun b o e => hS.mem.has b o (hG b o e)⟩
  have := h _ _ (hS.put hd x hS.mem)
  have hy : yielded R a.tmps j = some want := yielded_ok hS hj ⟨_, hg, rfl⟩
  simp only [wpK] at this ⊢
  refine wpAnyHI_take (i := i) (v := x.den) hi hs hf hr ?_ (.inl ⟨by simp [Region.wanted, hy], fun w' hw' => hq a w' d t pos aft (some (j, want)) hS.sl hw'⟩) hhold this
  intro c a' w' hp
  exact wpK_panic c d x.den (fun a w => hQ c a w d x.den) K a' w' hp
end
end Go.Sx
namespace Go.Sx
set_option linter.unusedSimpArgs false
set_option linter.unusedVariables false
open Go.RowKit

structure Rw where
  e : TypeId
  size : Nat
  v : Value
  n : Nat
  xs : List Value
def Rw.nil (e : TypeId) (size : Nat) : Rw := ⟨e, size, .slice none 0 0, 0, []⟩

theorem ownsRow_nil (w : World) (e : TypeId) (size : Nat) : w.ownsRow 0 e size (.slice none 0 0) 0 [] := ⟨by simp, .inl ⟨rfl, rfl⟩⟩

def RowAt (G : Hp) (r : Rw) : Prop := (r.v = .slice none 0 0 ∧ r.n = 0 ∧ r.xs = []) ∨ ∃ g cap, r.v = .slice (some ⟨g, 0, none⟩) r.n cap ∧ At G g 0 r.xs
theorem RowAt.mono {G G' : Hp} {r : Rw} (h : RowAt G r) (hl : Le G G') : RowAt G' r := by
  rcases h with h | ⟨g, cap, h1, h2⟩
  · exact .inl h
  · exact .inr ⟨g, cap, h1, h2.mono hl⟩
theorem RowAt.S {α : Type} {G : Hp} {rp : Rp α} {e : TypeId} {size n : Nat} {v : Value} {xs : List Value} {ts : List α} (h : RowAt G ⟨e, size, v, n, xs⟩) (hn : n = ts.length) (h63 : n ≤ 9223372036854775807) (hL : rp.L G ts xs) : rp.S G ts v := by
  subst hn
  rcases h with ⟨h1, h2, h3⟩ | ⟨g, cap, h1, h2⟩
  · simp only at h1 h2
    subst h1
    have := List.length_eq_zero_iff.1 h2
    subst this
    exact Rp.S_nil _ _
  · simp only at h1 h2
    subst h1
    exact ⟨h63, _, _, rfl, .inr ⟨_, _, _, rfl, h2, hL⟩⟩
section
variable {C : Ctx} {K : List KI} {s : St} {R : Array Oper} {l : List Oper} {d : Option Tmp} {t : TypeId} {pos : String} {aft : Array Edge} {v : Value}

theorem Mem.split {own : Owns} {G : Hp} {w : World} (h : Mem C own G w) {k j b b1 b2 : Nat} {o o1 o2 : OO} (hk : lk k own = some (b, o)) (hj : lk j own = none) (hmk : C.mh ≤ k) (hmj : C.mh ≤ j)
    (h1 : o1.holds C.w0.heap.size w b1) (h2 : o2.holds C.w0.heap.size w b2) (hb1 : ∀ g, o1.blks b1 g → o.blks b g) (hb2 : ∀ g, o2.blks b2 g → o.blks b g) (hd : ∀ g, o1.blks b1 g → o2.blks b2 g → False)
    (hm1 : ∀ g, o1.mut b1 g → o.mut b g) (hm2 : ∀ g, o2.mut b2 g → o.mut b g) : Mem C (stk j (b2, o2) (stk k (b1, o1) own)) G w := by
  obtain ⟨_, f⟩ := h.own _ _ _ hk
  have hkj : k ≠ j := by rintro rfl; rw [hj] at hk; cases hk
  have hl : ∀ {i c x}, lk i (stk j (b2, o2) (stk k (b1, o1) own)) = some (c, x) → (i = j ∧ c = b2 ∧ x = o2) ∨ (i = k ∧ c = b1 ∧ x = o1) ∨ (i ≠ j ∧ i ≠ k ∧ lk i own = some (c, x)) := by
    intro i c x e
    rw [lk_stk] at e
    split at e
    · cases e; exact .inl ⟨by assumption, rfl, rfl⟩
    · rw [lk_stk] at e
      split at e
      · cases e; exact .inr (.inl ⟨by assumption, rfl, rfl⟩)
      · exact .inr (.inr ⟨by assumption, by assumption, e⟩)
  refine ⟨fun i c x e => ?_, fun i i' c c' x x' g e e' q q' => ?_, h.grow⟩
  · rcases hl e with ⟨rfl, rfl, rfl⟩ | ⟨rfl, rfl, rfl⟩ | ⟨_, _, e⟩
    · refine ⟨h2, fun g hg => ?_⟩
      obtain ⟨f1, f2, _⟩ := f g (hm2 g hg)
      exact ⟨f1, fun _ => f2 hmk, fun q => by omega⟩
    · exact ⟨h1, fun g hg => f g (hm1 g hg)⟩
    · exact h.own _ _ _ e
  · rcases hl e with ⟨rfl, rfl, rfl⟩ | ⟨rfl, rfl, rfl⟩ | ⟨n1, n2, e0⟩ <;> rcases hl e' with ⟨e1, e2, e3⟩ | ⟨e1, e2, e3⟩ | ⟨n3, n4, e0'⟩
    · exact e1.symm
    · subst e1 e2 e3; exact (hd g q' q).elim
    · exact absurd (h.inj _ _ _ _ _ _ g e0' hk q' (hb2 g q)) n4
    · subst e1 e2 e3; exact (hd g q q').elim
    · exact e1.symm
    · exact absurd (h.inj _ _ _ _ _ _ g e0' hk q' (hb1 g q)) n4
    · subst e1 e2 e3; exact absurd (h.inj _ _ _ _ _ _ g e0 hk q (hb2 g q')) n2
    · subst e1 e2 e3; exact absurd (h.inj _ _ _ _ _ _ g e0 hk q (hb1 g q')) n2
    · exact h.inj _ _ _ _ _ _ g e0 e0' q q'

end
end Go.Sx
namespace Go.Sx
set_option linter.unusedSimpArgs false
set_option linter.unusedVariables false
open Go.RowKit
section
variable {C : Ctx} {sl : List (Nat × SV)} {own : Owns} {G : Hp}
end
end Go.Sx
namespace Go.Sx
set_option linter.unusedSimpArgs false
set_option linter.unusedVariables false
open Go.RowKit
section
variable {C : Ctx} {sl : List (Nat × SV)} {own : Owns} {G : Hp}
end
end Go.Sx
namespace Go.Sx
set_option linter.unusedSimpArgs false
set_option linter.unusedVariables false
open Go.RowKit

abbrev MEs := List (Int × Value × Nat)
section
variable {P : Program} {w : World} {q kd : IntKind} {K E T : TypeId} {b c : Nat} {l : MEs} {z : Value} {k : Int}
end

section
variable {C : Ctx} {K : List KI} {s : St} {sl : List (Nat × SV)} {own : Owns} {G : Hp} {R : Array Oper} {l : List Oper} {d : Option Tmp} {t : TypeId} {pos : String} {aft : Array Edge} {sz by' sz2 by2 : Nat} {ze ze2 : List Value} {fl fl2 : List (Nat × Nat × Bool)} {q kd : IntKind} {T KT E : TypeId} {x i : Operand} {b b' c : Nat} {es : MEs} {n : Int} {z : Value}
end
end Go.Sx
namespace Go.Proofs.Ytpopbkiphdcilaa
set_option linter.unusedSimpArgs false
set_option linter.unusedVariables false
open Go.Sx

def tyL : List (Nat × TI) := [
  (3, ⟨.int .i64, 1, 8, [.int .i64 0], []⟩),
  (2, ⟨.int .i64, 1, 8, [.int .i64 0], []⟩),
  (4, ⟨.bool, 1, 1, [.bool false], []⟩),
  (28, ⟨.int .i64, 1, 8, [.int .i64 0], []⟩),
  (60, ⟨.int .i64, 1, 8, [.int .i64 0], []⟩),
  (49, ⟨.slice 3, 1, 24, [.slice none 0 0], []⟩),
  (57, ⟨.slice 62, 1, 24, [.slice none 0 0], []⟩),
  (62, ⟨.strct, 3, 40, [.int .i64 0, .int .i64 0, .slice none 0 0], [(0, 1, false), (1, 1, false), (2, 1, false)]⟩),
  (59, ⟨.strct, 2, 32, [.int .i64 0, .slice none 0 0], [(0, 1, false), (1, 1, false)]⟩),
  (124, ⟨.strct, 4, 80, [.int .i64 0, .slice none 0 0, .slice none 0 0, .slice none 0 0], [(0, 2, true), (2, 1, false), (3, 1, false)]⟩),
  (114, ⟨.ptr 124, 1, 8, [.pointer none], []⟩),
  (119, ⟨.slice 130, 1, 24, [.slice none 0 0], []⟩),
  (130, ⟨.strct, 2, 16, [.int .i64 0, .int .i64 0], [(0, 1, false), (1, 1, false)]⟩),
  (126, ⟨.slice 128, 1, 24, [.slice none 0 0], []⟩),
  (128, ⟨.arr 2 3, 2, 16, [.int .i64 0, .int .i64 0], []⟩),
  (52, ⟨.func, 1, 8, [.nilFunc], []⟩),
  (24, ⟨.strct, 1, 24, [.slice none 0 0], [(0, 1, false)]⟩),
  (22, ⟨.slice 59, 1, 24, [.slice none 0 0], []⟩),
  (5, ⟨.int .u8, 1, 1, [.int .u8 0], []⟩),
  (37, ⟨.int .u32, 1, 4, [.int .u32 0], []⟩),
  (64, ⟨.int .u64, 1, 8, [.int .u64 0], []⟩),
  (9, ⟨.str, 1, 16, [.string ByteArray.empty], []⟩),
  (27, ⟨.slice 5, 1, 24, [.slice none 0 0], []⟩),
  (36, ⟨.slice 27, 1, 24, [.slice none 0 0], []⟩),
  (66, ⟨.strct, 3, 16, [.bool false, .bool false, .int .i64 0], [(0, 1, false), (1, 1, false), (2, 1, false)]⟩),
  (108, ⟨.strct, 2, 32, [.slice none 0 0, .int .i64 0], [(0, 1, false), (1, 1, false)]⟩),
  (106, ⟨.ptr 108, 1, 8, [.pointer none], []⟩),
  (89, ⟨.strct, 3, 40, [.slice none 0 0, .int .i64 0, .bool false], [(0, 1, false), (1, 1, false), (2, 1, false)]⟩),
  (104, ⟨.strct, 0, 0, [], []⟩),
  (20, ⟨.iface, 1, 16, [.nilIface], []⟩)]

def ty (T : TypeId) : Option TI := lk T tyL

theorem tyE : ty 3 = some ⟨.int .i64, 1, 8, [.int .i64 0], []⟩ ∧ ty 2 = some ⟨.int .i64, 1, 8, [.int .i64 0], []⟩ ∧ ty 4 = some ⟨.bool, 1, 1, [.bool false], []⟩ ∧ ty 28 = some ⟨.int .i64, 1, 8, [.int .i64 0], []⟩ ∧ ty 60 = some ⟨.int .i64, 1, 8, [.int .i64 0], []⟩ ∧ ty 49 = some ⟨.slice 3, 1, 24, [.slice none 0 0], []⟩ ∧ ty 57 = some ⟨.slice 62, 1, 24, [.slice none 0 0], []⟩ ∧ ty 62 = some ⟨.strct, 3, 40, [.int .i64 0, .int .i64 0, .slice none 0 0], [(0, 1, false), (1, 1, false), (2, 1, false)]⟩ ∧ ty 59 = some ⟨.strct, 2, 32, [.int .i64 0, .slice none 0 0], [(0, 1, false), (1, 1, false)]⟩ ∧ ty 124 = some ⟨.strct, 4, 80, [.int .i64 0, .slice none 0 0, .slice none 0 0, .slice none 0 0], [(0, 2, true), (2, 1, false), (3, 1, false)]⟩ ∧ ty 114 = some ⟨.ptr 124, 1, 8, [.pointer none], []⟩ ∧ ty 119 = some ⟨.slice 130, 1, 24, [.slice none 0 0], []⟩ ∧ ty 130 = some ⟨.strct, 2, 16, [.int .i64 0, .int .i64 0], [(0, 1, false), (1, 1, false)]⟩ ∧ ty 126 = some ⟨.slice 128, 1, 24, [.slice none 0 0], []⟩ ∧ ty 128 = some ⟨.arr 2 3, 2, 16, [.int .i64 0, .int .i64 0], []⟩ ∧ ty 52 = some ⟨.func, 1, 8, [.nilFunc], []⟩ ∧ ty 24 = some ⟨.strct, 1, 24, [.slice none 0 0], [(0, 1, false)]⟩ ∧ ty 22 = some ⟨.slice 59, 1, 24, [.slice none 0 0], []⟩ ∧ ty 5 = some ⟨.int .u8, 1, 1, [.int .u8 0], []⟩ ∧ ty 37 = some ⟨.int .u32, 1, 4, [.int .u32 0], []⟩ ∧ ty 64 = some ⟨.int .u64, 1, 8, [.int .u64 0], []⟩ ∧ ty 9 = some ⟨.str, 1, 16, [.string ByteArray.empty], []⟩ ∧ ty 27 = some ⟨.slice 5, 1, 24, [.slice none 0 0], []⟩ ∧ ty 36 = some ⟨.slice 27, 1, 24, [.slice none 0 0], []⟩ ∧ ty 66 = some ⟨.strct, 3, 16, [.bool false, .bool false, .int .i64 0], [(0, 1, false), (1, 1, false), (2, 1, false)]⟩ ∧ ty 108 = some ⟨.strct, 2, 32, [.slice none 0 0, .int .i64 0], [(0, 1, false), (1, 1, false)]⟩ ∧ ty 106 = some ⟨.ptr 108, 1, 8, [.pointer none], []⟩ ∧ ty 89 = some ⟨.strct, 3, 40, [.slice none 0 0, .int .i64 0, .bool false], [(0, 1, false), (1, 1, false), (2, 1, false)]⟩ ∧ ty 104 = some ⟨.strct, 0, 0, [], []⟩ ∧ ty 20 = some ⟨.iface, 1, 16, [.nilIface], []⟩ := ⟨rfl, rfl, rfl, rfl, rfl, rfl, rfl, rfl, rfl, rfl, rfl, rfl, rfl, rfl, rfl, rfl, rfl, rfl, rfl, rfl, rfl, rfl, rfl, rfl, rfl, rfl, rfl, rfl, rfl, rfl⟩

theorem lk_memT {α : Type} {i : Nat} {x : α} : ∀ {l : List (Nat × α)}, lk i l = some x → (i, x) ∈ l
  | [], h => by simp [lk] at h
  | y :: l, h => by
    simp only [lk] at h
    split at h
    · rename_i e; cases h; subst e; simp
    · exact List.mem_cons_of_mem _ (lk_memT h)

theorem tyok : ∀ T i, ty T = some i → i.ok Try.prog T := by
  intro T i h
  have key : ∀ x ∈ tyL, TI.ok Try.prog x.1 x.2 := by
    unfold tyL
    refine List.forall_mem_cons.2 ⟨⟨⟨_, _, (by kernel_rfl : Try.prog.info? 3 = some Try.t3), rfl, rfl, rfl, rfl⟩, rfl, Try.underlying3⟩, ?_⟩
    refine List.forall_mem_cons.2 ⟨⟨⟨_, _, (by kernel_rfl : Try.prog.info? 2 = some Try.t2), rfl, rfl, rfl, rfl⟩, rfl, Try.underlying2⟩, ?_⟩
    refine List.forall_mem_cons.2 ⟨⟨⟨_, _, (by kernel_rfl : Try.prog.info? 4 = some Try.t4), rfl, rfl, rfl, rfl⟩, rfl, Try.underlying4⟩, ?_⟩
    refine List.forall_mem_cons.2 ⟨⟨⟨_, _, (by kernel_rfl : Try.prog.info? 28 = some Try.t28), rfl, rfl, rfl, rfl⟩, rfl, Try.underlying28⟩, ?_⟩
    refine List.forall_mem_cons.2 ⟨⟨⟨_, _, (by kernel_rfl : Try.prog.info? 60 = some Try.t60), rfl, rfl, rfl, rfl⟩, rfl, Try.underlying60⟩, ?_⟩
    refine List.forall_mem_cons.2 ⟨⟨⟨_, _, (by kernel_rfl : Try.prog.info? 49 = some Try.t49), rfl, rfl, rfl, rfl⟩, rfl, Try.underlying49⟩, ?_⟩
    refine List.forall_mem_cons.2 ⟨⟨⟨_, _, (by kernel_rfl : Try.prog.info? 57 = some Try.t57), rfl, rfl, rfl, rfl⟩, rfl, Try.underlying57⟩, ?_⟩
    refine List.forall_mem_cons.2 ⟨⟨⟨_, _, (by kernel_rfl : Try.prog.info? 62 = some Try.t62), rfl, rfl, rfl, rfl⟩, rfl, ⟨_, Try.underlying62, (by kernel_rfl)⟩⟩, ?_⟩
    refine List.forall_mem_cons.2 ⟨⟨⟨_, _, (by kernel_rfl : Try.prog.info? 59 = some Try.t59), rfl, rfl, rfl, rfl⟩, rfl, ⟨_, Try.underlying59, (by kernel_rfl)⟩⟩, ?_⟩
    refine List.forall_mem_cons.2 ⟨⟨⟨_, _, (by kernel_rfl : Try.prog.info? 124 = some Try.t124), rfl, rfl, rfl, rfl⟩, rfl, ⟨_, Try.underlying124, (by kernel_rfl)⟩⟩, ?_⟩
    refine List.forall_mem_cons.2 ⟨⟨⟨_, _, (by kernel_rfl : Try.prog.info? 114 = some Try.t114), rfl, rfl, rfl, rfl⟩, rfl, Try.underlying114⟩, ?_⟩
    refine List.forall_mem_cons.2 ⟨⟨⟨_, _, (by kernel_rfl : Try.prog.info? 119 = some Try.t119), rfl, rfl, rfl, rfl⟩, rfl, Try.underlying119⟩, ?_⟩
    refine List.forall_mem_cons.2 ⟨⟨⟨_, _, (by kernel_rfl : Try.prog.info? 130 = some Try.t130), rfl, rfl, rfl, rfl⟩, rfl, ⟨_, Try.underlying130, (by kernel_rfl)⟩⟩, ?_⟩
    refine List.forall_mem_cons.2 ⟨⟨⟨_, _, (by kernel_rfl : Try.prog.info? 126 = some Try.t126), rfl, rfl, rfl, rfl⟩, rfl, Try.underlying126⟩, ?_⟩
    refine List.forall_mem_cons.2 ⟨⟨⟨_, _, (by kernel_rfl : Try.prog.info? 128 = some Try.t128), rfl, rfl, rfl, rfl⟩, rfl, Try.underlying128⟩, ?_⟩
    refine List.forall_mem_cons.2 ⟨⟨⟨_, _, (by kernel_rfl : Try.prog.info? 52 = some Try.t52), rfl, rfl, rfl, rfl⟩, rfl, ⟨_, _, _, Try.underlying52⟩⟩, ?_⟩
    refine List.forall_mem_cons.2 ⟨⟨⟨_, _, (by kernel_rfl : Try.prog.info? 24 = some Try.t24), rfl, rfl, rfl, rfl⟩, rfl, ⟨_, Try.underlying24, (by kernel_rfl)⟩⟩, ?_⟩
    refine List.forall_mem_cons.2 ⟨⟨⟨_, _, (by kernel_rfl : Try.prog.info? 22 = some Try.t22), rfl, rfl, rfl, rfl⟩, rfl, Try.underlying22⟩, ?_⟩
    refine List.forall_mem_cons.2 ⟨⟨⟨_, _, (by kernel_rfl : Try.prog.info? 5 = some Try.t5), rfl, rfl, rfl, rfl⟩, rfl, Try.underlying5⟩, ?_⟩
    refine List.forall_mem_cons.2 ⟨⟨⟨_, _, (by kernel_rfl : Try.prog.info? 37 = some Try.t37), rfl, rfl, rfl, rfl⟩, rfl, Try.underlying37⟩, ?_⟩
    refine List.forall_mem_cons.2 ⟨⟨⟨_, _, (by kernel_rfl : Try.prog.info? 64 = some Try.t64), rfl, rfl, rfl, rfl⟩, rfl, Try.underlying64⟩, ?_⟩
    refine List.forall_mem_cons.2 ⟨⟨⟨_, _, (by kernel_rfl : Try.prog.info? 9 = some Try.t9), rfl, rfl, rfl, rfl⟩, rfl, Try.underlying9⟩, ?_⟩
    refine List.forall_mem_cons.2 ⟨⟨⟨_, _, (by kernel_rfl : Try.prog.info? 27 = some Try.t27), rfl, rfl, rfl, rfl⟩, rfl, Try.underlying27⟩, ?_⟩
    refine List.forall_mem_cons.2 ⟨⟨⟨_, _, (by kernel_rfl : Try.prog.info? 36 = some Try.t36), rfl, rfl, rfl, rfl⟩, rfl, Try.underlying36⟩, ?_⟩
    refine List.forall_mem_cons.2 ⟨⟨⟨_, _, (by kernel_rfl : Try.prog.info? 66 = some Try.t66), rfl, rfl, rfl, rfl⟩, rfl, ⟨_, Try.underlying66, (by kernel_rfl)⟩⟩, ?_⟩
    refine List.forall_mem_cons.2 ⟨⟨⟨_, _, (by kernel_rfl : Try.prog.info? 108 = some Try.t108), rfl, rfl, rfl, rfl⟩, rfl, ⟨_, Try.underlying108, (by kernel_rfl)⟩⟩, ?_⟩
    refine List.forall_mem_cons.2 ⟨⟨⟨_, _, (by kernel_rfl : Try.prog.info? 106 = some Try.t106), rfl, rfl, rfl, rfl⟩, rfl, Try.underlying106⟩, ?_⟩
    refine List.forall_mem_cons.2 ⟨⟨⟨_, _, (by kernel_rfl : Try.prog.info? 89 = some Try.t89), rfl, rfl, rfl, rfl⟩, rfl, ⟨_, Try.underlying89, (by kernel_rfl)⟩⟩, ?_⟩
    refine List.forall_mem_cons.2 ⟨⟨⟨_, _, (by kernel_rfl : Try.prog.info? 104 = some Try.t104), rfl, rfl, rfl, rfl⟩, rfl, ⟨_, Try.underlying104, (by kernel_rfl)⟩⟩, ?_⟩
    refine List.forall_mem_cons.2 ⟨⟨⟨_, _, (by kernel_rfl : Try.prog.info? 20 = some Try.t20), rfl, rfl, rfl, rfl⟩, rfl, ⟨_, Try.underlying20⟩⟩, ?_⟩
    exact fun _ h => absurd h List.not_mem_nil
  exact key _ (lk_memT h)

theorem wr {n : Int} (h1 : -9223372036854775808 ≤ n) (h2 : n ≤ 9223372036854775807) : IntKind.i64.wrap n = n := Go.IntWalk.i64_in n ⟨h1, h2⟩
end Go.Proofs.Ytpopbkiphdcilaa
namespace Go.Proofs.Ytpopbkiphdcilaa
set_option linter.unusedSimpArgs false
set_option linter.unusedVariables false
open Go.Sx

structure Nd where
  op : Int
  n : Int
  l : List Int
structure Fu where
  params : Int
  nodes : List Nd

def rN : Rp Nd where
  size := 3
  e G x cs := ∃ sl, cs = [.int .i64 x.op, .int .i64 x.n, sl] ∧ isI64 x.op ∧ isI64 x.n ∧ rI.S G x.l sl
  mono hl h := by obtain ⟨sl, h1, h2, h3, h4⟩ := h; exact ⟨sl, h1, h2, h3, Rp.S_mono hl h4⟩
  len h := by obtain ⟨sl, rfl, _⟩ := h; rfl
  one h u hu := by
    obtain ⟨sl, rfl, _, _, h4⟩ := h
    obtain ⟨ad, cap, rfl⟩ := Rp.S_slice h4
    simp at hu
    rcases hu with rfl | rfl | rfl <;> rfl

def nms (op : Int) : Bool := op == 13 || op == 14 || op == 21 || op == 22 || op == 23
def chl (op : Int) : Int × Int × Bool :=
  if op = 1 ∨ op = 2 ∨ op = 15 ∨ op = 19 ∨ op = 3 then (0, 0, true)
  else if op = 11 ∨ op = 12 ∨ op = 17 ∨ op = 18 ∨ op = 24 then (1, 1, true)
  else if op = 4 ∨ op = 6 ∨ op = 7 ∨ op = 8 ∨ op = 9 ∨ op = 10 ∨ op = 16 then (2, 2, true)
  else if op = 5 then (3, 3, true)
  else if op = 13 ∨ op = 14 ∨ op = 22 ∨ op = 23 then (0, 8, true)
  else if op = 20 then (0, 16, true)
  else if op = 21 then (1, 9, true)
  else (0, 0, false)
def ben (op n : Int) : Bool := (chl op).2.2 && decide ((chl op).1 ≤ n) && decide (n ≤ (chl op).2.1)
def nmb (op n d : Int) : Bool :=
  if op = 1 then true else if op = 3 then decide (0 ≤ n) && decide (n < d) else if nms op then decide (0 ≤ n) && decide (n ≤ 63) else n == 0

set_option maxHeartbeats 4000000
theorem names_ok (op : Int) (G : Hp) : Pure Try.prog 68 [.int .i64 op] G (fun r _ => r = .bool (nms op)) := by
  refine enterX ty tyok Try.func68 rfl Try.ntmps68 [.v (.int .i64 op)] (by simp) ?_
  intro C hP hQ hnt hty hmb hmh hro; have hQp := qp_body hQ; refine st_ ?_
  refine rn_ ?_; intros
  iterate 5
    refine x_split rfl rfl rfl (fun h1 => ?_) (fun h1 => ?_) <;> (refine st_ ?_; (refine ru_ ?_; intros))
    · refine x_retc rfl hQ hmb rfl (by rw [hty]; simp only [so, sq, zy, zz, tyE, SO', SQ', opQ, opStore, opAlloc, ev, putS, dOk, cv, SV.cs, SV.one, SV.bool?, eqB, Value.oneCell', ldOwn, binInt, binConst, binBool, binStr, isC, TK.agg, rv, rv1, ldV, resOne, resV, Nat.reduceAdd, Nat.reduceMul, Nat.reduceSub, Nat.reduceLT, Nat.reduceLeDiff, Nat.reduceEqDiff, Nat.reduceBEq, reduceIte, reduceCtorEq, eq_self]; try rfl) rfl ?_; simp only [SV.den, resV, dens]; simp_all [nms]
  refine x_retc rfl hQ hmb rfl (by rw [hty]; simp only [so, sq, zy, zz, tyE, SO', SQ', opQ, opStore, opAlloc, ev, putS, dOk, cv, SV.cs, SV.one, SV.bool?, eqB, Value.oneCell', ldOwn, binInt, binConst, binBool, binStr, isC, TK.agg, rv, rv1, ldV, resOne, resV, Nat.reduceAdd, Nat.reduceMul, Nat.reduceSub, Nat.reduceLT, Nat.reduceLeDiff, Nat.reduceEqDiff, Nat.reduceBEq, reduceIte, reduceCtorEq, eq_self]; try rfl) rfl ?_; simp only [SV.den, resV, dens]; simp_all [nms]
theorem refnames_ok (op : Int) (G : Hp) : Pure Try.prog 74 [.int .i64 op] G (fun r _ => r = .bool (nms op)) := by
  refine enterX ty tyok Try.func74 rfl Try.ntmps74 [.v (.int .i64 op)] (by simp) ?_
  intro C hP hQ hnt hty hmb hmh hro; have hQp := qp_body hQ; refine st_ ?_
  refine rn_ ?_; intros
  refine go_gsplit rfl rfl (fun h1 => ?_) (fun h1 => ?_) <;> (refine st_ ?_; (refine rn_ ?_; intros))
  · refine go_slot 9 (.b true) rfl (by simp [SV.den]) ?_; refine rn_ ?_; intros
    repeat (refine go_gundef rfl (by rw [hnt]; rfl) rfl ?_; (refine st_ ?_; (refine rn_ ?_; intros)))
    refine x_retc rfl hQ hmb rfl (by rw [hty]; simp only [so, sq, zy, zz, tyE, SO', SQ', opQ, opStore, opAlloc, ev, putS, dOk, cv, SV.cs, SV.one, SV.bool?, eqB, Value.oneCell', ldOwn, binInt, binConst, binBool, binStr, isC, TK.agg, rv, rv1, ldV, resOne, resV, Nat.reduceAdd, Nat.reduceMul, Nat.reduceSub, Nat.reduceLT, Nat.reduceLeDiff, Nat.reduceEqDiff, Nat.reduceBEq, reduceIte, reduceCtorEq, eq_self]; try rfl) rfl ?_; simp only [SV.den, resV, dens]; simp_all [nms]
  refine go_gsplit rfl rfl (fun h2 => ?_) (fun h2 => ?_) <;> (refine st_ ?_; (refine rn_ ?_; intros))
  · repeat (refine go_gundef rfl (by rw [hnt]; rfl) rfl ?_; (refine st_ ?_; (refine rn_ ?_; intros)))
    refine x_retc rfl hQ hmb rfl (by rw [hty]; simp only [so, sq, zy, zz, tyE, SO', SQ', opQ, opStore, opAlloc, ev, putS, dOk, cv, SV.cs, SV.one, SV.bool?, eqB, Value.oneCell', ldOwn, binInt, binConst, binBool, binStr, isC, TK.agg, rv, rv1, ldV, resOne, resV, Nat.reduceAdd, Nat.reduceMul, Nat.reduceSub, Nat.reduceLT, Nat.reduceLeDiff, Nat.reduceEqDiff, Nat.reduceBEq, reduceIte, reduceCtorEq, eq_self]; try rfl) rfl ?_; simp only [SV.den, resV, dens]; simp_all [nms]
  refine go_gsplit rfl rfl (fun h3 => ?_) (fun h3 => ?_) <;> (refine st_ ?_; (refine rn_ ?_; intros))
  · refine x_retc rfl hQ hmb rfl (by rw [hty]; simp only [so, sq, zy, zz, tyE, SO', SQ', opQ, opStore, opAlloc, ev, putS, dOk, cv, SV.cs, SV.one, SV.bool?, eqB, Value.oneCell', ldOwn, binInt, binConst, binBool, binStr, isC, TK.agg, rv, rv1, ldV, resOne, resV, Nat.reduceAdd, Nat.reduceMul, Nat.reduceSub, Nat.reduceLT, Nat.reduceLeDiff, Nat.reduceEqDiff, Nat.reduceBEq, reduceIte, reduceCtorEq, eq_self]; try rfl) rfl ?_; simp only [SV.den, resV, dens]
    simp only [nms, h1, h2, Bool.false_or]
    simp at h3
    congr 1
    rw [Bool.eq_iff_iff]
    simp; omega
  · refine x_retc rfl hQ hmb rfl (by rw [hty]; simp only [so, sq, zy, zz, tyE, SO', SQ', opQ, opStore, opAlloc, ev, putS, dOk, cv, SV.cs, SV.one, SV.bool?, eqB, Value.oneCell', ldOwn, binInt, binConst, binBool, binStr, isC, TK.agg, rv, rv1, ldV, resOne, resV, Nat.reduceAdd, Nat.reduceMul, Nat.reduceSub, Nat.reduceLT, Nat.reduceLeDiff, Nat.reduceEqDiff, Nat.reduceBEq, reduceIte, reduceCtorEq, eq_self]; try rfl) rfl ?_; simp only [SV.den, resV, dens]
    simp only [nms, h1, h2, Bool.false_or]
    simp at h3
    congr 1
    symm
    simp
    omega
theorem children_ok (op : Int) (G : Hp) : Pure Try.prog 72 [.int .i64 op] G (fun r _ => r = .tuple #[.int .i64 (chl op).1, .int .i64 (chl op).2.1, .bool (chl op).2.2]) := by
  refine enterX ty tyok Try.func72 rfl Try.ntmps72 [.v (.int .i64 op)] (by simp) ?_
  intro C hP hQ hnt hty hmb hmh hro; have hQp := qp_body hQ; refine st_ ?_
  refine rn_ ?_; intros
  iterate 24
    refine x_split rfl rfl rfl (fun h0 => ?_) (fun h0 => ?_) <;> (refine st_ ?_; (refine ru_ ?_; intros))
    · refine x_retc rfl hQ hmb rfl (by rw [hty]; simp only [so, sq, zy, zz, tyE, SO', SQ', opQ, opStore, opAlloc, ev, putS, dOk, cv, SV.cs, SV.one, SV.bool?, eqB, Value.oneCell', ldOwn, binInt, binConst, binBool, binStr, isC, TK.agg, rv, rv1, ldV, resOne, resV, Nat.reduceAdd, Nat.reduceMul, Nat.reduceSub, Nat.reduceLT, Nat.reduceLeDiff, Nat.reduceEqDiff, Nat.reduceBEq, reduceIte, reduceCtorEq, eq_self]; try rfl) rfl ?_; simp only [SV.den, resV, dens]; simp_all [chl]
  refine x_retc rfl hQ hmb rfl (by rw [hty]; simp only [so, sq, zy, zz, tyE, SO', SQ', opQ, opStore, opAlloc, ev, putS, dOk, cv, SV.cs, SV.one, SV.bool?, eqB, Value.oneCell', ldOwn, binInt, binConst, binBool, binStr, isC, TK.agg, rv, rv1, ldV, resOne, resV, Nat.reduceAdd, Nat.reduceMul, Nat.reduceSub, Nat.reduceLT, Nat.reduceLeDiff, Nat.reduceEqDiff, Nat.reduceBEq, reduceIte, reduceCtorEq, eq_self]; try rfl) rfl ?_; simp only [SV.den, resV, dens]; simp_all [chl]
theorem beneath_ok (op n : Int) (G : Hp) (hn : 0 ≤ n) : Pure Try.prog 70 [.int .i64 op, .int .i64 n] G (fun r _ => r = .bool (ben op n)) := by
  refine enterX ty tyok Try.func70 rfl Try.ntmps70 [.v (.int .i64 op), .v (.int .i64 n)] (by simp) ?_
  intro C hP hQ hnt hty hmb hmh hro; have hQp := qp_body hQ; refine st_ ?_
  refine rn_ ?_; intros
  iterate 23
    refine x_split rfl rfl rfl (fun h0 => ?_) (fun h0 => ?_) <;> (refine st_ ?_; (refine ru_ ?_; intros))
    · (refine x_retc rfl hQ hmb rfl (by rw [hty]; simp only [so, sq, zy, zz, tyE, SO', SQ', opQ, opStore, opAlloc, ev, putS, dOk, cv, SV.cs, SV.one, SV.bool?, eqB, Value.oneCell', ldOwn, binInt, binConst, binBool, binStr, isC, TK.agg, rv, rv1, ldV, resOne, resV, Nat.reduceAdd, Nat.reduceMul, Nat.reduceSub, Nat.reduceLT, Nat.reduceLeDiff, Nat.reduceEqDiff, Nat.reduceBEq, reduceIte, reduceCtorEq, eq_self]; try rfl) rfl ?_; simp only [SV.den, resV, dens]; congr 1; rw [Bool.eq_iff_iff]; simp_all [ben, chl] <;> omega)
  refine x_split rfl rfl rfl (fun h23 => ?_) (fun h23 => ?_) <;> (refine st_ ?_; (refine ru_ ?_; intros))
  · refine go_gsplit rfl rfl (fun g1 => ?_) (fun g1 => ?_) <;> (refine st_ ?_; (refine rn_ ?_; intros))
    all_goals (refine x_retc rfl hQ hmb rfl (by rw [hty]; simp only [so, sq, zy, zz, tyE, SO', SQ', opQ, opStore, opAlloc, ev, putS, dOk, cv, SV.cs, SV.one, SV.bool?, eqB, Value.oneCell', ldOwn, binInt, binConst, binBool, binStr, isC, TK.agg, rv, rv1, ldV, resOne, resV, Nat.reduceAdd, Nat.reduceMul, Nat.reduceSub, Nat.reduceLT, Nat.reduceLeDiff, Nat.reduceEqDiff, Nat.reduceBEq, reduceIte, reduceCtorEq, eq_self]; try rfl) rfl ?_; simp only [SV.den, resV, dens]; congr 1; rw [Bool.eq_iff_iff]; simp_all [ben, chl] <;> omega)
  (refine x_retc rfl hQ hmb rfl (by rw [hty]; simp only [so, sq, zy, zz, tyE, SO', SQ', opQ, opStore, opAlloc, ev, putS, dOk, cv, SV.cs, SV.one, SV.bool?, eqB, Value.oneCell', ldOwn, binInt, binConst, binBool, binStr, isC, TK.agg, rv, rv1, ldV, resOne, resV, Nat.reduceAdd, Nat.reduceMul, Nat.reduceSub, Nat.reduceLT, Nat.reduceLeDiff, Nat.reduceEqDiff, Nat.reduceBEq, reduceIte, reduceCtorEq, eq_self]; try rfl) rfl ?_; simp only [SV.den, resV, dens]; congr 1; rw [Bool.eq_iff_iff]; simp_all [ben, chl] <;> omega)
theorem number_ok (x : Nd) (sl : Value) (d : Int) (G : Hp) (hr : rI.S G x.l sl) : Pure Try.prog 73 [.agg #[.int .i64 x.op, .int .i64 x.n, sl], .int .i64 d] G (fun r _ => r = .bool (nmb x.op x.n d)) := by
  obtain ⟨ad, cap, rfl⟩ := Rp.S_slice hr
  refine enterX ty tyok Try.func73 rfl Try.ntmps73 [.a [.v (.int .i64 x.op), .v (.int .i64 x.n), .v _], .v (.int .i64 d)] (by simp) ?_
  intro C hP hQ hnt hty hmb hmh hro; have hQp := qp_body hQ; refine st_ ?_
  refine rn_ ?_; intros
  refine x_split rfl rfl rfl (fun h1 => ?_) (fun h1 => ?_) <;> (refine st_ ?_; (refine ru_ ?_; intros))
  · refine x_retc rfl hQ hmb rfl (by rw [hty]; simp only [so, sq, zy, zz, tyE, SO', SQ', opQ, opStore, opAlloc, ev, putS, dOk, cv, SV.cs, SV.one, SV.bool?, eqB, Value.oneCell', ldOwn, binInt, binConst, binBool, binStr, isC, TK.agg, rv, rv1, ldV, resOne, resV, Nat.reduceAdd, Nat.reduceMul, Nat.reduceSub, Nat.reduceLT, Nat.reduceLeDiff, Nat.reduceEqDiff, Nat.reduceBEq, reduceIte, reduceCtorEq, eq_self]; try rfl) rfl ?_; simp only [SV.den, resV, dens]; simp_all [nmb]
  refine x_split rfl rfl rfl (fun h2 => ?_) (fun h2 => ?_) <;> (refine st_ ?_; (refine ru_ ?_; intros))
  · refine go_gsplit rfl rfl (fun h3 => ?_) (fun h3 => ?_) <;> (refine st_ ?_; (refine rn_ ?_; intros))
    all_goals (refine x_retc rfl hQ hmb rfl (by rw [hty]; simp only [so, sq, zy, zz, tyE, SO', SQ', opQ, opStore, opAlloc, ev, putS, dOk, cv, SV.cs, SV.one, SV.bool?, eqB, Value.oneCell', ldOwn, binInt, binConst, binBool, binStr, isC, TK.agg, rv, rv1, ldV, resOne, resV, Nat.reduceAdd, Nat.reduceMul, Nat.reduceSub, Nat.reduceLT, Nat.reduceLeDiff, Nat.reduceEqDiff, Nat.reduceBEq, reduceIte, reduceCtorEq, eq_self]; try rfl) rfl ?_; simp only [SV.den, resV, dens]; simp_all [nmb] <;> (try (intros; omega)))
  refine go_callf (by rw [hnt]; rfl) (by rw [hP]; kernel_rfl) rfl (hP ▸ names_ok x.op G) ?_; refine rn_ ?_; intros
  refine x_split rfl rfl rfl (fun h3 => ?_) (fun h3 => ?_) <;> (refine st_ ?_; (refine ru_ ?_; intros))
  · refine go_gsplit rfl rfl (fun h4 => ?_) (fun h4 => ?_) <;> (refine st_ ?_; (refine rn_ ?_; intros))
    all_goals (refine x_retc rfl hQ hmb rfl (by rw [hty]; simp only [so, sq, zy, zz, tyE, SO', SQ', opQ, opStore, opAlloc, ev, putS, dOk, cv, SV.cs, SV.one, SV.bool?, eqB, Value.oneCell', ldOwn, binInt, binConst, binBool, binStr, isC, TK.agg, rv, rv1, ldV, resOne, resV, Nat.reduceAdd, Nat.reduceMul, Nat.reduceSub, Nat.reduceLT, Nat.reduceLeDiff, Nat.reduceEqDiff, Nat.reduceBEq, reduceIte, reduceCtorEq, eq_self]; try rfl) rfl ?_; simp only [SV.den, resV, dens]; simp_all [nmb] <;> (try (intros; omega)))
  refine x_retc rfl hQ hmb rfl (by rw [hty]; simp only [so, sq, zy, zz, tyE, SO', SQ', opQ, opStore, opAlloc, ev, putS, dOk, cv, SV.cs, SV.one, SV.bool?, eqB, Value.oneCell', ldOwn, binInt, binConst, binBool, binStr, isC, TK.agg, rv, rv1, ldV, resOne, resV, Nat.reduceAdd, Nat.reduceMul, Nat.reduceSub, Nat.reduceLT, Nat.reduceLeDiff, Nat.reduceEqDiff, Nat.reduceBEq, reduceIte, reduceCtorEq, eq_self]; try rfl) rfl ?_; simp only [SV.den, resV, dens]; simp_all [nmb]
theorem refnumber_ok (op n d : Int) (G : Hp) : Pure Try.prog 71 [.int .i64 op, .int .i64 n, .int .i64 d] G (fun r _ => r = .bool (nmb op n d)) := by
  refine enterX ty tyok Try.func71 rfl Try.ntmps71 [.v (.int .i64 op), .v (.int .i64 n), .v (.int .i64 d)] (by simp) ?_
  intro C hP hQ hnt hty hmb hmh hro; have hQp := qp_body hQ; refine st_ ?_
  refine rn_ ?_; intros
  refine go_callf (by rw [hnt]; rfl) (by rw [hP]; kernel_rfl) rfl (hP ▸ refnames_ok op G) ?_; refine rn_ ?_; intros
  refine x_split rfl rfl rfl (fun h1 => ?_) (fun h1 => ?_) <;> (refine st_ ?_; (refine ru_ ?_; intros))
  · have h13 : op ≠ 1 ∧ op ≠ 3 := by
      constructor <;> (rintro rfl; simp [nms] at h1)
    refine go_gsplit rfl rfl (fun h2 => ?_) (fun h2 => ?_) <;> (refine st_ ?_; (refine rn_ ?_; intros))
    all_goals (refine x_retc rfl hQ hmb rfl (by rw [hty]; simp only [so, sq, zy, zz, tyE, SO', SQ', opQ, opStore, opAlloc, ev, putS, dOk, cv, SV.cs, SV.one, SV.bool?, eqB, Value.oneCell', ldOwn, binInt, binConst, binBool, binStr, isC, TK.agg, rv, rv1, ldV, resOne, resV, Nat.reduceAdd, Nat.reduceMul, Nat.reduceSub, Nat.reduceLT, Nat.reduceLeDiff, Nat.reduceEqDiff, Nat.reduceBEq, reduceIte, reduceCtorEq, eq_self]; try rfl) rfl ?_; simp only [SV.den, resV, dens]; simp_all [nmb] <;> (try (intros; omega)))
  refine x_split rfl rfl rfl (fun h2 => ?_) (fun h2 => ?_) <;> (refine st_ ?_; (refine ru_ ?_; intros))
  · refine go_gsplit rfl rfl (fun h3 => ?_) (fun h3 => ?_) <;> (refine st_ ?_; (refine rn_ ?_; intros))
    all_goals (refine x_retc rfl hQ hmb rfl (by rw [hty]; simp only [so, sq, zy, zz, tyE, SO', SQ', opQ, opStore, opAlloc, ev, putS, dOk, cv, SV.cs, SV.one, SV.bool?, eqB, Value.oneCell', ldOwn, binInt, binConst, binBool, binStr, isC, TK.agg, rv, rv1, ldV, resOne, resV, Nat.reduceAdd, Nat.reduceMul, Nat.reduceSub, Nat.reduceLT, Nat.reduceLeDiff, Nat.reduceEqDiff, Nat.reduceBEq, reduceIte, reduceCtorEq, eq_self]; try rfl) rfl ?_; simp only [SV.den, resV, dens]; simp_all [nmb] <;> (try (intros; omega)))
  refine go_gsplit rfl rfl (fun h3 => ?_) (fun h3 => ?_) <;> (refine st_ ?_; (refine rn_ ?_; intros))
  all_goals (refine x_retc rfl hQ hmb rfl (by rw [hty]; simp only [so, sq, zy, zz, tyE, SO', SQ', opQ, opStore, opAlloc, ev, putS, dOk, cv, SV.cs, SV.one, SV.bool?, eqB, Value.oneCell', ldOwn, binInt, binConst, binBool, binStr, isC, TK.agg, rv, rv1, ldV, resOne, resV, Nat.reduceAdd, Nat.reduceMul, Nat.reduceSub, Nat.reduceLT, Nat.reduceLeDiff, Nat.reduceEqDiff, Nat.reduceBEq, reduceIte, reduceCtorEq, eq_self]; try rfl) rfl ?_; simp only [SV.den, resV, dens]; simp_all [nmb] <;> (try (intros; omega)))
end Go.Proofs.Ytpopbkiphdcilaa
namespace Go.Proofs.Ytpopbkiphdcilaa
set_option linter.unusedSimpArgs false
set_option linter.unusedVariables false
open Go.Sx

abbrev Pl := List (Int × Int)
def pa (A : Pl) (i : Nat) : Int := (A.getD i (0, 0)).1
def de (A : Pl) (i : Nat) : Int := (A.getD i (0, 0)).2
def more (op : Int) (k : Nat) : Int := if op = 4 ∧ k = 1 then 1 else 0
def kids (n : Nat) (op : Int) (i : Nat) : Nat → List Int → Pl → Option Pl
  | _, [], A => some A
  | k, c :: l, A => if c ≤ i ∨ (n : Int) ≤ c ∨ 0 ≤ pa A c.toNat then none else kids n op i (k + 1) l (A.set c.toNat ((i : Int), de A i + more op k))
def bad (i : Nat) (x : Nd) (A : Pl) : Prop := (0 < i ∧ pa A i < 0) ∨ 64 < de A i ∨ ben x.op x.l.length = false ∨ nmb x.op x.n (de A i) = false
instance (i : Nat) (x : Nd) (A : Pl) : Decidable (bad i x A) := by unfold bad; infer_instance
def nodeStep (n i : Nat) (x : Nd) (A : Pl) : Option Pl := if bad i x A then none else kids n x.op i 0 x.l A
def plGo (n : Nat) : Nat → List Nd → Pl → Nat ⊕ Pl
  | _, [], A => .inr A
  | i, x :: l, A => match nodeStep n i x A with
    | none => .inl i
    | some A' => plGo n (i + 1) l A'
def pl0 (f : Fu) : Pl := (List.replicate f.nodes.length ((-1 : Int), (0 : Int))).set 0 (-1, f.params)
def out (f : Fu) : Prop := f.params < 0 ∨ 9 < f.params ∨ f.nodes.length < 1 ∨ 200 < f.nodes.length
instance (f : Fu) : Decidable (out f) := by unfold out; infer_instance
def places (f : Fu) : Nat ⊕ Pl := if out f then .inl 0 else plGo f.nodes.length 0 f.nodes (pl0 f)

def okA (A : Pl) : Prop := ∀ x ∈ A, isI64 x.1 ∧ isI64 x.2
theorem okA_set {A : Pl} (h : okA A) {i : Nat} {x : Int × Int} (hx : isI64 x.1 ∧ isI64 x.2) : okA (A.set i x) := by
  intro y hy
  rcases List.mem_or_eq_of_mem_set hy with hy | rfl
  · exact h y hy
  · exact hx
theorem pa_eq {A : Pl} {i : Nat} (h : i < A.length) : pa A i = A[i].1 := by simp [pa, h]
theorem de_eq {A : Pl} {i : Nat} (h : i < A.length) : de A i = A[i].2 := by simp [de, h]
theorem de_ok {A : Pl} (h : okA A) {i : Nat} (hi : i < A.length) : isI64 (de A i) := by rw [de_eq hi]; exact (h _ (List.getElem_mem hi)).2
theorem pa_set {A : Pl} {c i : Nat} {x : Int × Int} (hc : c < A.length) : pa (A.set c x) i = if i = c then x.1 else pa A i := by
  by_cases h : i = c
  · subst h; simp [pa, hc]
  · simp [pa, h, List.getElem?_set, Ne.symm h]
theorem de_set {A : Pl} {c i : Nat} {x : Int × Int} (hc : c < A.length) : de (A.set c x) i = if i = c then x.2 else de A i := by
  by_cases h : i = c
  · subst h; simp [de, hc]
  · simp [de, h, List.getElem?_set, Ne.symm h]
theorem kids_ok {n : Nat} {op : Int} {i : Nat} (hi : isI64 i) : ∀ {l : List Int} {k : Nat} {A B : Pl}, okA A → i < A.length → A.length = n → de A i ≤ 64 → kids n op i k l A = some B → okA B
  | [], k, A, B, hA, _, _, _, h => by simp only [kids, Option.some.injEq] at h; rw [← h]; exact hA
  | c :: l, k, A, B, hA, hl, hn, hd, h => by
    simp only [kids] at h
    split at h
    · cases h
    · rename_i hc
      have hd2 := de_ok hA hl
      simp only [isI64] at hd2
      have hx : isI64 ((i : Int), de A i + more op k).1 ∧ isI64 ((i : Int), de A i + more op k).2 := by
        refine ⟨hi, ?_⟩
        simp only [isI64, more]
        split <;> omega
      refine kids_ok hi (okA_set hA hx) (by simpa using hl) (by simpa using hn) ?_ h
      rw [de_set (by omega), if_neg (by omega)]; exact hd
theorem nodeStep_ok {n i : Nat} {x : Nd} {A B : Pl} (hi : isI64 i) (hA : okA A) (hl : i < A.length) (hn : A.length = n) (h : nodeStep n i x A = some B) : okA B := by
  simp only [nodeStep] at h
  split at h
  · cases h
  · rename_i hb
    exact kids_ok hi hA hl hn (by unfold bad at hb; omega) h
theorem pl0_len (f : Fu) : (pl0 f).length = f.nodes.length := by simp [pl0]
theorem pl0_ok {f : Fu} (h : ¬ out f) : okA (pl0 f) := by
  refine okA_set ?_ ?_
  · intro x hx
    have := List.eq_of_mem_replicate hx
    subst this
    simp [isI64]
  · unfold out at h
    simp only [isI64]; omega
theorem ld1 {α : Type} {A : List α} {f : α → Value} {i off : Nat} (h : i < A.length) (ho : off = i) : ldV false (((A.map f).drop off).take 1) = f A[i] := by
  subst ho
  rw [List.drop_eq_getElem_cons (by simpa using h)]
  simp [ldV]
theorem lay1 {α : Type} {A : List α} {f : α → Value} {i off : Nat} (x : α) {v : Value} (h : i < A.length) (ho : off = i) (hv : v = f x) : lay (A.map f) off [v] = some ((A.set i x).map f) := by
  subst ho hv
  rw [lay_put (by simp; omega)]
  congr 1
  rw [List.map_set, List.set_eq_take_append_cons_drop, if_pos (by simpa using h)]
  simp
end Go.Proofs.Ytpopbkiphdcilaa
namespace Go.Proofs.Ytpopbkiphdcilaa
set_option linter.unusedSimpArgs false
set_option linter.unusedVariables false
open Go.Sx
set_option maxHeartbeats 4000000
def fp (x : Int × Int) : Value := .int .i64 x.1
def fd (x : Int × Int) : Value := .int .i64 x.2
theorem ldp {A : Pl} {i off : Nat} (h : i < A.length) (ho : off = i) : ldV false (((A.map fp).drop off).take 1) = .int .i64 (pa A i) := by rw [ld1 h ho, pa_eq h]; rfl
theorem ldd {A : Pl} {i off : Nat} (h : i < A.length) (ho : off = i) : ldV false (((A.map fd).drop off).take 1) = .int .i64 (de A i) := by rw [ld1 h ho, de_eq h]; rfl
def rows (n b1 b2 c1 c2 : Nat) (A : Pl) : Lds :=
  [(b1, .row (.slice (some ⟨b1, 0, none⟩) n c1) 3 1 n (A.map fp)), (b2, .row (.slice (some ⟨b2, 0, none⟩) n c2) 3 1 n (A.map fd))]
theorem right_ok (f : Fu) (i n : Nat) (A : Pl) (ns : Value) (bv b1 b2 c1 c2 : Nat) (G : Hp) (hns : rN.S G f.nodes ns) (hfn : f.nodes.length = n) (h200 : n ≤ 200) (hi : i < f.nodes.length) (hA : okA A) (hl : A.length = n)
    (hv : At G bv 0 [.int .i64 f.params, ns, .slice (some ⟨b1, 0, none⟩) n c1, .slice (some ⟨b2, 0, none⟩) n c2]) :
    PureW Try.prog 65 [.pointer (some ⟨bv, 0, none⟩), .int .i64 i] G (rows n b1 b2 c1 c2 A)
      (fun r _ ow => r = .bool (nodeStep n i f.nodes[i] A).isSome ∧ ∃ B, B.length = n ∧ ow = rows n b1 b2 c1 c2 B ∧ ∀ B', nodeStep n i f.nodes[i] A = some B' → B = B') := by
  have hv0 : At G bv 1 [ns] := by simpa using hv.sub 1 1 (by simp)
  have hv1 : At G bv 2 [.slice (some ⟨b1, 0, none⟩) n c1] := by simpa using hv.sub 2 1 (by simp)
  have hv2 : At G bv 3 [.slice (some ⟨b2, 0, none⟩) n c2] := by simpa using hv.sub 3 1 (by simp)
  obtain ⟨bn, offn, capn, cn, rfl, hatn, sl, rfl, hop, hnn, hsl⟩ := Rp.S_get hns hi
  rw [hfn] at hv0
  obtain ⟨h63, ad, cap, rfl, hsrc⟩ := hsl
  have hatn' : At G bn (offn + i * 3) [.int .i64 f.nodes[i].op, .int .i64 f.nodes[i].n, .slice ad f.nodes[i].l.length cap] := by simpa [rN] using hatn
  clear hatn hns
  generalize hx : f.nodes[i] = x at *
  have hi2 : i < n := by omega
  refine enterW ty tyok Try.func65 rfl Try.ntmps65 [.v (.pointer (some ⟨bv, 0, none⟩)), .v (.int .i64 i)] (by simp) (mh := 2) rfl ?_
  intro C hP hQ hnt hty hmb hmh hro hG0 hmub; have hQp := qp_body hQ; refine st_ ?_
  simp only [rows, enumO]
  refine rn_ ?_; intros
  have ret : ∀ B : Pl, B.length = n → nodeStep n i x A = none → Value.bool false = Value.bool (nodeStep n i x A).isSome ∧ ∃ B', B'.length = n ∧ rows n b1 b2 c1 c2 B = rows n b1 b2 c1 c2 B' ∧ ∀ B'', nodeStep n i x A = some B'' → B' = B'' :=
    fun B hB h => ⟨by rw [h]; rfl, B, hB, rfl, fun B'' h' => by rw [h] at h'; cases h'⟩
  refine cut_tail 2 (fun s' => ¬ (0 < i ∧ pa A i < 0) ∧ ¬ 64 < de A i ∧ s' = ⟨[(0, .v (.pointer (some ⟨bv, 0, none⟩))), (1, .v (.int .i64 i)), (4, .b false)], [(0, b1, .row (.slice (some ⟨b1, 0, none⟩) n c1) 3 1 n (A.map fp)), (1, b2, .row (.slice (some ⟨b2, 0, none⟩) n c2) 3 1 n (A.map fd))], G, []⟩) ?_ ?_
  rotate_left
  · intro key
    simp only [List.drop_succ_cons, List.drop_zero] at key
    refine go_gsplit rfl rfl (fun h1 => ?_) (fun h1 => ?_) <;> (refine st_ ?_; (refine rn_ ?_; intros))
    · have h1' : 0 < i := by simpa using h1
      refine go_q (by rw [hnt]; rfl) (quiet_load (by rw [hty]; rfl) rfl (by simp [TK.agg]) hv1 rfl) ?_; refine rn_ ?_; intros; refine go_q (by rw [hnt]; rfl) (quiet_index (by rw [hty]; rfl) (by rw [hty]; rfl) rfl rfl rfl (by omega) (by omega)) ?_; refine rn_ ?_; intros; refine go_q (v := .int .i64 (pa A i)) (by rw [hnt]; rfl) ((quiet_loadR (k := 0) (by rw [hty]; rfl) rfl (by simp [TK.agg]) rfl (by simp; omega)).cast (by exact ldp (by omega) (by simp))) ?_; refine rn_ ?_; intros
      refine go_gsplit rfl rfl (fun h2 => ?_) (fun h2 => ?_) <;> (refine st_ ?_; (refine rn_ ?_; intros))
      · refine x_retW rfl hQ hmb hmh hG0 hmub rfl rfl (by rw [hty]; simp only [so, sq, zy, zz, tyE, SO', SQ', opQ, opStore, opAlloc, ev, putS, dOk, cv, SV.cs, SV.one, SV.bool?, eqB, Value.oneCell', ldOwn, binInt, binConst, binBool, binStr, isC, TK.agg, rv, rv1, ldV, resOne, resV, Nat.reduceAdd, Nat.reduceMul, Nat.reduceSub, Nat.reduceLT, Nat.reduceLeDiff, Nat.reduceEqDiff, Nat.reduceBEq, reduceIte, reduceCtorEq, eq_self]; try rfl) rfl rfl (by simp only [enumO]; exact (by repeat (first | exact plain_nil | refine plain_cons (fun _ h => h) ?_))) ?_; simp only [SV.den, resV, dens]
        exact ret A hl (if_pos (.inl ⟨h1', by simpa using h2⟩))
      · refine go_q (by rw [hnt]; rfl) (quiet_load (by rw [hty]; rfl) rfl (by simp [TK.agg]) hv2 rfl) ?_; refine rn_ ?_; intros; refine go_q (by rw [hnt]; rfl) (quiet_index (by rw [hty]; rfl) (by rw [hty]; rfl) rfl rfl rfl (by omega) (by omega)) ?_; refine rn_ ?_; intros; refine go_q (v := .int .i64 (de A i)) (by rw [hnt]; rfl) ((quiet_loadR (k := 1) (by rw [hty]; rfl) rfl (by simp [TK.agg]) rfl (by simp; omega)).cast (by exact ldd (by omega) (by simp))) ?_; refine rn_ ?_; intros
        refine x_if rfl rfl rfl rfl (fun h3 => ?_) (fun h3 => ?_)
        · refine rn_ ?_; intros
          refine x_retW rfl hQ hmb hmh hG0 hmub rfl rfl (by rw [hty]; simp only [so, sq, zy, zz, tyE, SO', SQ', opQ, opStore, opAlloc, ev, putS, dOk, cv, SV.cs, SV.one, SV.bool?, eqB, Value.oneCell', ldOwn, binInt, binConst, binBool, binStr, isC, TK.agg, rv, rv1, ldV, resOne, resV, Nat.reduceAdd, Nat.reduceMul, Nat.reduceSub, Nat.reduceLT, Nat.reduceLeDiff, Nat.reduceEqDiff, Nat.reduceBEq, reduceIte, reduceCtorEq, eq_self]; try rfl) rfl rfl (by simp only [enumO]; exact (by repeat (first | exact plain_nil | refine plain_cons (fun _ h => h) ?_))) ?_; simp only [SV.den, resV, dens]
          exact ret A hl (if_pos (.inr (.inl (by simpa using h3))))
        · refine x_skip rfl ?_
          refine go_keep [0, 1, 4] [0, 1] ?_
          refine st_ ?_
          exact key _ ⟨by simp at h2; omega, by simp at h3; omega, rfl⟩
    · have h1' : ¬ 0 < i := by simpa using h1
      refine go_q (by rw [hnt]; rfl) (quiet_load (by rw [hty]; rfl) rfl (by simp [TK.agg]) hv2 rfl) ?_; refine rn_ ?_; intros; refine go_q (by rw [hnt]; rfl) (quiet_index (by rw [hty]; rfl) (by rw [hty]; rfl) rfl rfl rfl (by omega) (by omega)) ?_; refine rn_ ?_; intros; refine go_q (v := .int .i64 (de A i)) (by rw [hnt]; rfl) ((quiet_loadR (k := 1) (by rw [hty]; rfl) rfl (by simp [TK.agg]) rfl (by simp; omega)).cast (by exact ldd (by omega) (by simp))) ?_; refine rn_ ?_; intros
      refine x_if rfl rfl rfl rfl (fun h3 => ?_) (fun h3 => ?_)
      · refine rn_ ?_; intros
        refine x_retW rfl hQ hmb hmh hG0 hmub rfl rfl (by rw [hty]; simp only [so, sq, zy, zz, tyE, SO', SQ', opQ, opStore, opAlloc, ev, putS, dOk, cv, SV.cs, SV.one, SV.bool?, eqB, Value.oneCell', ldOwn, binInt, binConst, binBool, binStr, isC, TK.agg, rv, rv1, ldV, resOne, resV, Nat.reduceAdd, Nat.reduceMul, Nat.reduceSub, Nat.reduceLT, Nat.reduceLeDiff, Nat.reduceEqDiff, Nat.reduceBEq, reduceIte, reduceCtorEq, eq_self]; try rfl) rfl rfl (by simp only [enumO]; exact (by repeat (first | exact plain_nil | refine plain_cons (fun _ h => h) ?_))) ?_; simp only [SV.den, resV, dens]
        exact ret A hl (if_pos (.inr (.inl (by simpa using h3))))
      · refine x_skip rfl ?_
        refine go_keep [0, 1, 4] [0, 1] ?_
        refine st_ ?_
        exact key _ ⟨by omega, by simp at h3; omega, rfl⟩
  · rintro s' ⟨hb1, hb2, rfl⟩
    simp only [List.drop_succ_cons, List.drop_zero]
    refine rn_ ?_; intros
    refine go_q (by rw [hnt]; rfl) (quiet_load (by rw [hty]; rfl) rfl (by simp [TK.agg]) hv0 rfl) ?_; refine rn_ ?_; intros
    refine go_q (by rw [hnt]; rfl) (quiet_index (by rw [hty]; rfl) (by rw [hty]; rfl) rfl rfl rfl (by omega) (by omega)) ?_
    refine rn_ ?_; intros
    refine go_q (by rw [hnt]; rfl) (quiet_load (by rw [hty]; rfl) rfl (by simp [TK.agg]) hatn' rfl) ?_
    refine rn_ ?_; intros
    rename_i b5
    refine go_callf (by rw [hnt]; rfl) (by rw [hP]; kernel_rfl) rfl (hP ▸ children_ok x.op G) ?_; refine rn_ ?_; intros
    refine go_keep [0, 1, 4, 5, 6, 7, 8] [0, 1, 2] ?_
    refine st_ ?_
    refine x_draw rfl (by rw [hP]; kernel_rfl) rfl (by kernel_rfl) ?_
    refine runq 400 hty hnt ?_; refine st_ ?_
    have nb : ben x.op x.l.length = false → nodeStep n i x A = none := fun h => if_pos (.inr (.inr (.inl h)))
    refine go_qsplit rfl rfl (fun h3 => ?_) (fun h3 => ?_) <;> (refine st_ ?_; (try (refine runq 400 hty hnt ?_; refine st_ ?_)))
    · (first | refine q_end ?_; refine rn_ ?_; intros | skip)
      refine rn_ ?_; intros
      refine x_retW rfl hQ hmb hmh hG0 hmub rfl rfl (by rw [hty]; simp only [so, sq, zy, zz, tyE, SO', SQ', opQ, opStore, opAlloc, ev, putS, dOk, cv, SV.cs, SV.one, SV.bool?, eqB, Value.oneCell', ldOwn, binInt, binConst, binBool, binStr, isC, TK.agg, rv, rv1, ldV, resOne, resV, Nat.reduceAdd, Nat.reduceMul, Nat.reduceSub, Nat.reduceLT, Nat.reduceLeDiff, Nat.reduceEqDiff, Nat.reduceBEq, reduceIte, reduceCtorEq, eq_self]; try rfl) rfl rfl (by simp only [enumO]; exact (by repeat (first | exact plain_nil | refine plain_cons (fun _ h => h) ?_))) ?_; simp only [SV.den, resV, dens]
      exact ret A hl (nb (by simp [ben]; simp_all))
    refine go_qsplit rfl rfl (fun h4 => ?_) (fun h4 => ?_) <;> (refine st_ ?_; (try (refine runq 400 hty hnt ?_; refine st_ ?_)))
    · (first | refine q_end ?_; refine rn_ ?_; intros | skip)
      refine rn_ ?_; intros
      refine x_retW rfl hQ hmb hmh hG0 hmub rfl rfl (by rw [hty]; simp only [so, sq, zy, zz, tyE, SO', SQ', opQ, opStore, opAlloc, ev, putS, dOk, cv, SV.cs, SV.one, SV.bool?, eqB, Value.oneCell', ldOwn, binInt, binConst, binBool, binStr, isC, TK.agg, rv, rv1, ldV, resOne, resV, Nat.reduceAdd, Nat.reduceMul, Nat.reduceSub, Nat.reduceLT, Nat.reduceLeDiff, Nat.reduceEqDiff, Nat.reduceBEq, reduceIte, reduceCtorEq, eq_self]; try rfl) rfl rfl (by simp only [enumO]; exact (by repeat (first | exact plain_nil | refine plain_cons (fun _ h => h) ?_))) ?_; simp only [SV.den, resV, dens]
      exact ret A hl (nb (by simp [ben]; simp at h4; omega))
    refine go_qsplit rfl rfl (fun h5 => ?_) (fun h5 => ?_) <;> (refine st_ ?_; (try (refine runq 400 hty hnt ?_; refine st_ ?_)))
    · (first | refine q_end ?_; refine rn_ ?_; intros | skip)
      refine rn_ ?_; intros
      refine x_retW rfl hQ hmb hmh hG0 hmub rfl rfl (by rw [hty]; simp only [so, sq, zy, zz, tyE, SO', SQ', opQ, opStore, opAlloc, ev, putS, dOk, cv, SV.cs, SV.one, SV.bool?, eqB, Value.oneCell', ldOwn, binInt, binConst, binBool, binStr, isC, TK.agg, rv, rv1, ldV, resOne, resV, Nat.reduceAdd, Nat.reduceMul, Nat.reduceSub, Nat.reduceLT, Nat.reduceLeDiff, Nat.reduceEqDiff, Nat.reduceBEq, reduceIte, reduceCtorEq, eq_self]; try rfl) rfl rfl (by simp only [enumO]; exact (by repeat (first | exact plain_nil | refine plain_cons (fun _ h => h) ?_))) ?_; simp only [SV.den, resV, dens]
      exact ret A hl (nb (by simp [ben]; simp at h5; omega))
    have hben : ben x.op x.l.length = true := by simp at h3 h4 h5; simp [ben, h3]; omega
    refine q_q (by rw [hnt]; rfl) (quiet_load (by rw [hty]; rfl) rfl (by simp [TK.agg]) hv2 rfl) ?_
    refine runq 400 hty hnt ?_; refine st_ ?_
    refine q_q (by rw [hnt]; rfl) (quiet_index (by rw [hty]; rfl) (by rw [hty]; rfl) rfl rfl rfl (by omega) (by omega)) ?_
    refine runq 400 hty hnt ?_; refine st_ ?_
    refine q_q (v := .int .i64 (de A i)) (by rw [hnt]; rfl) ((quiet_loadR (k := 1) (by rw [hty]; rfl) rfl (by simp [TK.agg]) rfl (by simp; omega)).cast (by exact ldd (by omega) (by simp))) ?_
    refine runq 400 hty hnt ?_; refine st_ ?_
    refine q_callf (by rw [hnt]; rfl) (by rw [hP]; kernel_rfl) rfl (hP ▸ number_ok x _ (de A i) G ⟨h63, ad, cap, rfl, hsrc⟩) ?_
    refine runq 400 hty hnt ?_; refine st_ ?_
    refine q_end ?_; refine rn_ ?_; intros
    refine rn_ ?_; intros
    refine x_split rfl rfl rfl (fun h6 => ?_) (fun h6 => ?_) <;> (refine st_ ?_; (refine ru_ ?_; intros))
    · refine x_retW rfl hQ hmb hmh hG0 hmub rfl rfl (by rw [hty]; simp only [so, sq, zy, zz, tyE, SO', SQ', opQ, opStore, opAlloc, ev, putS, dOk, cv, SV.cs, SV.one, SV.bool?, eqB, Value.oneCell', ldOwn, binInt, binConst, binBool, binStr, isC, TK.agg, rv, rv1, ldV, resOne, resV, Nat.reduceAdd, Nat.reduceMul, Nat.reduceSub, Nat.reduceLT, Nat.reduceLeDiff, Nat.reduceEqDiff, Nat.reduceBEq, reduceIte, reduceCtorEq, eq_self]; try rfl) rfl rfl (by simp only [enumO]; exact (by repeat (first | exact plain_nil | refine plain_cons (fun _ h => h) ?_))) ?_; simp only [SV.den, resV, dens]
      exact ret A hl (if_pos (.inr (.inr (.inr (by simpa using h6)))))
    have hnb : nodeStep n i x A = kids n x.op i 0 x.l A := if_neg (by
      rintro (h | h | h | h)
      · exact hb1 h
      · exact hb2 h
      · rw [hben] at h; cases h
      · simp at h6; rw [h6] at h; cases h)
    refine go_keep [0, 1, 4, 5, 77, 78, 79] [0, 1, 2] ?_
    refine st_ ?_
    have hdk := de_ok hA (show i < A.length by omega)
    refine x_loop rfl (fun q s => ∃ (k : Nat) (B : Pl), k ≤ x.l.length ∧ q = x.l.length - k ∧ B.length = n ∧ de B i = de A i ∧ kids n x.op i 0 x.l A = kids n x.op i k (x.l.drop k) B ∧
      s = ⟨[(0, .v (.pointer (some ⟨bv, 0, none⟩))), (1, .v (.int .i64 i)), (4, .b false), (5, .p 2 b5 0), (77, .v (.slice ad x.l.length cap)), (78, .v (.int .i64 x.l.length)), (79, .v (.int .i64 k))],
        [(0, b1, .row (.slice (some ⟨b1, 0, none⟩) n c1) 3 1 n (B.map fp)), (1, b2, .row (.slice (some ⟨b2, 0, none⟩) n c2) 3 1 n (B.map fd)),
         (2, b5, .c 62 [.v (.int .i64 x.op), .v (.int .i64 x.n), .v (.slice ad x.l.length cap)])], G, []⟩) ⟨0, A, by omega, rfl, hl, rfl, by simp, by simp⟩ ?_
    rintro q s ⟨k, B, hk, hq, hB, hdB, hkid, rfl⟩ ih
    refine rn_ ?_; intros
    refine x_if rfl rfl rfl rfl (fun hjl => ?_) (fun hjl => ?_)
    · have hlt : k < x.l.length := by simp at hjl; omega
      rcases hsrc with h0 | ⟨bl, offl, csl, rfl, hal, hrl⟩
      · simp [h0] at hlt
      obtain ⟨c0, hat, rfl, hc64⟩ := Rp.at_get hal hrl (i := k) hlt
      have hat' : At G bl (offl + k) [.int .i64 x.l[k]] := by simpa [rI] using hat
      rw [List.drop_eq_getElem_cons hlt] at hkid
      simp only [kids] at hkid
      generalize hce : x.l[k] = c at *
      refine rn_ ?_; intros
      refine go_q (by rw [hnt]; rfl) (quiet_index (by rw [hty]; rfl) (by rw [hty]; rfl) rfl rfl rfl (by omega) (by omega)) ?_
      refine rn_ ?_; intros
      refine go_q (by rw [hnt]; rfl) (quiet_load (vs := [.int .i64 c]) (by rw [hty]; rfl) rfl (by simp [TK.agg]) (by simpa using hat') rfl) ?_
      refine rn_ ?_; intros
      have kn : (c ≤ i ∨ (n : Int) ≤ c ∨ 0 ≤ pa B c.toNat) → nodeStep n i x A = none := fun h => by rw [hnb, hkid, if_pos h]
      refine go_gsplit rfl rfl (fun hc1 => ?_) (fun hc1 => ?_) <;> (refine st_ ?_; (refine rn_ ?_; intros))
      · refine x_retW rfl hQ hmb hmh hG0 hmub rfl rfl (by rw [hty]; simp only [so, sq, zy, zz, tyE, SO', SQ', opQ, opStore, opAlloc, ev, putS, dOk, cv, SV.cs, SV.one, SV.bool?, eqB, Value.oneCell', ldOwn, binInt, binConst, binBool, binStr, isC, TK.agg, rv, rv1, ldV, resOne, resV, Nat.reduceAdd, Nat.reduceMul, Nat.reduceSub, Nat.reduceLT, Nat.reduceLeDiff, Nat.reduceEqDiff, Nat.reduceBEq, reduceIte, reduceCtorEq, eq_self]; try rfl) rfl rfl (by simp only [enumO]; exact (by repeat (first | exact plain_nil | refine plain_cons (fun _ h => h) ?_))) ?_; simp only [SV.den, resV, dens]
        exact ret B hB (kn (.inl (by simpa using hc1)))
      have hc1' : (i : Int) < c := by simp at hc1; omega
      refine go_q (by rw [hnt]; rfl) (quiet_load (by rw [hty]; rfl) rfl (by simp [TK.agg]) hv0 rfl) ?_; refine rn_ ?_; intros
      refine go_gsplit rfl rfl (fun hc2 => ?_) (fun hc2 => ?_) <;> (refine st_ ?_; (refine rn_ ?_; intros))
      · refine x_retW rfl hQ hmb hmh hG0 hmub rfl rfl (by rw [hty]; simp only [so, sq, zy, zz, tyE, SO', SQ', opQ, opStore, opAlloc, ev, putS, dOk, cv, SV.cs, SV.one, SV.bool?, eqB, Value.oneCell', ldOwn, binInt, binConst, binBool, binStr, isC, TK.agg, rv, rv1, ldV, resOne, resV, Nat.reduceAdd, Nat.reduceMul, Nat.reduceSub, Nat.reduceLT, Nat.reduceLeDiff, Nat.reduceEqDiff, Nat.reduceBEq, reduceIte, reduceCtorEq, eq_self]; try rfl) rfl rfl (by simp only [enumO]; exact (by repeat (first | exact plain_nil | refine plain_cons (fun _ h => h) ?_))) ?_; simp only [SV.den, resV, dens]
        exact ret B hB (kn (.inr (.inl (by simpa using hc2))))
      have hc2' : c < (n : Int) := by simp at hc2; omega
      obtain ⟨c, rfl⟩ : ∃ c' : Nat, c = c' := ⟨c.toNat, by omega⟩
      simp only [Int.toNat_natCast] at kn hkid
      refine go_q (by rw [hnt]; rfl) (quiet_load (by rw [hty]; rfl) rfl (by simp [TK.agg]) hv1 rfl) ?_; refine rn_ ?_; intros; refine go_q (by rw [hnt]; rfl) (quiet_index (by rw [hty]; rfl) (by rw [hty]; rfl) rfl rfl rfl (by omega) (by omega)) ?_; refine rn_ ?_; intros; refine go_q (v := .int .i64 (pa B c)) (by rw [hnt]; rfl) ((quiet_loadR (k := 0) (by rw [hty]; rfl) rfl (by simp [TK.agg]) rfl (by simp; omega)).cast (by exact ldp (by omega) (by simp))) ?_; refine rn_ ?_; intros
      refine x_split rfl rfl rfl (fun hc3 => ?_) (fun hc3 => ?_) <;> (refine st_ ?_; (refine ru_ ?_; intros))
      · refine x_retW rfl hQ hmb hmh hG0 hmub rfl rfl (by rw [hty]; simp only [so, sq, zy, zz, tyE, SO', SQ', opQ, opStore, opAlloc, ev, putS, dOk, cv, SV.cs, SV.one, SV.bool?, eqB, Value.oneCell', ldOwn, binInt, binConst, binBool, binStr, isC, TK.agg, rv, rv1, ldV, resOne, resV, Nat.reduceAdd, Nat.reduceMul, Nat.reduceSub, Nat.reduceLT, Nat.reduceLeDiff, Nat.reduceEqDiff, Nat.reduceBEq, reduceIte, reduceCtorEq, eq_self]; try rfl) rfl rfl (by simp only [enumO]; exact (by repeat (first | exact plain_nil | refine plain_cons (fun _ h => h) ?_))) ?_; simp only [SV.den, resV, dens]
        exact ret B hB (kn (.inr (.inr (by simpa using hc3))))
      have hc3' : ¬ 0 ≤ pa B c := by simp at hc3; omega
      rw [if_neg (by omega)] at hkid
      refine go_q (by rw [hnt]; rfl) (quiet_load (by rw [hty]; rfl) rfl (by simp [TK.agg]) hv1 rfl) ?_; refine rn_ ?_; intros
      refine go_q (by rw [hnt]; rfl) (quiet_index (by rw [hty]; rfl) (by rw [hty]; rfl) rfl rfl rfl (by omega) (by omega)) ?_
      refine rn_ ?_; intros
      refine go_storeR 0 rfl (by rw [hty]; rfl) rfl rfl rfl rfl rfl rfl (lay1 (i := c) ((i : Int), de A i + more x.op k) (by omega) (by simp) rfl) ?_
      refine rn_ ?_; intros
      refine x_held [] rfl (by rw [hP]; kernel_rfl) rfl rfl rfl ?_
      refine st_ ?_
      refine h_take 0 rfl (by kernel_rfl) (by kernel_rfl) (by kernel_rfl) hQp (by rw [hnt]; rfl) (allIn (by repeat (first | exact trivial | refine ⟨rfl, ?_⟩))) (by first | exact Le.refl _ | assumption) (quiet_op (by rw [hty]; first | rfl | (refine st_ ?_; rfl))) ?_; refine st_ ?_
      refine h_take 1 rfl (by kernel_rfl) (by kernel_rfl) (by kernel_rfl) hQp (by rw [hnt]; rfl) (allIn (by repeat (first | exact trivial | refine ⟨rfl, ?_⟩))) (by first | exact Le.refl _ | assumption) (quiet_op (by rw [hty]; first | rfl | (refine st_ ?_; rfl))) ?_; refine st_ ?_
      refine h_take 2 rfl (by kernel_rfl) (by kernel_rfl) (by kernel_rfl) hQp (by rw [hnt]; rfl) (allIn (by repeat (first | exact trivial | refine ⟨rfl, ?_⟩))) (by first | exact Le.refl _ | assumption) (quiet_op (by rw [hty]; first | rfl | (refine st_ ?_; rfl))) ?_; refine st_ ?_
      refine h_take 3 rfl (by kernel_rfl) (by kernel_rfl) (by kernel_rfl) hQp (by rw [hnt]; rfl) (allIn (by repeat (first | exact trivial | refine ⟨rfl, ?_⟩))) (by first | exact Le.refl _ | assumption) (x := .v (.slice (some ⟨b2, 0, none⟩) n c2)) ((quiet_load (by rw [hty]; rfl) rfl (by simp [TK.agg]) hv2 rfl).cast rfl) ?_
      refine st_ ?_
      refine h_take 4 rfl (by kernel_rfl) (by kernel_rfl) (by kernel_rfl) hQp (by rw [hnt]; rfl) (allIn (by repeat (first | exact trivial | refine ⟨rfl, ?_⟩))) (by first | exact Le.refl _ | assumption) (quiet_op (by rw [hty]; first | rfl | (refine st_ ?_; rfl))) ?_; refine st_ ?_
      refine h_take 5 rfl (by kernel_rfl) (by kernel_rfl) (by kernel_rfl) hQp (by rw [hnt]; rfl) (allIn (by repeat (first | exact trivial | refine ⟨rfl, ?_⟩))) (by first | exact Le.refl _ | assumption) (quiet_op (by rw [hty]; first | rfl | (refine st_ ?_; rfl))) ?_; refine st_ ?_
      refine h_take 6 rfl (by kernel_rfl) (by kernel_rfl) (by kernel_rfl) hQp (by rw [hnt]; rfl) (allIn (by repeat (first | exact trivial | refine ⟨rfl, ?_⟩))) (by first | exact Le.refl _ | assumption) (quiet_op (by rw [hty]; first | rfl | (refine st_ ?_; rfl))) ?_; refine st_ ?_
      refine h_take 7 rfl (by kernel_rfl) (by kernel_rfl) (by kernel_rfl) hQp (by rw [hnt]; rfl) (allIn (by repeat (first | exact trivial | refine ⟨rfl, ?_⟩))) (by first | exact Le.refl _ | assumption) (quiet_op (by rw [hty]; first | rfl | (refine st_ ?_; rfl))) ?_; refine st_ ?_
      refine h_take 8 rfl (by kernel_rfl) (by kernel_rfl) (by kernel_rfl) hQp (by rw [hnt]; rfl) (allIn (by repeat (first | exact trivial | refine ⟨rfl, ?_⟩))) (by first | exact Le.refl _ | assumption) (x := .v (.slice (some ⟨b2, 0, none⟩) n c2)) ((quiet_load (by rw [hty]; rfl) rfl (by simp [TK.agg]) hv2 rfl).cast rfl) ?_
      refine st_ ?_
      refine h_take 9 rfl (by kernel_rfl) (by kernel_rfl) (by kernel_rfl) hQp (by rw [hnt]; rfl) (allIn (by repeat (first | exact trivial | refine ⟨rfl, ?_⟩))) (by first | exact Le.refl _ | assumption) (quiet_op (by rw [hty]; first | rfl | (refine st_ ?_; rfl))) ?_; refine st_ ?_
      refine h_take 10 rfl (by kernel_rfl) (by kernel_rfl) (by kernel_rfl) hQp (by rw [hnt]; rfl) (allIn (by repeat (first | exact trivial | refine ⟨rfl, ?_⟩))) (by first | exact Le.refl _ | assumption) (x := .v (.pointer (some ⟨b2, i, none⟩))) ((quiet_index (by rw [hty]; rfl) (by rw [hty]; rfl) rfl rfl rfl (by omega) (by omega)).cast (by simp [SV.den])) ?_
      refine st_ ?_
      refine h_one 11 rfl (by kernel_rfl) ?_
      refine go_q (v := .int .i64 (de A i)) (by rw [hnt]; rfl) ((quiet_loadR (k := 1) (by rw [hty]; rfl) rfl (by simp [TK.agg]) rfl (by simp; omega)).cast (by rw [← hdB]; exact ldd (by omega) (by simp))) ?_
      refine rn_ ?_; intros
      refine h_hs (allIn (by repeat (first | exact trivial | refine ⟨rfl, ?_⟩))) (by first | exact Le.refl _ | assumption) ?_
      refine h_take 12 rfl (by kernel_rfl) (by kernel_rfl) (by kernel_rfl) hQp (by rw [hnt]; rfl) (allIn (by repeat (first | exact trivial | refine ⟨rfl, ?_⟩))) (by first | exact Le.refl _ | assumption) (x := .v (.pointer (some ⟨b2, c, none⟩))) ((quiet_index (by rw [hty]; rfl) (by rw [hty]; rfl) rfl rfl rfl (by omega) (by omega)).cast (by simp [SV.den])) ?_
      refine st_ ?_
      refine h_one 13 rfl (by kernel_rfl) ?_
      refine go_storeR 1 rfl (by rw [hty]; rfl) rfl rfl rfl rfl rfl rfl (lay1 (i := c) ((i : Int), de A i) (by omega) (by simp) rfl) ?_
      refine rn_ ?_; intros
      refine h_hs (allIn (by repeat (first | exact trivial | refine ⟨rfl, ?_⟩))) (by first | exact Le.refl _ | assumption) ?_
      refine h_end (by kernel_rfl) ?_
      refine rn_ ?_; intros
      have fin : ∀ D, D = de A i + more x.op k → SGo C _ _ := fun D hD => ih (x.l.length - (k + 1)) ⟨[(0, .v (.pointer (some ⟨bv, 0, none⟩))), (1, .v (.int .i64 i)), (4, .b false), (5, .p 2 b5 0), (77, .v (.slice (some ⟨bl, offl, none⟩) x.l.length cap)), (78, .v (.int .i64 x.l.length)), (79, .v (.int .i64 ((k : Int) + 1)))],
        [(0, b1, .row (.slice (some ⟨b1, 0, none⟩) n c1) 3 1 n ((B.set c ((i : Int), de A i + more x.op k)).map fp)), (1, b2, .row (.slice (some ⟨b2, 0, none⟩) n c2) 3 1 n ((B.set c ((i : Int), D)).map fd)),
         (2, b5, .c 62 [.v (.int .i64 x.op), .v (.int .i64 x.n), .v (.slice (some ⟨bl, offl, none⟩) x.l.length cap)])], G, []⟩ (by omega)
        ⟨k + 1, B.set c ((i : Int), de A i + more x.op k), by omega, rfl, by simp [hB], by rw [de_set (by omega), if_neg (by omega)]; exact hdB, by rw [hkid, hdB], by subst hD; simp⟩
      simp only [isI64] at hdk
      have hset : ∀ D E : Int, (B.set c ((i : Int), D)).set c ((i : Int), E) = B.set c ((i : Int), E) := fun D E => by rw [List.set_set]
      refine go_gsplit rfl rfl (fun hm1 => ?_) (fun hm1 => ?_) <;> (refine st_ ?_; (refine rn_ ?_; intros))
      · have hm1' : x.op = 4 := by simpa using hm1
        refine x_split rfl rfl rfl (fun hm2 => ?_) (fun hm2 => ?_) <;> (refine st_ ?_; (refine ru_ ?_; intros))
        · have hm2' : k = 1 := by simp at hm2; omega
          refine go_q (by rw [hnt]; rfl) (quiet_load (by rw [hty]; rfl) rfl (by simp [TK.agg]) hv2 rfl) ?_; refine rn_ ?_; intros
          refine go_q (by rw [hnt]; rfl) (quiet_index (by rw [hty]; rfl) (by rw [hty]; rfl) rfl rfl rfl (by omega) (by omega)) ?_
          refine rn_ ?_; intros
          refine go_q (v := .int .i64 (de A i)) (by rw [hnt]; rfl) ((quiet_loadR (k := 1) (by rw [hty]; rfl) rfl (by simp [TK.agg]) rfl (by simp; omega)).cast (by exact (ldd (A := B.set c ((i : Int), de A i)) (i := c) (by simp; omega) (by simp)).trans (by rw [de_set (by omega), if_pos rfl]))) ?_
          refine rn_ ?_; intros
          rw [wr (n := de A i + 1) (by omega) (by omega)]
          refine go_q (by rw [hnt]; rfl) (quiet_index (by rw [hty]; rfl) (by rw [hty]; rfl) rfl rfl rfl (by omega) (by omega)) ?_
          refine rn_ ?_; intros
          refine go_storeR 1 rfl (by rw [hty]; rfl) rfl rfl rfl rfl rfl rfl (lay1 (i := c) ((i : Int), de A i + 1) (by simp; omega) (by simp) rfl) ?_
          refine rn_ ?_; intros
          rw [wr (n := (k : Int) + 1) (by omega) (by omega), hset]
          refine go_keep [0, 1, 4, 5, 77, 78, 79] [0, 1, 2] ?_
          refine st_ ?_
          exact fin _ (by rw [more, if_pos ⟨hm1', hm2'⟩])
        · have hm2' : ¬ k = 1 := by simp at hm2; omega
          rw [wr (n := (k : Int) + 1) (by omega) (by omega)]
          refine go_keep [0, 1, 4, 5, 77, 78, 79] [0, 1, 2] ?_
          refine st_ ?_
          exact fin _ (by rw [more, if_neg (by omega)]; simp)
      · have hm1' : ¬ x.op = 4 := by simpa using hm1
        rw [wr (n := (k : Int) + 1) (by omega) (by omega)]
        refine go_keep [0, 1, 4, 5, 77, 78, 79] [0, 1, 2] ?_
        refine st_ ?_
        exact fin _ (by rw [more, if_neg (by omega)]; simp)
    · have hge : k = x.l.length := by simp at hjl; omega
      subst hge
      clear ih
      simp only [List.drop_length, kids] at hkid
      refine rn_ ?_; intros
      refine x_retW rfl hQ hmb hmh hG0 hmub rfl rfl (by rw [hty]; simp only [so, sq, zy, zz, tyE, SO', SQ', opQ, opStore, opAlloc, ev, putS, dOk, cv, SV.cs, SV.one, SV.bool?, eqB, Value.oneCell', ldOwn, binInt, binConst, binBool, binStr, isC, TK.agg, rv, rv1, ldV, resOne, resV, Nat.reduceAdd, Nat.reduceMul, Nat.reduceSub, Nat.reduceLT, Nat.reduceLeDiff, Nat.reduceEqDiff, Nat.reduceBEq, reduceIte, reduceCtorEq, eq_self]; try rfl) rfl rfl (by simp only [enumO]; exact (by repeat (first | exact plain_nil | refine plain_cons (fun _ h => h) ?_))) ?_; simp only [SV.den, resV, dens]
      refine ⟨by rw [hnb, hkid]; rfl, B, hB, rfl, fun B'' h => ?_⟩
      rw [hnb, hkid] at h
      exact Option.some.inj h
end Go.Proofs.Ytpopbkiphdcilaa
namespace Go.Proofs.Ytpopbkiphdcilaa
set_option linter.unusedSimpArgs false
set_option linter.unusedVariables false
open Go.Sx
set_option maxHeartbeats 4000000
theorem at_cells {G : Hp} {b : Nat} {vs : List Value} {e : TypeId} (h : G b = some (.cells vs.toArray e)) : At G b 0 vs := ⟨_, _, _, h, by simp, fun i hi => by simp⟩
theorem rep_one (v : Value) : ∀ n, rep [v] n = List.replicate n v
  | 0 => rfl
  | n + 1 => by simp only [rep, List.replicate_succ, rep_one v n]; rfl
def mid (n j : Nat) : Pl := List.replicate j (-1, 0) ++ List.replicate (n - j) (0, 0)
theorem mid_len {n j : Nat} (h : j ≤ n) : (mid n j).length = n := by simp [mid]; omega
theorem mid_set {n j : Nat} (h : j < n) : (mid n j).set j (-1, 0) = mid n (j + 1) := by
  simp only [mid]
  rw [List.set_append_right (h := by simp)]
  rw [show n - j = (n - (j + 1)) + 1 by omega, List.replicate_succ, List.replicate_succ']
  simp
def lookR (f : Fu) (ns r : Value) (G' : Hp) : Prop :=
  match places f with
  | .inl i => r = .tuple #[.pointer none, .int .i64 i, .bool false]
  | .inr A => ∃ bv s1 s2, r = .tuple #[.pointer (some ⟨bv, 0, none⟩), .int .i64 0, .bool true] ∧ At G' bv 0 [.int .i64 f.params, ns, s1, s2] ∧ rI.S G' (A.map (·.1)) s1 ∧ rI.S G' (A.map (·.2)) s2
theorem look_ok (f : Fu) (ns : Value) (G : Hp) (hp : isI64 f.params) (hns : rN.S G f.nodes ns) : Pure Try.prog 60 [.agg #[.int .i64 f.params, ns]] G (fun r G' => lookR f ns r G') := by
  have hns0 := hns
  obtain ⟨ad, cap, rfl⟩ := Rp.S_slice hns
  have h63 := Rp.S_len hns
  simp only [isI64] at hp
  refine enterX ty tyok Try.func60 rfl Try.ntmps60 [.a [.v (.int .i64 f.params), .v (.slice ad f.nodes.length cap)]] (by simp) ?_
  intro C hP hQ hnt hty hmb hmh hro; have hQp := qp_body hQ; refine st_ ?_
  refine rn_ ?_; intros
  rename_i b1
  have ret : out f → lookR f (.slice ad f.nodes.length cap) (.tuple #[.pointer none, .int .i64 0, .bool false]) G := fun h => by
    simp only [lookR, places, if_pos h]; rfl
  refine go_gsplit rfl rfl (fun h1 => ?_) (fun h1 => ?_) <;> (refine st_ ?_; (refine rn_ ?_; intros))
  · refine x_retc rfl hQ hmb rfl (by rw [hty]; simp only [so, sq, zy, zz, tyE, SO', SQ', opQ, opStore, opAlloc, ev, putS, dOk, cv, SV.cs, SV.one, SV.bool?, eqB, Value.oneCell', ldOwn, binInt, binConst, binBool, binStr, isC, TK.agg, rv, rv1, ldV, resOne, resV, Nat.reduceAdd, Nat.reduceMul, Nat.reduceSub, Nat.reduceLT, Nat.reduceLeDiff, Nat.reduceEqDiff, Nat.reduceBEq, reduceIte, reduceCtorEq, eq_self]; try rfl) rfl ?_; simp only [SV.den, resV, dens]
    exact ret (.inl (by simpa using h1))
  refine go_gsplit rfl rfl (fun h2 => ?_) (fun h2 => ?_) <;> (refine st_ ?_; (refine rn_ ?_; intros))
  · refine x_retc rfl hQ hmb rfl (by rw [hty]; simp only [so, sq, zy, zz, tyE, SO', SQ', opQ, opStore, opAlloc, ev, putS, dOk, cv, SV.cs, SV.one, SV.bool?, eqB, Value.oneCell', ldOwn, binInt, binConst, binBool, binStr, isC, TK.agg, rv, rv1, ldV, resOne, resV, Nat.reduceAdd, Nat.reduceMul, Nat.reduceSub, Nat.reduceLT, Nat.reduceLeDiff, Nat.reduceEqDiff, Nat.reduceBEq, reduceIte, reduceCtorEq, eq_self]; try rfl) rfl ?_; simp only [SV.den, resV, dens]
    exact ret (.inr (.inl (by simpa using h2)))
  refine go_gsplit rfl rfl (fun h3 => ?_) (fun h3 => ?_) <;> (refine st_ ?_; (refine rn_ ?_; intros))
  · refine x_retc rfl hQ hmb rfl (by rw [hty]; simp only [so, sq, zy, zz, tyE, SO', SQ', opQ, opStore, opAlloc, ev, putS, dOk, cv, SV.cs, SV.one, SV.bool?, eqB, Value.oneCell', ldOwn, binInt, binConst, binBool, binStr, isC, TK.agg, rv, rv1, ldV, resOne, resV, Nat.reduceAdd, Nat.reduceMul, Nat.reduceSub, Nat.reduceLT, Nat.reduceLeDiff, Nat.reduceEqDiff, Nat.reduceBEq, reduceIte, reduceCtorEq, eq_self]; try rfl) rfl ?_; simp only [SV.den, resV, dens]
    exact ret (.inr (.inr (.inl (by simp at h3; omega))))
  refine x_split rfl rfl rfl (fun h4 => ?_) (fun h4 => ?_) <;> (refine st_ ?_; (refine ru_ ?_; intros))
  · refine x_retc rfl hQ hmb rfl (by rw [hty]; simp only [so, sq, zy, zz, tyE, SO', SQ', opQ, opStore, opAlloc, ev, putS, dOk, cv, SV.cs, SV.one, SV.bool?, eqB, Value.oneCell', ldOwn, binInt, binConst, binBool, binStr, isC, TK.agg, rv, rv1, ldV, resOne, resV, Nat.reduceAdd, Nat.reduceMul, Nat.reduceSub, Nat.reduceLT, Nat.reduceLeDiff, Nat.reduceEqDiff, Nat.reduceBEq, reduceIte, reduceCtorEq, eq_self]; try rfl) rfl ?_; simp only [SV.den, resV, dens]
    exact ret (.inr (.inr (.inr (by simp at h4; omega))))
  clear ret
  have hout : ¬ out f := by
    simp at h1 h2 h3 h4
    unfold out; omega
  have hn1 : 1 ≤ f.nodes.length := by unfold out at hout; omega
  have hn2 : f.nodes.length ≤ 200 := by unfold out at hout; omega
  refine go_keep [1, 5] [0] ?_
  refine st_ ?_
  refine cut_tail 1 (fun s' => ∃ g1 g2 b6, s' = ⟨[(1, .p 0 b1 0), (5, .v (.int .i64 f.nodes.length)), (6, .p 12 b6 0)],
    [(0, b1, .c 59 [.v (.int .i64 f.params), .v (.slice ad f.nodes.length cap)]), (10, g1, .row (.slice (some ⟨g1, 0, none⟩) f.nodes.length f.nodes.length) 3 1 f.nodes.length ((mid f.nodes.length 0).map fp)),
     (11, g2, .row (.slice (some ⟨g2, 0, none⟩) f.nodes.length f.nodes.length) 3 1 f.nodes.length ((mid f.nodes.length 0).map fd)),
     (12, b6, .c 124 [.v (.int .i64 f.params), .v (.slice ad f.nodes.length cap), .v (.slice (some ⟨g1, 0, none⟩) f.nodes.length f.nodes.length), .v (.slice (some ⟨g2, 0, none⟩) f.nodes.length f.nodes.length)])], G, []⟩) ?_ ?_
  rotate_left
  · intro key
    simp only [List.drop_succ_cons, List.drop_zero] at key
    have hr1 : rep [Value.int .i64 0] f.nodes.length = (mid f.nodes.length 0).map fp := by rw [rep_one]; simp [mid, fp]
    have hr2 : rep [Value.int .i64 0] f.nodes.length = (mid f.nodes.length 0).map fd := by rw [rep_one]; simp [mid, fd]
    refine x_held [(0, b1, .c 59 [.v (.int .i64 f.params), .v (.slice ad f.nodes.length cap)])] rfl (by rw [hP]; kernel_rfl) rfl rfl rfl ?_; refine st_ ?_
    refine h_take 0 rfl (by kernel_rfl) (by kernel_rfl) (by kernel_rfl) hQp (by rw [hnt]; rfl) (allIn (by repeat (first | exact trivial | refine ⟨rfl, ?_⟩))) (by first | exact Le.refl _ | assumption) (quiet_op (by rw [hty]; first | rfl | (refine st_ ?_; rfl))) ?_; refine st_ ?_
    refine h_take 1 rfl (by kernel_rfl) (by kernel_rfl) (by kernel_rfl) hQp (by rw [hnt]; rfl) (allIn (by repeat (first | exact trivial | refine ⟨rfl, ?_⟩))) (by first | exact Le.refl _ | assumption) (quiet_op (by rw [hty]; first | rfl | (refine st_ ?_; rfl))) ?_; refine st_ ?_
    refine h_take 3 rfl (by kernel_rfl) (by kernel_rfl) (by kernel_rfl) hQp (by rw [hnt]; rfl) (allIn (by repeat (first | exact trivial | refine ⟨rfl, ?_⟩))) (by first | exact Le.refl _ | assumption) (quiet_op (by rw [hty]; first | rfl | (refine st_ ?_; rfl))) ?_; refine st_ ?_
    refine h_two 2 4 rfl rfl (by kernel_rfl) ?_ ?_
    · refine go_make 10 (by rw [hnt]; rfl) (by rw [hty]; rfl) (by rw [hty]; rfl) rfl rfl (Nat.le_refl _) rfl (by omega) (by omega) (by simp only []; omega) (by simp) ?_
      intro g1
      refine rn_ ?_; intros
      refine h_hs (allIn (by repeat (first | exact trivial | refine ⟨rfl, ?_⟩))) (by first | exact Le.refl _ | assumption) ?_
      refine h_one 4 rfl (by kernel_rfl) ?_
      refine go_make 11 (by rw [hnt]; rfl) (by rw [hty]; rfl) (by rw [hty]; rfl) rfl rfl (Nat.le_refl _) rfl (by omega) (by omega) (by simp only []; omega) (by simp) ?_
      intro g2
      refine rn_ ?_; intros
      refine h_hs (allIn (by repeat (first | exact trivial | refine ⟨rfl, ?_⟩))) (by first | exact Le.refl _ | assumption) ?_
      refine h_take 5 rfl (by kernel_rfl) (by kernel_rfl) (by kernel_rfl) hQp (by rw [hnt]; rfl) (allIn (by repeat (first | exact trivial | refine ⟨rfl, ?_⟩))) (by first | exact Le.refl _ | assumption) (quiet_op (by rw [hty]; first | rfl | (refine st_ ?_; rfl))) ?_; refine st_ ?_
      refine h_one 6 rfl (by kernel_rfl) ?_
      refine rn_ ?_; intros
      rename_i b6
      refine h_hs (allIn (by repeat (first | exact trivial | refine ⟨rfl, ?_⟩))) (by first | exact Le.refl _ | assumption) ?_
      refine h_take 7 rfl (by kernel_rfl) (by kernel_rfl) (by kernel_rfl) hQp (by rw [hnt]; rfl) (allIn (by repeat (first | exact trivial | refine ⟨rfl, ?_⟩))) (by first | exact Le.refl _ | assumption) (quiet_op (by rw [hty]; first | rfl | (refine st_ ?_; rfl))) ?_; refine st_ ?_
      refine h_end (by kernel_rfl) ?_
      refine go_keep [1, 5, 6] [0, 10, 11, 12] ?_
      refine st_ ?_
      rw [← hr1, ← hr2] at key
      exact key _ ⟨g1, g2, b6, rfl⟩
    · refine go_make 11 (by rw [hnt]; rfl) (by rw [hty]; rfl) (by rw [hty]; rfl) rfl rfl (Nat.le_refl _) rfl (by omega) (by omega) (by simp only []; omega) (by simp) ?_
      intro g2
      refine rn_ ?_; intros
      refine h_hs (allIn (by repeat (first | exact trivial | refine ⟨rfl, ?_⟩))) (by first | exact Le.refl _ | assumption) ?_
      refine h_one 2 rfl (by kernel_rfl) ?_
      refine go_make 10 (by rw [hnt]; rfl) (by rw [hty]; rfl) (by rw [hty]; rfl) rfl rfl (Nat.le_refl _) rfl (by omega) (by omega) (by simp only []; omega) (by simp) ?_
      intro g1
      refine rn_ ?_; intros
      refine h_hs (allIn (by repeat (first | exact trivial | refine ⟨rfl, ?_⟩))) (by first | exact Le.refl _ | assumption) ?_
      refine h_take 5 rfl (by kernel_rfl) (by kernel_rfl) (by kernel_rfl) hQp (by rw [hnt]; rfl) (allIn (by repeat (first | exact trivial | refine ⟨rfl, ?_⟩))) (by first | exact Le.refl _ | assumption) (quiet_op (by rw [hty]; first | rfl | (refine st_ ?_; rfl))) ?_; refine st_ ?_
      refine h_one 6 rfl (by kernel_rfl) ?_
      refine rn_ ?_; intros
      rename_i b6
      refine h_hs (allIn (by repeat (first | exact trivial | refine ⟨rfl, ?_⟩))) (by first | exact Le.refl _ | assumption) ?_
      refine h_take 7 rfl (by kernel_rfl) (by kernel_rfl) (by kernel_rfl) hQp (by rw [hnt]; rfl) (allIn (by repeat (first | exact trivial | refine ⟨rfl, ?_⟩))) (by first | exact Le.refl _ | assumption) (quiet_op (by rw [hty]; first | rfl | (refine st_ ?_; rfl))) ?_; refine st_ ?_
      refine h_end (by kernel_rfl) ?_
      refine go_keep [1, 5, 6] [0, 10, 11, 12] ?_
      refine st_ ?_
      rw [← hr1, ← hr2] at key
      exact key _ ⟨g1, g2, b6, rfl⟩
  rintro s' ⟨g1, g2, b6, rfl⟩
  simp only [List.drop_succ_cons, List.drop_zero]
  refine go_pub 12 rfl (by omega) ?_
  rintro G1 (hle1 : Le G G1) hG1
  have hv : At G1 b6 0 [.int .i64 f.params, .slice ad f.nodes.length cap, .slice (some ⟨g1, 0, none⟩) f.nodes.length f.nodes.length, .slice (some ⟨g2, 0, none⟩) f.nodes.length f.nodes.length] := at_cells hG1
  have hv1 : At G1 b6 2 [.slice (some ⟨g1, 0, none⟩) f.nodes.length f.nodes.length] := by simpa using hv.sub 2 1 (by simp)
  have hv2 : At G1 b6 3 [.slice (some ⟨g2, 0, none⟩) f.nodes.length f.nodes.length] := by simpa using hv.sub 3 1 (by simp)
  refine go_slot 6 (.v (.pointer (some ⟨b6, 0, none⟩))) rfl rfl ?_
  refine go_keep [1, 5, 6] [0, 10, 11] ?_
  refine st_ ?_
  refine rn_ ?_; intros
  refine go_q (by rw [hnt]; rfl) (quiet_load (by rw [hty]; rfl) rfl (by simp [TK.agg]) hv1 rfl) ?_; refine rn_ ?_; intros
  refine go_keep [1, 5, 6, 39, 40] [0, 10, 11] ?_
  refine st_ ?_
  refine x_loop rfl (fun q s => ∃ (j : Nat), j ≤ f.nodes.length ∧ q = f.nodes.length - j ∧
    s = ⟨[(1, .p 0 b1 0), (5, .v (.int .i64 f.nodes.length)), (6, .v (.pointer (some ⟨b6, 0, none⟩))), (39, .v (.int .i64 f.nodes.length)), (40, .v (.int .i64 j))],
      [(0, b1, .c 59 [.v (.int .i64 f.params), .v (.slice ad f.nodes.length cap)]), (10, g1, .row (.slice (some ⟨g1, 0, none⟩) f.nodes.length f.nodes.length) 3 1 f.nodes.length ((mid f.nodes.length j).map fp)),
       (11, g2, .row (.slice (some ⟨g2, 0, none⟩) f.nodes.length f.nodes.length) 3 1 f.nodes.length ((mid f.nodes.length 0).map fd))], G1, []⟩) ⟨0, by omega, rfl, rfl⟩ ?_
  rintro q s ⟨j, hj, hq, rfl⟩ ih
  refine rn_ ?_; intros
  refine x_if rfl rfl rfl rfl (fun hjl => ?_) (fun hjl => ?_)
  · have hlt : j < f.nodes.length := by simp at hjl; omega
    refine rn_ ?_; intros
    refine go_q (by rw [hnt]; rfl) (quiet_load (by rw [hty]; rfl) rfl (by simp [TK.agg]) hv1 rfl) ?_; refine rn_ ?_; intros
    refine go_q (by rw [hnt]; rfl) (quiet_index (by rw [hty]; rfl) (by rw [hty]; rfl) rfl rfl rfl (by omega) (by omega)) ?_
    refine rn_ ?_; intros
    refine go_storeR 10 rfl (by rw [hty]; rfl) rfl rfl rfl rfl rfl rfl (lay1 (i := j) ((-1 : Int), (0 : Int)) (by rw [mid_len hj]; omega) (by simp) rfl) ?_
    refine rn_ ?_; intros
    rw [wr (n := (j : Int) + 1) (by omega) (by omega), mid_set hlt]
    refine go_keep [1, 5, 6, 39, 40] [0, 10, 11] ?_
    refine st_ ?_
    exact ih (f.nodes.length - (j + 1)) _ (by omega) ⟨j + 1, by omega, rfl, by simp⟩
  have hge : j = f.nodes.length := by simp at hjl; omega
  subst hge
  clear ih
  have hm1 : mid f.nodes.length f.nodes.length = List.replicate f.nodes.length (-1, 0) := by simp [mid]
  have hm2 : (mid f.nodes.length 0).map fd = (List.replicate f.nodes.length ((-1 : Int), (0 : Int))).map fd := by simp [mid, fd]
  rw [hm1, hm2]
  refine rn_ ?_; intros
  refine x_held [(0, b1, .c 59 [.v (.int .i64 f.params), .v (.slice ad f.nodes.length cap)])] rfl (by rw [hP]; kernel_rfl) rfl rfl rfl ?_; refine st_ ?_
  refine h_take 0 rfl (by kernel_rfl) (by kernel_rfl) (by kernel_rfl) hQp (by rw [hnt]; rfl) (allIn (by repeat (first | exact trivial | refine ⟨rfl, ?_⟩))) (by first | exact Le.refl _ | assumption) (quiet_op (by rw [hty]; first | rfl | (refine st_ ?_; rfl))) ?_; refine st_ ?_
  refine h_take 1 rfl (by kernel_rfl) (by kernel_rfl) (by kernel_rfl) hQp (by rw [hnt]; rfl) (allIn (by repeat (first | exact trivial | refine ⟨rfl, ?_⟩))) (by first | exact Le.refl _ | assumption) (quiet_op (by rw [hty]; first | rfl | (refine st_ ?_; rfl))) ?_; refine st_ ?_
  refine h_take 2 rfl (by kernel_rfl) (by kernel_rfl) (by kernel_rfl) hQp (by rw [hnt]; rfl) (allIn (by repeat (first | exact trivial | refine ⟨rfl, ?_⟩))) (by first | exact Le.refl _ | assumption) (quiet_op (by rw [hty]; first | rfl | (refine st_ ?_; rfl))) ?_; refine st_ ?_
  refine h_take 3 rfl (by kernel_rfl) (by kernel_rfl) (by kernel_rfl) hQp (by rw [hnt]; rfl) (allIn (by repeat (first | exact trivial | refine ⟨rfl, ?_⟩))) (by first | exact Le.refl _ | assumption) (x := .v (.slice (some ⟨g2, 0, none⟩) f.nodes.length f.nodes.length)) ((quiet_load (by rw [hty]; rfl) rfl (by simp [TK.agg]) hv2 rfl).cast rfl) ?_
  refine st_ ?_
  refine h_take 4 rfl (by kernel_rfl) (by kernel_rfl) (by kernel_rfl) hQp (by rw [hnt]; rfl) (allIn (by repeat (first | exact trivial | refine ⟨rfl, ?_⟩))) (by first | exact Le.refl _ | assumption) (quiet_op (by rw [hty]; first | rfl | (refine st_ ?_; rfl))) ?_; refine st_ ?_
  refine h_take 5 rfl (by kernel_rfl) (by kernel_rfl) (by kernel_rfl) hQp (by rw [hnt]; rfl) (allIn (by repeat (first | exact trivial | refine ⟨rfl, ?_⟩))) (by first | exact Le.refl _ | assumption) (quiet_op (by rw [hty]; first | rfl | (refine st_ ?_; rfl))) ?_; refine st_ ?_
  refine h_take 6 rfl (by kernel_rfl) (by kernel_rfl) (by kernel_rfl) hQp (by rw [hnt]; rfl) (allIn (by repeat (first | exact trivial | refine ⟨rfl, ?_⟩))) (by first | exact Le.refl _ | assumption) (x := .v (.pointer (some ⟨g2, 0, none⟩))) ((quiet_index (by rw [hty]; rfl) (by rw [hty]; rfl) rfl rfl rfl (by omega) (by omega)).cast (by simp [SV.den])) ?_
  refine st_ ?_
  refine h_one 7 rfl (by kernel_rfl) ?_
  refine go_storeR 11 rfl (by rw [hty]; rfl) rfl rfl rfl rfl rfl rfl (lay1 (i := 0) ((-1 : Int), f.params) (by simp; omega) (by simp) rfl) ?_
  refine rn_ ?_; intros
  refine h_hs (allIn (by repeat (first | exact trivial | refine ⟨rfl, ?_⟩))) (by first | exact Le.refl _ | assumption) ?_
  refine h_end (by kernel_rfl) ?_
  refine rn_ ?_; intros
  have hm3 : (List.replicate f.nodes.length ((-1 : Int), (0 : Int))).map fp = (pl0 f).map fp := by
    simp only [pl0, List.map_set, fp, List.map_replicate]
    obtain ⟨m, hm⟩ : ∃ m, f.nodes.length = m + 1 := ⟨f.nodes.length - 1, by omega⟩
    rw [hm]; simp [List.replicate_succ]
  rw [hm3]
  refine go_keep [1, 5, 6, 59, 60] [0, 10, 11] ?_
  refine st_ ?_
  have hpl : places f = plGo f.nodes.length 0 f.nodes (pl0 f) := by rw [places, if_neg hout]
  refine x_loop rfl (fun q s => ∃ (j : Nat) (A : Pl) (G' : Hp), j ≤ f.nodes.length ∧ q = f.nodes.length - j ∧ A.length = f.nodes.length ∧ okA A ∧ Le G1 G' ∧ places f = plGo f.nodes.length j (f.nodes.drop j) A ∧
    s = ⟨[(1, .p 0 b1 0), (5, .v (.int .i64 f.nodes.length)), (6, .v (.pointer (some ⟨b6, 0, none⟩))), (59, .v (.int .i64 f.nodes.length)), (60, .v (.int .i64 j))],
      [(0, b1, .c 59 [.v (.int .i64 f.params), .v (.slice ad f.nodes.length cap)]), (10, g1, .row (.slice (some ⟨g1, 0, none⟩) f.nodes.length f.nodes.length) 3 1 f.nodes.length (A.map fp)),
       (11, g2, .row (.slice (some ⟨g2, 0, none⟩) f.nodes.length f.nodes.length) 3 1 f.nodes.length (A.map fd))], G', []⟩) ⟨0, pl0 f, G1, by omega, rfl, pl0_len f, pl0_ok hout, Le.refl _, by simpa using hpl, rfl⟩ ?_
  rintro q s ⟨j, A, G2, hj, hq, hA, hok, hle2, hpl2, rfl⟩ ih
  refine rn_ ?_; intros
  refine x_if rfl rfl rfl rfl (fun hjl => ?_) (fun hjl => ?_)
  · have hlt : j < f.nodes.length := by simp at hjl; omega
    rw [List.drop_eq_getElem_cons hlt] at hpl2
    simp only [plGo] at hpl2
    refine rn_ ?_; intros
    refine go_callW [10, 11] (ow := rows f.nodes.length g1 g2 f.nodes.length f.nodes.length A) (by rw [hnt]; rfl) (by rw [hP]; kernel_rfl) rfl rfl rfl (.inl (by intro k hk; simp at hk; omega)) (hP ▸ right_ok f j f.nodes.length A _ b6 g1 g2 _ _ G2 (Rp.S_mono (hle1.trans hle2) hns0) rfl hn2 hlt hok hA (hv.mono hle2)) ?_
    rintro v G3 ow' (hle3 : Le G2 G3) ⟨rfl, B, hB, rfl, hBB⟩
    simp only [setO, rows]
    cases hst : nodeStep f.nodes.length j f.nodes[j] A with
    | none =>
      rw [hst] at hpl2
      simp only [Option.isSome_none]
      refine rn_ ?_; intros
      refine go_slot 66 (.b true) rfl (by simp [SV.den]) ?_; refine rn_ ?_; intros
      refine x_retc rfl hQ hmb rfl (by rw [hty]; simp only [so, sq, zy, zz, tyE, SO', SQ', opQ, opStore, opAlloc, ev, putS, dOk, cv, SV.cs, SV.one, SV.bool?, eqB, Value.oneCell', ldOwn, binInt, binConst, binBool, binStr, isC, TK.agg, rv, rv1, ldV, resOne, resV, Nat.reduceAdd, Nat.reduceMul, Nat.reduceSub, Nat.reduceLT, Nat.reduceLeDiff, Nat.reduceEqDiff, Nat.reduceBEq, reduceIte, reduceCtorEq, eq_self]; try rfl) rfl ?_; simp only [SV.den, resV, dens]
      show lookR _ _ _ _
      simp only [lookR, hpl2]
    | some B' =>
      rw [hst] at hpl2
      obtain rfl := hBB _ hst
      simp only [Option.isSome_some]
      refine rn_ ?_; intros
      refine go_slot 66 (.b false) rfl (by simp [SV.den]) ?_; refine rn_ ?_; intros
      rw [wr (n := (j : Int) + 1) (by omega) (by omega)]
      refine go_keep [1, 5, 6, 59, 60] [0, 10, 11] ?_
      refine st_ ?_
      exact ih (f.nodes.length - (j + 1)) _ (by omega) ⟨j + 1, B, G3, by omega, rfl, hB, nodeStep_ok (by simp only [isI64]; omega) hok (by omega) hA hst, hle2.trans hle3, hpl2, by simp⟩
  · have hge : j = f.nodes.length := by simp at hjl; omega
    subst hge
    clear ih
    simp only [List.drop_length, plGo] at hpl2
    refine go_pubL rI 10 (ts := A.map (·.1)) rfl (by omega) (by simp [hA]) (by omega) (rI_L.2 ⟨by rw [List.map_map]; rfl, fun n hn => by obtain ⟨x, hx, rfl⟩ := List.mem_map.1 hn; exact (hok x hx).1⟩) ?_
    rintro G3 ad1 cap1 (hle3 : Le G2 G3) hs1 hS1
    refine go_pubL rI 11 (ts := A.map (·.2)) rfl (by omega) (by simp [hA]) (by omega) (rI_L.2 ⟨by rw [List.map_map]; rfl, fun n hn => by obtain ⟨x, hx, rfl⟩ := List.mem_map.1 hn; exact (hok x hx).2⟩) ?_
    rintro G4 ad2 cap2 (hle4 : Le G3 G4) hs2 hS2
    refine st_ ?_
    refine rn_ ?_; intros
    refine x_retc rfl hQ hmb rfl (by rw [hty]; simp only [so, sq, zy, zz, tyE, SO', SQ', opQ, opStore, opAlloc, ev, putS, dOk, cv, SV.cs, SV.one, SV.bool?, eqB, Value.oneCell', ldOwn, binInt, binConst, binBool, binStr, isC, TK.agg, rv, rv1, ldV, resOne, resV, Nat.reduceAdd, Nat.reduceMul, Nat.reduceSub, Nat.reduceLT, Nat.reduceLeDiff, Nat.reduceEqDiff, Nat.reduceBEq, reduceIte, reduceCtorEq, eq_self]; try rfl) rfl ?_; simp only [SV.den, resV, dens]
    show lookR _ _ _ _
    simp only [lookR, hpl2]
    rw [← hs1] at hS1
    rw [← hs2] at hS2
    exact ⟨b6, _, _, rfl, hv.mono (hle2.trans (hle3.trans hle4)), Rp.S_mono hle4 hS1, hS2⟩
end Go.Proofs.Ytpopbkiphdcilaa
namespace Go.Proofs.Ytpopbkiphdcilaa
set_option linter.unusedSimpArgs false
set_option linter.unusedVariables false
open Go.Sx
set_option maxHeartbeats 4000000
def whr (f : Fu) : Int × Int := match places f with
  | .inl i => (i, 60)
  | .inr _ => (0, 0)
def par (f : Fu) (node : Int) : Int × Int := match places f with
  | .inl _ => (0, 60)
  | .inr A => if node < 0 ∨ (A.length : Int) ≤ node then (0, 4) else if node = 0 then (0, 5) else (pa A node.toNat, 0)
theorem where_ok (f : Fu) (ns : Value) (G : Hp) (hp : isI64 f.params) (hns : rN.S G f.nodes ns) : Pure Try.prog 47 [.agg #[.int .i64 f.params, ns]] G (fun r _ => r = .tuple #[.int .i64 (whr f).1, .int .i64 (whr f).2]) := by
  have hns0 := hns
  obtain ⟨ad, cap, rfl⟩ := Rp.S_slice hns
  refine enterX ty tyok Try.func47 rfl Try.ntmps47 [.a [.v (.int .i64 f.params), .v (.slice ad f.nodes.length cap)]] (by simp) ?_
  intro C hP hQ hnt hty hmb hmh hro; have hQp := qp_body hQ; refine st_ ?_
  refine rn_ ?_; intros
  refine go_call (by rw [hnt]; rfl) (by rw [hP]; kernel_rfl) rfl (hP ▸ look_ok f _ G hp hns0) ?_
  rintro v G1 (hle1 : Le G G1) hl
  simp only [lookR] at hl
  cases hpl : places f with
  | inl i =>
    rw [hpl] at hl
    simp only at hl
    subst hl
    refine rn_ ?_; intros
    refine go_slot 14 (.b true) rfl (by simp [SV.den]) ?_; refine rn_ ?_; intros
    refine x_retc rfl hQ hmb rfl (by rw [hty]; simp only [so, sq, zy, zz, tyE, SO', SQ', opQ, opStore, opAlloc, ev, putS, dOk, cv, SV.cs, SV.one, SV.bool?, eqB, Value.oneCell', ldOwn, binInt, binConst, binBool, binStr, isC, TK.agg, rv, rv1, ldV, resOne, resV, Nat.reduceAdd, Nat.reduceMul, Nat.reduceSub, Nat.reduceLT, Nat.reduceLeDiff, Nat.reduceEqDiff, Nat.reduceBEq, reduceIte, reduceCtorEq, eq_self]; try rfl) rfl ?_; simp only [SV.den, resV, dens]
    simp [whr, hpl]
  | inr A =>
    rw [hpl] at hl
    obtain ⟨bv, s1, s2, rfl, _⟩ := hl
    refine rn_ ?_; intros
    refine go_slot 14 (.b false) rfl (by simp [SV.den]) ?_; refine rn_ ?_; intros
    refine x_retc rfl hQ hmb rfl (by rw [hty]; simp only [so, sq, zy, zz, tyE, SO', SQ', opQ, opStore, opAlloc, ev, putS, dOk, cv, SV.cs, SV.one, SV.bool?, eqB, Value.oneCell', ldOwn, binInt, binConst, binBool, binStr, isC, TK.agg, rv, rv1, ldV, resOne, resV, Nat.reduceAdd, Nat.reduceMul, Nat.reduceSub, Nat.reduceLT, Nat.reduceLeDiff, Nat.reduceEqDiff, Nat.reduceBEq, reduceIte, reduceCtorEq, eq_self]; try rfl) rfl ?_; simp only [SV.den, resV, dens]
    simp [whr, hpl]
theorem check_ok (f : Fu) (ns : Value) (G : Hp) (hp : isI64 f.params) (hns : rN.S G f.nodes ns) : Pure Try.prog 66 [.agg #[.int .i64 f.params, ns]] G (fun r _ => r = .int .i64 (whr f).2) := by
  have hns0 := hns
  obtain ⟨ad, cap, rfl⟩ := Rp.S_slice hns
  refine enterX ty tyok Try.func66 rfl Try.ntmps66 [.a [.v (.int .i64 f.params), .v (.slice ad f.nodes.length cap)]] (by simp) ?_
  intro C hP hQ hnt hty hmb hmh hro; have hQp := qp_body hQ; refine st_ ?_
  refine rn_ ?_; intros
  refine go_callf (by rw [hnt]; rfl) (by rw [hP]; kernel_rfl) rfl (hP ▸ where_ok f _ G hp hns0) ?_; refine rn_ ?_; intros
  refine x_retc rfl hQ hmb rfl (by rw [hty]; simp only [so, sq, zy, zz, tyE, SO', SQ', opQ, opStore, opAlloc, ev, putS, dOk, cv, SV.cs, SV.one, SV.bool?, eqB, Value.oneCell', ldOwn, binInt, binConst, binBool, binStr, isC, TK.agg, rv, rv1, ldV, resOne, resV, Nat.reduceAdd, Nat.reduceMul, Nat.reduceSub, Nat.reduceLT, Nat.reduceLeDiff, Nat.reduceEqDiff, Nat.reduceBEq, reduceIte, reduceCtorEq, eq_self]; try rfl) rfl ?_; simp only [SV.den, resV, dens]
end Go.Proofs.Ytpopbkiphdcilaa
namespace Go.Proofs.Ytpopbkiphdcilaa
set_option linter.unusedSimpArgs false
set_option linter.unusedVariables false
open Go.Sx

def ndD : Nd := ⟨0, 0, []⟩
def nd (f : Fu) (i : Nat) : Nd := f.nodes.getD i ndD
def kl (f : Fu) (i : Nat) : List Int := (nd f i).l
theorem nd_eq {f : Fu} {i : Nat} (h : i < f.nodes.length) : nd f i = f.nodes[i] := by simp [nd, h]
theorem kl_out {f : Fu} {i : Nat} (h : f.nodes.length ≤ i) : kl f i = [] := by simp [kl, nd, h, ndD]
theorem kl_lt {f : Fu} {j k : Nat} {c : Int} (h : (kl f j)[k]? = some c) : j < f.nodes.length := by
  rcases Nat.lt_or_ge j f.nodes.length with q | q
  · exact q
  · rw [kl_out q] at h; simp at h

structure TInv (f : Fu) (i k : Nat) (A : Pl) : Prop where
  len : A.length = f.nodes.length
  kid : ∀ (j m : Nat) (c : Int), (j < i ∨ (j = i ∧ m < k)) → (kl f j)[m]? = some c → (j : Int) < c ∧ c < f.nodes.length ∧ pa A c.toNat = j ∧ de A c.toNat = de A j + more (nd f j).op m
  one : ∀ (j m m' : Nat) (c : Int), (j < i ∨ (j = i ∧ m < k)) → (j < i ∨ (j = i ∧ m' < k)) → (kl f j)[m]? = some c → (kl f j)[m']? = some c → m = m'
  up : ∀ c, c < f.nodes.length → pa A c < 0 ∨ ∃ (j m : Nat), (j < i ∨ (j = i ∧ m < k)) ∧ pa A c = j ∧ (kl f j)[m]? = some (c : Int)
  root : pa A 0 < 0 ∧ de A 0 = f.params
  has : ∀ j, 0 < j → j < i → 0 ≤ pa A j
  ok : ∀ j, j < i → de A j ≤ 64 ∧ ben (nd f j).op (nd f j).l.length = true ∧ nmb (nd f j).op (nd f j).n (de A j) = true
theorem TInv.step {f : Fu} {i k : Nat} {A : Pl} (h : TInv f i k A) {c : Int} (hc : (kl f i)[k]? = some c) (h1 : (i : Int) < c) (h2 : c < f.nodes.length) (h3 : pa A c.toNat < 0) :
    TInv f i (k + 1) (A.set c.toNat ((i : Int), de A i + more (nd f i).op k)) := by
  obtain ⟨c, rfl⟩ : ∃ c' : Nat, c = c' := ⟨c.toNat, by omega⟩
  simp only [Int.toNat_natCast] at *
  have hl : c < A.length := by rw [h.len]; omega
  have hp : ∀ j, pa (A.set c ((i : Int), de A i + more (nd f i).op k)) j = if j = c then (i : Int) else pa A j := fun j => pa_set hl
  have hd : ∀ j, de (A.set c ((i : Int), de A i + more (nd f i).op k)) j = if j = c then de A i + more (nd f i).op k else de A j := fun j => de_set hl
  have old : ∀ (j m : Nat), (j < i ∨ (j = i ∧ m < k + 1)) → ((j < i ∨ (j = i ∧ m < k)) ∨ (j = i ∧ m = k)) := by intro j m h; omega
  refine ⟨by simp [h.len], ?_, ?_, ?_, ?_, ?_, ?_⟩
  · intro j m c2 hD hm
    rcases old j m hD with hD | ⟨rfl, rfl⟩
    · obtain ⟨q1, q2, q3, q4⟩ := h.kid j m c2 hD hm
      obtain ⟨c2, rfl⟩ : ∃ c' : Nat, c2 = c' := ⟨c2.toNat, by omega⟩
      simp only [Int.toNat_natCast] at *
      have hne : c2 ≠ c := by rintro rfl; omega
      rw [hp, if_neg hne, hd, if_neg hne, hd, if_neg (by omega)]
      exact ⟨q1, q2, q3, q4⟩
    · rw [hc] at hm; cases hm
      simp only [Int.toNat_natCast]
      rw [hp, if_pos rfl, hd, if_pos rfl, hd, if_neg (by omega)]
      exact ⟨h1, h2, rfl, rfl⟩
  · intro j m m' c2 hD hD' hm hm'
    rcases old j m hD with hD | ⟨rfl, rfl⟩ <;> rcases old j m' hD' with hD' | ⟨e, rfl⟩
    · exact h.one j m m' c2 hD hD' hm hm'
    · subst e
      rw [hc] at hm'; cases hm'
      have := (h.kid j m c hD hm).2.2.1
      simp only [Int.toNat_natCast] at this
      omega
    · rw [hc] at hm; cases hm
      have := (h.kid j m' c hD' hm').2.2.1
      simp only [Int.toNat_natCast] at this
      omega
    · rfl
  · intro c2 hc2
    rw [hp]
    split
    · rename_i e; subst e
      exact .inr ⟨i, k, .inr ⟨rfl, by omega⟩, rfl, hc⟩
    · rcases h.up c2 hc2 with q | ⟨j, m, q1, q2, q3⟩
      · exact .inl q
      · exact .inr ⟨j, m, by omega, q2, q3⟩
  · rw [hp, if_neg (by omega), hd, if_neg (by omega)]
    exact h.root
  · intro j hj hji
    rw [hp]
    split
    · omega
    · exact h.has j hj hji
  · intro j hj
    rw [hd, if_neg (by omega)]
    exact h.ok j hj
theorem TInv.kidsI {f : Fu} {i : Nat} : ∀ {l : List Int} {k : Nat} {A B : Pl}, TInv f i k A → (kl f i).drop k = l → kids f.nodes.length (nd f i).op i k l A = some B → TInv f i (k + l.length) B
  | [], k, A, B, h, _, hB => by simp only [kids, Option.some.injEq] at hB; subst hB; exact h
  | c :: l, k, A, B, h, hl, hB => by
    simp only [kids] at hB
    split at hB
    · cases hB
    · rename_i hc
      have hck : (kl f i)[k]? = some c := by
        have := congrArg (fun l => l[0]?) hl
        simpa using this
      have hl' : (kl f i).drop (k + 1) = l := by
        have := congrArg (List.drop 1) hl
        simpa using this
      have := TInv.kidsI (h.step hck (by omega) (by omega) (by omega)) hl' hB
      rw [List.length_cons, show k + (l.length + 1) = k + 1 + l.length by omega]
      exact this
theorem TInv.node {f : Fu} {i : Nat} {A B : Pl} (hi : i < f.nodes.length) (h : TInv f i 0 A) (hB : nodeStep f.nodes.length i f.nodes[i] A = some B) : TInv f (i + 1) 0 B := by
  simp only [nodeStep] at hB
  split at hB
  · cases hB
  rename_i hb
  rw [← nd_eq hi] at hb hB
  have h1 := TInv.kidsI h (l := kl f i) rfl hB
  have hk : ∀ {j m : Nat} {c : Int}, (j < i + 1 ∨ (j = i + 1 ∧ m < 0)) → (kl f j)[m]? = some c → (j < i ∨ (j = i ∧ m < 0 + (kl f i).length)) := by
    intro j m c hD hm
    rcases Nat.lt_or_ge j i with q | q
    · exact .inl q
    · have e : j = i := by omega
      subst e
      refine .inr ⟨rfl, ?_⟩
      obtain ⟨q, _⟩ := List.getElem?_eq_some_iff.1 hm
      omega
  have hde : ∀ {l : List Int} {k : Nat} {A B : Pl}, i < A.length → kids f.nodes.length (nd f i).op i k l A = some B → A.length = f.nodes.length → de B i = de A i ∧ (0 ≤ pa A i → 0 ≤ pa B i) := by
    intro l
    induction l with
    | nil => intro k A B _ hB _; simp only [kids, Option.some.injEq] at hB; subst hB; exact ⟨rfl, id⟩
    | cons c l ih =>
      intro k A B hA hB hl
      simp only [kids] at hB
      split at hB
      · cases hB
      · rename_i hc
        obtain ⟨q1, q2⟩ := ih (by simpa using hA) hB (by simpa using hl)
        rw [de_set (by omega), if_neg (by omega)] at q1
        rw [pa_set (by omega), if_neg (by omega)] at q2
        exact ⟨q1, q2⟩
  obtain ⟨d1, d2⟩ := hde (by rw [h.len]; exact hi) hB h.len
  refine ⟨h1.len, fun j m c hD hm => h1.kid j m c (hk hD hm) hm, fun j m m' c hD hD' hm hm' => h1.one j m m' c (hk hD hm) (hk hD' hm') hm hm', fun c hc => ?_, h1.root, fun j hj hji => ?_, fun j hj => ?_⟩
  · rcases h1.up c hc with q | ⟨j, m, q1, q2, q3⟩
    · exact .inl q
    · exact .inr ⟨j, m, by omega, q2, q3⟩
  · rcases Nat.lt_or_ge j i with q | q
    · exact h1.has j hj q
    · have e : j = i := by omega
      subst e
      unfold bad at hb
      exact d2 (by omega)
  · rcases Nat.lt_or_ge j i with q | q
    · exact h1.ok j q
    · have e : j = i := by omega
      subst e
      unfold bad at hb
      rw [d1]
      refine ⟨by omega, ?_, ?_⟩
      · cases hq : ben (nd f j).op (nd f j).l.length with
        | true => rfl
        | false => exact absurd (.inr (.inr (.inl hq))) hb
      · cases hq : nmb (nd f j).op (nd f j).n (de A j) with
        | true => rfl
        | false => exact absurd (.inr (.inr (.inr hq))) hb
theorem TInv.go {f : Fu} : ∀ {l : List Nd} {i : Nat} {A B : Pl}, TInv f i 0 A → f.nodes.drop i = l → plGo f.nodes.length i l A = .inr B → TInv f (i + l.length) 0 B
  | [], i, A, B, h, _, hB => by simp only [plGo, Sum.inr.injEq] at hB; subst hB; exact h
  | x :: l, i, A, B, h, hl, hB => by
    simp only [plGo] at hB
    have hi : i < f.nodes.length := by
      rcases Nat.lt_or_ge i f.nodes.length with q | q
      · exact q
      · rw [List.drop_eq_nil_of_le q] at hl; cases hl
    rw [List.drop_eq_getElem_cons hi] at hl
    cases hl
    cases h1 : nodeStep f.nodes.length i f.nodes[i] A with
    | none => rw [h1] at hB; cases hB
    | some A' =>
      rw [h1] at hB
      have := TInv.go (h.node hi h1) rfl hB
      rw [List.length_cons, Nat.add_comm _ 1, ← Nat.add_assoc]
      exact this
theorem tinv0 {f : Fu} (h : ¬ out f) : TInv f 0 0 (pl0 f) := by
  have hn : 0 < f.nodes.length := by unfold out at h; omega
  have hl : (List.replicate f.nodes.length ((-1 : Int), (0 : Int))).length = f.nodes.length := by simp
  have hp : ∀ j, j < f.nodes.length → pa (pl0 f) j = -1 := fun j hj => by
    rw [pl0, pa_set (by omega)]
    split
    · rfl
    · rw [pa_eq (by omega)]; simp
  refine ⟨by simp [pl0], by intros; omega, by intros; omega, fun c hc => .inl (by rw [hp c hc]; omega), ⟨by rw [hp 0 hn]; omega, ?_⟩, by intros; omega, by intros; omega⟩
  rw [pl0, de_set (by omega), if_pos rfl]

structure Tree (f : Fu) (A : Pl) : Prop where
  len : A.length = f.nodes.length
  pos : 0 < f.nodes.length
  n200 : f.nodes.length ≤ 200
  par9 : 0 ≤ f.params ∧ f.params ≤ 9
  kid : ∀ (j m : Nat) (c : Int), (kl f j)[m]? = some c → (j : Int) < c ∧ c < f.nodes.length ∧ pa A c.toNat = j ∧ de A c.toNat = de A j + more (nd f j).op m
  one : ∀ (j m m' : Nat) (c : Int), (kl f j)[m]? = some c → (kl f j)[m']? = some c → m = m'
  up : ∀ c, 0 < c → c < f.nodes.length → ∃ (j m : Nat), pa A c = j ∧ (kl f j)[m]? = some (c : Int)
  root : pa A 0 < 0 ∧ de A 0 = f.params
  ok : ∀ j, j < f.nodes.length → de A j ≤ 64 ∧ ben (nd f j).op (nd f j).l.length = true ∧ nmb (nd f j).op (nd f j).n (de A j) = true
theorem tree {f : Fu} {A : Pl} (h : places f = .inr A) : Tree f A := by
  simp only [places] at h
  split at h
  · cases h
  rename_i ho
  have h1 := TInv.go (tinv0 ho) rfl h
  simp only [Nat.zero_add, List.drop_zero] at h1
  have ho' := ho
  unfold out at ho'
  refine ⟨h1.len, by omega, by omega, by omega, fun j m c hm => h1.kid j m c (.inl (kl_lt hm)) hm, fun j m m' c hm hm' => h1.one j m m' c (.inl (kl_lt hm)) (.inl (kl_lt hm)) hm hm', fun c h0 hc => ?_, h1.root, h1.ok⟩
  rcases h1.up c hc with q | ⟨j, m, _, q2, q3⟩
  · have := h1.has c h0 hc; omega
  · exact ⟨j, m, q2, q3⟩

theorem mem_kl {f : Fu} {A : Pl} (h : Tree f A) {i : Nat} {c : Int} (hc : c ∈ kl f i) : (i : Int) < c ∧ c < f.nodes.length ∧ pa A c.toNat = i := by
  obtain ⟨m, hm⟩ := List.getElem?_of_mem hc
  have := h.kid i m c hm
  exact ⟨this.1, this.2.1, this.2.2.1⟩
end Go.Proofs.Ytpopbkiphdcilaa
namespace Go.Proofs.Ytpopbkiphdcilaa
set_option linter.unusedSimpArgs false
set_option linter.unusedVariables false
open Go.Sx
set_option maxHeartbeats 4000000
end Go.Proofs.Ytpopbkiphdcilaa
namespace Go.Proofs.Ytpopbkiphdcilaa
set_option linter.unusedSimpArgs false
set_option linter.unusedVariables false
open Go.Sx
set_option maxHeartbeats 4000000
def rP : Rp (Int × Int) where
  size := 2
  e _ x cs := cs = [.int .i64 x.1, .int .i64 x.2] ∧ isI64 x.1 ∧ isI64 x.2
  mono _ h := h
  len h := by obtain ⟨rfl, _⟩ := h; rfl
  one h u hu := by
    obtain ⟨rfl, _⟩ := h
    simp at hu
    rcases hu with rfl | rfl <;> rfl
def en (A : Pl) : List Value := A.flatMap fun x => [.int .i64 x.1, .int .i64 x.2]
theorem en_cons (x : Int × Int) (A : Pl) : en (x :: A) = .int .i64 x.1 :: .int .i64 x.2 :: en A := rfl
theorem en_len : ∀ A : Pl, (en A).length = A.length * 2
  | [] => rfl
  | x :: A => by rw [en_cons]; simp only [List.length_cons, en_len A]; omega
theorem en_drop : ∀ (A : Pl) (i : Nat), (en A).drop (i * 2) = en (A.drop i)
  | A, 0 => by simp
  | [], i + 1 => by simp [en]
  | x :: A, i + 1 => by rw [en_cons, show (i + 1) * 2 = i * 2 + 1 + 1 by omega]; simp [en_drop A i]
theorem en_L {G : Hp} : ∀ {A : Pl}, okA A → rP.L G A (en A)
  | [], _ => rfl
  | x :: A, h => ⟨[.int .i64 x.1, .int .i64 x.2], en A, rfl, ⟨rfl, h x (by simp)⟩, en_L fun y hy => h y (by simp [hy])⟩
theorem ldA {A : Pl} {i off : Nat} (h : i < A.length) (ho : off = i * 2) : ldV false (((en A).drop off).take 1) = .int .i64 (pa A i) := by
  subst ho
  rw [en_drop, List.drop_eq_getElem_cons h, en_cons, pa_eq h]
  rfl
theorem ldB {A : Pl} {i off : Nat} (h : i < A.length) (ho : off = i * 2 + 1) : ldV false (((en A).drop off).take 1) = .int .i64 (de A i) := by
  subst ho
  rw [← List.drop_drop, en_drop, List.drop_eq_getElem_cons h, en_cons, de_eq h]
  rfl
theorem layA' (x : Int × Int) : ∀ {A : Pl} {i : Nat}, i < A.length → lay (en A) (i * 2) [.int .i64 x.1, .int .i64 x.2] = some (en (A.set i x))
  | a :: A, 0, _ => by simp [en_cons, lay]
  | a :: A, i + 1, h => by
    rw [en_cons, show (i + 1) * 2 = i * 2 + 1 + 1 by omega]
    simp only [lay, layA' x (A := A) (i := i) (by simpa using h), Option.map_some, List.set_cons_succ, en_cons]
theorem layB' (d : Int) : ∀ {A : Pl} {i : Nat}, i < A.length → lay (en A) (i * 2 + 1) [.int .i64 d] = some (en (A.set i (pa A i, d)))
  | a :: A, 0, _ => by simp [en_cons, lay, pa]
  | a :: A, i + 1, h => by
    rw [en_cons, show (i + 1) * 2 + 1 = i * 2 + 1 + 1 + 1 by omega]
    simp only [lay, layB' d (A := A) (i := i) (by simpa using h), Option.map_some, List.set_cons_succ, en_cons]
    simp [pa]
theorem layA {A : Pl} {i off : Nat} (x : Int × Int) (h : i < A.length) (ho : off = i * 2) {vs : List Value} (hv : vs = [.int .i64 x.1, .int .i64 x.2]) : lay (en A) off vs = some (en (A.set i x)) := by
  subst ho hv; exact layA' x h
theorem layB {A : Pl} {i off : Nat} (d : Int) (h : i < A.length) (ho : off = i * 2 + 1) {vs : List Value} (hv : vs = [.int .i64 d]) : lay (en A) off vs = some (en (A.set i (pa A i, d))) := by
  subst ho hv; exact layB' d h
theorem rep_en : ∀ n, rep [Value.int .i64 0, Value.int .i64 0] n = en (mid n 0)
  | 0 => rfl
  | n + 1 => by
    have h : mid (n + 1) 0 = (0, 0) :: mid n 0 := by simp [mid, List.replicate_succ]
    rw [h, en_cons, ← rep_en n]
    rfl
def refR (f : Fu) (r : Value) (G' : Hp) : Prop :=
  match places f with
  | .inl i => r = .tuple #[.slice none 0 0, .int .i64 i, .bool true]
  | .inr A => ∃ sl, r = .tuple #[sl, .int .i64 0, .bool false] ∧ rP.S G' A sl
theorem places_ref (f : Fu) (ns : Value) (G : Hp) (hp : isI64 f.params) (hns : rN.S G f.nodes ns) : Pure Try.prog 63 [.agg #[.int .i64 f.params, ns]] G (fun r G' => refR f r G') := by
  have hns0 := hns
  obtain ⟨ad, cap, rfl⟩ := Rp.S_slice hns
  have h63 := Rp.S_len hns
  simp only [isI64] at hp
  refine enterX ty tyok Try.func63 rfl Try.ntmps63 [.a [.v (.int .i64 f.params), .v (.slice ad f.nodes.length cap)]] (by simp) ?_
  intro C hP hQ hnt hty hmb hmh hro; have hQp := qp_body hQ; refine st_ ?_
  refine rn_ ?_; intros
  rename_i b1
  have ret : out f → refR f (.tuple #[.slice none 0 0, .int .i64 0, .bool true]) G := fun h => by
    simp only [refR, places, if_pos h]; rfl
  refine go_gsplit rfl rfl (fun h1 => ?_) (fun h1 => ?_) <;> (refine st_ ?_; (refine rn_ ?_; intros))
  · refine x_retc rfl hQ hmb rfl (by rw [hty]; simp only [so, sq, zy, zz, tyE, SO', SQ', opQ, opStore, opAlloc, ev, putS, dOk, cv, SV.cs, SV.one, SV.bool?, eqB, Value.oneCell', ldOwn, binInt, binConst, binBool, binStr, isC, TK.agg, rv, rv1, ldV, resOne, resV, Nat.reduceAdd, Nat.reduceMul, Nat.reduceSub, Nat.reduceLT, Nat.reduceLeDiff, Nat.reduceEqDiff, Nat.reduceBEq, reduceIte, reduceCtorEq, eq_self]; try rfl) rfl ?_; simp only [SV.den, resV, dens]
    exact ret (.inl (by simpa using h1))
  refine go_gsplit rfl rfl (fun h2 => ?_) (fun h2 => ?_) <;> (refine st_ ?_; (refine rn_ ?_; intros))
  · refine x_retc rfl hQ hmb rfl (by rw [hty]; simp only [so, sq, zy, zz, tyE, SO', SQ', opQ, opStore, opAlloc, ev, putS, dOk, cv, SV.cs, SV.one, SV.bool?, eqB, Value.oneCell', ldOwn, binInt, binConst, binBool, binStr, isC, TK.agg, rv, rv1, ldV, resOne, resV, Nat.reduceAdd, Nat.reduceMul, Nat.reduceSub, Nat.reduceLT, Nat.reduceLeDiff, Nat.reduceEqDiff, Nat.reduceBEq, reduceIte, reduceCtorEq, eq_self]; try rfl) rfl ?_; simp only [SV.den, resV, dens]
    exact ret (.inr (.inl (by simpa using h2)))
  refine go_gsplit rfl rfl (fun h3 => ?_) (fun h3 => ?_) <;> (refine st_ ?_; (refine rn_ ?_; intros))
  · refine x_retc rfl hQ hmb rfl (by rw [hty]; simp only [so, sq, zy, zz, tyE, SO', SQ', opQ, opStore, opAlloc, ev, putS, dOk, cv, SV.cs, SV.one, SV.bool?, eqB, Value.oneCell', ldOwn, binInt, binConst, binBool, binStr, isC, TK.agg, rv, rv1, ldV, resOne, resV, Nat.reduceAdd, Nat.reduceMul, Nat.reduceSub, Nat.reduceLT, Nat.reduceLeDiff, Nat.reduceEqDiff, Nat.reduceBEq, reduceIte, reduceCtorEq, eq_self]; try rfl) rfl ?_; simp only [SV.den, resV, dens]
    exact ret (.inr (.inr (.inl (by simp at h3; omega))))
  refine x_split rfl rfl rfl (fun h4 => ?_) (fun h4 => ?_) <;> (refine st_ ?_; (refine ru_ ?_; intros))
  · refine x_retc rfl hQ hmb rfl (by rw [hty]; simp only [so, sq, zy, zz, tyE, SO', SQ', opQ, opStore, opAlloc, ev, putS, dOk, cv, SV.cs, SV.one, SV.bool?, eqB, Value.oneCell', ldOwn, binInt, binConst, binBool, binStr, isC, TK.agg, rv, rv1, ldV, resOne, resV, Nat.reduceAdd, Nat.reduceMul, Nat.reduceSub, Nat.reduceLT, Nat.reduceLeDiff, Nat.reduceEqDiff, Nat.reduceBEq, reduceIte, reduceCtorEq, eq_self]; try rfl) rfl ?_; simp only [SV.den, resV, dens]
    exact ret (.inr (.inr (.inr (by simp at h4; omega))))
  clear ret
  have hout : ¬ out f := by
    simp at h1 h2 h3 h4
    unfold out; omega
  have hn1 : 1 ≤ f.nodes.length := by unfold out at hout; omega
  have hn2 : f.nodes.length ≤ 200 := by unfold out at hout; omega
  refine go_make 10 (by rw [hnt]; rfl) (by rw [hty]; rfl) (by rw [hty]; rfl) rfl rfl (Nat.le_refl _) rfl (by omega) (by omega) (by simp only []; omega) (by simp) ?_
  intro g1
  refine rn_ ?_; intros
  rw [rep_en]
  refine go_keep [1, 5, 6, 7] [0, 10] ?_
  refine st_ ?_
  refine x_loop rfl (fun q s => ∃ (j : Nat), j ≤ f.nodes.length ∧ q = f.nodes.length - j ∧
    s = ⟨[(1, .p 0 b1 0), (5, .v (.int .i64 f.nodes.length)), (6, .v (.slice (some ⟨g1, 0, none⟩) f.nodes.length f.nodes.length)), (7, .v (.int .i64 j))],
      [(0, b1, .c 59 [.v (.int .i64 f.params), .v (.slice ad f.nodes.length cap)]), (10, g1, .row (.slice (some ⟨g1, 0, none⟩) f.nodes.length f.nodes.length) 130 2 f.nodes.length (en (mid f.nodes.length j)))], G, []⟩) ⟨0, by omega, rfl, rfl⟩ ?_
  rintro q s ⟨j, hj, hq, rfl⟩ ih
  refine rn_ ?_; intros
  refine x_if rfl rfl rfl rfl (fun hjl => ?_) (fun hjl => ?_)
  · have hlt : j < f.nodes.length := by simp at hjl; omega
    refine rn_ ?_; intros
    refine go_q (by rw [hnt]; rfl) (quiet_index (by rw [hty]; rfl) (by rw [hty]; rfl) rfl rfl rfl (by omega) (by omega)) ?_
    refine rn_ ?_; intros
    refine go_storeR 10 rfl (by rw [hty]; rfl) rfl rfl rfl rfl rfl rfl (layA (i := j) ((-1 : Int), (0 : Int)) (by rw [mid_len hj]; omega) (by simp) rfl) ?_
    refine rn_ ?_; intros
    rw [wr (n := (j : Int) + 1) (by omega) (by omega), mid_set hlt]
    refine go_keep [1, 5, 6, 7] [0, 10] ?_
    refine st_ ?_
    exact ih (f.nodes.length - (j + 1)) _ (by omega) ⟨j + 1, by omega, rfl, by simp⟩
  have hge : j = f.nodes.length := by simp at hjl; omega
  subst hge
  clear ih
  have hm1 : mid f.nodes.length f.nodes.length = List.replicate f.nodes.length (-1, 0) := by simp [mid]
  rw [hm1]
  refine rn_ ?_; intros
  refine go_q (by rw [hnt]; rfl) (quiet_index (by rw [hty]; rfl) (by rw [hty]; rfl) rfl rfl rfl (by omega) (by omega)) ?_
  refine rn_ ?_; intros
  refine go_storeR 10 rfl (by rw [hty]; rfl) rfl rfl rfl rfl rfl rfl (layB (i := 0) f.params (by simp; omega) (by simp) rfl) ?_
  refine rn_ ?_; intros
  have hp0 : (List.replicate f.nodes.length ((-1 : Int), (0 : Int))).set 0 (pa (List.replicate f.nodes.length ((-1 : Int), (0 : Int))) 0, f.params) = pl0 f := by
    rw [pl0, pa_eq (by simp; omega)]; simp
  rw [hp0]
  refine go_keep [1, 5, 6, 8] [0, 10] ?_
  refine st_ ?_
  have hpl : places f = plGo f.nodes.length 0 f.nodes (pl0 f) := by rw [places, if_neg hout]
  refine x_loop rfl (fun q s => ∃ (j : Nat) (A : Pl), j ≤ f.nodes.length ∧ q = f.nodes.length - j ∧ A.length = f.nodes.length ∧ okA A ∧ places f = plGo f.nodes.length j (f.nodes.drop j) A ∧
    s = ⟨[(1, .p 0 b1 0), (5, .v (.int .i64 f.nodes.length)), (6, .v (.slice (some ⟨g1, 0, none⟩) f.nodes.length f.nodes.length)), (8, .v (.int .i64 j))],
      [(0, b1, .c 59 [.v (.int .i64 f.params), .v (.slice ad f.nodes.length cap)]), (10, g1, .row (.slice (some ⟨g1, 0, none⟩) f.nodes.length f.nodes.length) 130 2 f.nodes.length (en A))], G, []⟩) ⟨0, pl0 f, by omega, rfl, pl0_len f, pl0_ok hout, by simpa using hpl, rfl⟩ ?_
  rintro q s ⟨i, A, hi, hq, hA, hok, hpl2, rfl⟩ ih
  refine rn_ ?_; intros
  refine x_if rfl rfl rfl rfl (fun hil => ?_) (fun hil => ?_)
  · have hlt : i < f.nodes.length := by simp at hil; omega
    rw [List.drop_eq_getElem_cons hlt] at hpl2
    simp only [plGo] at hpl2
    obtain ⟨bn, offn, capn, cn, hse, hatn, sl, rfl, hop, hnn, hsl⟩ := Rp.S_get hns0 hlt
    cases hse
    obtain ⟨h63', adl, capl, rfl, hsrc⟩ := hsl
    have hatn' : At G bn (offn + i * 3) [.int .i64 f.nodes[i].op, .int .i64 f.nodes[i].n, .slice adl f.nodes[i].l.length capl] := by simpa [rN] using hatn
    clear hatn
    generalize hx : f.nodes[i] = x at *
    refine rn_ ?_; intros
    refine go_q (by rw [hnt]; rfl) (quiet_index (by rw [hty]; rfl) (by rw [hty]; rfl) rfl rfl rfl (by omega) (by omega)) ?_
    refine rn_ ?_; intros
    refine go_q (by rw [hnt]; rfl) (quiet_load (by rw [hty]; rfl) rfl (by simp [TK.agg]) hatn' rfl) ?_
    refine rn_ ?_; intros
    rename_i b9
    refine go_keep [1, 5, 6, 8, 9, 10] [0, 10, 11] ?_
    refine st_ ?_
    have ret : nodeStep f.nodes.length i x A = none → refR f (.tuple #[.slice none 0 0, .int .i64 i, .bool true]) G := fun h => by
      rw [h] at hpl2
      simp only [refR, hpl2]
    refine cut_tail 2 (fun s' => ¬ (0 < i ∧ pa A i < 0) ∧ de A i ≤ 64 ∧ ben x.op x.l.length = true ∧ nmb x.op x.n (de A i) = true ∧ s' = ⟨[(1, .p 0 b1 0), (5, .v (.int .i64 f.nodes.length)), (6, .v (.slice (some ⟨g1, 0, none⟩) f.nodes.length f.nodes.length)), (8, .v (.int .i64 i)), (9, .p 11 b9 0), (10, .v (.int .i64 x.op))],
      [(0, b1, .c 59 [.v (.int .i64 f.params), .v (.slice (some ⟨bn, offn, none⟩) f.nodes.length cap)]), (10, g1, .row (.slice (some ⟨g1, 0, none⟩) f.nodes.length f.nodes.length) 130 2 f.nodes.length (en A)), (11, b9, .c 62 [.v (.int .i64 x.op), .v (.int .i64 x.n), .v (.slice adl x.l.length capl)])], G, []⟩) ?_ (fun key => ?_)
    · rintro s' ⟨hb1, hb2, hben, hnmb, rfl⟩
      simp only [List.drop_succ_cons, List.drop_zero]
      have hnb : nodeStep f.nodes.length i x A = kids f.nodes.length x.op i 0 x.l A := if_neg (by
        rintro (h | h | h | h)
        · exact hb1 h
        · omega
        · rw [hben] at h; cases h
        · rw [hnmb] at h; cases h)
      have hdk := de_ok hok (show i < A.length by omega)
      simp only [isI64] at hdk
      refine rn_ ?_; intros
      refine x_loop rfl (fun q s => ∃ (k : Nat) (B : Pl), k ≤ x.l.length ∧ q = x.l.length - k ∧ B.length = f.nodes.length ∧ okA B ∧ de B i = de A i ∧ kids f.nodes.length x.op i 0 x.l A = kids f.nodes.length x.op i k (x.l.drop k) B ∧
        s = ⟨[(1, .p 0 b1 0), (5, .v (.int .i64 f.nodes.length)), (6, .v (.slice (some ⟨g1, 0, none⟩) f.nodes.length f.nodes.length)), (8, .v (.int .i64 i)), (9, .p 11 b9 0), (10, .v (.int .i64 x.op)), (11, .v (.int .i64 k))],
          [(0, b1, .c 59 [.v (.int .i64 f.params), .v (.slice (some ⟨bn, offn, none⟩) f.nodes.length cap)]), (10, g1, .row (.slice (some ⟨g1, 0, none⟩) f.nodes.length f.nodes.length) 130 2 f.nodes.length (en B)), (11, b9, .c 62 [.v (.int .i64 x.op), .v (.int .i64 x.n), .v (.slice adl x.l.length capl)])], G, []⟩) ⟨0, A, by omega, rfl, hA, hok, rfl, by simp, by simp⟩ ?_
      rintro q2 s ⟨k, B, hk, hq2, hB, hokB, hdB, hkid, rfl⟩ ih2
      refine rn_ ?_; intros
      refine x_if rfl rfl rfl rfl (fun hjl => ?_) (fun hjl => ?_)
      · have hlt2 : k < x.l.length := by simp at hjl; omega
        rcases hsrc with h0 | ⟨bl, offl, csl, rfl, hal, hrl⟩
        · simp [h0] at hlt2
        obtain ⟨c0, hat, rfl, hc64⟩ := Rp.at_get hal hrl (i := k) hlt2
        have hat' : At G bl (offl + k) [.int .i64 x.l[k]] := by simpa [rI] using hat
        rw [List.drop_eq_getElem_cons hlt2] at hkid
        simp only [kids] at hkid
        generalize hce : x.l[k] = c at *
        refine rn_ ?_; intros
        refine go_q (by rw [hnt]; rfl) (quiet_index (by rw [hty]; rfl) (by rw [hty]; rfl) rfl rfl rfl (by omega) (by omega)) ?_
        refine rn_ ?_; intros
        refine go_q (by rw [hnt]; rfl) (quiet_load (vs := [.int .i64 c]) (by rw [hty]; rfl) rfl (by simp [TK.agg]) (by simpa using hat') rfl) ?_
        refine rn_ ?_; intros
        have kn : (c ≤ i ∨ (f.nodes.length : Int) ≤ c ∨ 0 ≤ pa B c.toNat) → refR f (.tuple #[.slice none 0 0, .int .i64 i, .bool true]) G := fun h => ret (by rw [hnb, hkid, if_pos h])
        refine go_gsplit rfl rfl (fun hc1 => ?_) (fun hc1 => ?_) <;> (refine st_ ?_; (refine rn_ ?_; intros))
        · refine x_retc rfl hQ hmb rfl (by rw [hty]; simp only [so, sq, zy, zz, tyE, SO', SQ', opQ, opStore, opAlloc, ev, putS, dOk, cv, SV.cs, SV.one, SV.bool?, eqB, Value.oneCell', ldOwn, binInt, binConst, binBool, binStr, isC, TK.agg, rv, rv1, ldV, resOne, resV, Nat.reduceAdd, Nat.reduceMul, Nat.reduceSub, Nat.reduceLT, Nat.reduceLeDiff, Nat.reduceEqDiff, Nat.reduceBEq, reduceIte, reduceCtorEq, eq_self]; try rfl) rfl ?_; simp only [SV.den, resV, dens]
          exact kn (.inl (by simpa using hc1))
        have hc1' : (i : Int) < c := by simp at hc1; omega
        refine go_gsplit rfl rfl (fun hc2 => ?_) (fun hc2 => ?_) <;> (refine st_ ?_; (refine rn_ ?_; intros))
        · refine x_retc rfl hQ hmb rfl (by rw [hty]; simp only [so, sq, zy, zz, tyE, SO', SQ', opQ, opStore, opAlloc, ev, putS, dOk, cv, SV.cs, SV.one, SV.bool?, eqB, Value.oneCell', ldOwn, binInt, binConst, binBool, binStr, isC, TK.agg, rv, rv1, ldV, resOne, resV, Nat.reduceAdd, Nat.reduceMul, Nat.reduceSub, Nat.reduceLT, Nat.reduceLeDiff, Nat.reduceEqDiff, Nat.reduceBEq, reduceIte, reduceCtorEq, eq_self]; try rfl) rfl ?_; simp only [SV.den, resV, dens]
          exact kn (.inr (.inl (by simpa using hc2)))
        have hc2' : c < (f.nodes.length : Int) := by simp at hc2; omega
        obtain ⟨c, rfl⟩ : ∃ c' : Nat, c = c' := ⟨c.toNat, by omega⟩
        simp only [Int.toNat_natCast] at kn hkid
        refine go_q (by rw [hnt]; rfl) (quiet_index (by rw [hty]; rfl) (by rw [hty]; rfl) rfl rfl rfl (by omega) (by omega)) ?_
        refine rn_ ?_; intros
        refine go_q (v := .int .i64 (pa B c)) (by rw [hnt]; rfl) ((quiet_loadR (k := 10) (by rw [hty]; rfl) rfl (by simp [TK.agg]) rfl (by simp [en_len]; omega)).cast (by exact ldA (by omega) (by simp))) ?_
        refine rn_ ?_; intros
        refine x_split rfl rfl rfl (fun hc3 => ?_) (fun hc3 => ?_) <;> (refine st_ ?_; (refine ru_ ?_; intros))
        · refine x_retc rfl hQ hmb rfl (by rw [hty]; simp only [so, sq, zy, zz, tyE, SO', SQ', opQ, opStore, opAlloc, ev, putS, dOk, cv, SV.cs, SV.one, SV.bool?, eqB, Value.oneCell', ldOwn, binInt, binConst, binBool, binStr, isC, TK.agg, rv, rv1, ldV, resOne, resV, Nat.reduceAdd, Nat.reduceMul, Nat.reduceSub, Nat.reduceLT, Nat.reduceLeDiff, Nat.reduceEqDiff, Nat.reduceBEq, reduceIte, reduceCtorEq, eq_self]; try rfl) rfl ?_; simp only [SV.den, resV, dens]
          exact kn (.inr (.inr (by simpa using hc3)))
        have hc3' : ¬ 0 ≤ pa B c := by simp at hc3; omega
        rw [if_neg (by omega)] at hkid
        refine go_q (by rw [hnt]; rfl) (quiet_index (by rw [hty]; rfl) (by rw [hty]; rfl) rfl rfl rfl (by omega) (by omega)) ?_
        refine rn_ ?_; intros
        refine go_q (v := .int .i64 (de A i)) (by rw [hnt]; rfl) ((quiet_loadR (k := 10) (by rw [hty]; rfl) rfl (by simp [TK.agg]) rfl (by simp [en_len]; omega)).cast (by rw [← hdB]; exact ldB (by omega) (by simp))) ?_
        refine rn_ ?_; intros
        refine go_q (by rw [hnt]; rfl) (quiet_index (by rw [hty]; rfl) (by rw [hty]; rfl) rfl rfl rfl (by omega) (by omega)) ?_
        refine rn_ ?_; intros
        refine go_storeR 10 rfl (by rw [hty]; rfl) rfl rfl rfl rfl rfl rfl (layA (i := c) ((i : Int), de A i) (by omega) (by simp) rfl) ?_
        refine rn_ ?_; intros
        have fin : ∀ D, D = de A i + more x.op k → SGo C _ _ := fun D hD => ih2 (x.l.length - (k + 1)) ⟨[(1, .p 0 b1 0), (5, .v (.int .i64 f.nodes.length)), (6, .v (.slice (some ⟨g1, 0, none⟩) f.nodes.length f.nodes.length)), (8, .v (.int .i64 i)), (9, .p 11 b9 0), (10, .v (.int .i64 x.op)), (11, .v (.int .i64 ((k : Int) + 1)))],
          [(0, b1, .c 59 [.v (.int .i64 f.params), .v (.slice (some ⟨bn, offn, none⟩) f.nodes.length cap)]), (10, g1, .row (.slice (some ⟨g1, 0, none⟩) f.nodes.length f.nodes.length) 130 2 f.nodes.length (en (B.set c ((i : Int), D)))), (11, b9, .c 62 [.v (.int .i64 x.op), .v (.int .i64 x.n), .v (.slice (some ⟨bl, offl, none⟩) x.l.length capl)])], G, []⟩ (by omega)
          ⟨k + 1, B.set c ((i : Int), D), by omega, rfl, by simp [hB], okA_set hokB ⟨by simp only [isI64]; omega, by subst hD; simp only [isI64, more]; split <;> omega⟩, by rw [de_set (by omega), if_neg (by omega)]; exact hdB, by rw [hkid, hdB, hD], by simp⟩
        have hset : ∀ D E : Int, (B.set c ((i : Int), D)).set c (pa (B.set c ((i : Int), D)) c, E) = B.set c ((i : Int), E) := fun D E => by rw [List.set_set, pa_set (by omega), if_pos rfl]
        refine go_gsplit rfl rfl (fun hm1 => ?_) (fun hm1 => ?_) <;> (refine st_ ?_; (refine rn_ ?_; intros))
        · have hm1' : x.op = 4 := by simpa using hm1
          refine x_split rfl rfl rfl (fun hm2 => ?_) (fun hm2 => ?_) <;> (refine st_ ?_; (refine ru_ ?_; intros))
          · have hm2' : k = 1 := by simp at hm2; omega
            refine go_q (by rw [hnt]; rfl) (quiet_index (by rw [hty]; rfl) (by rw [hty]; rfl) rfl rfl rfl (by omega) (by omega)) ?_
            refine rn_ ?_; intros
            refine go_q (v := .int .i64 (de A i)) (by rw [hnt]; rfl) ((quiet_loadR (k := 10) (by rw [hty]; rfl) rfl (by simp [TK.agg]) rfl (by simp [en_len]; omega)).cast (by exact (ldB (A := B.set c ((i : Int), de A i)) (i := c) (by simp; omega) (by simp)).trans (by rw [de_set (by omega), if_pos rfl]))) ?_
            refine rn_ ?_; intros
            rw [wr (n := de A i + 1) (by omega) (by omega)]
            refine go_q (by rw [hnt]; rfl) (quiet_index (by rw [hty]; rfl) (by rw [hty]; rfl) rfl rfl rfl (by omega) (by omega)) ?_
            refine rn_ ?_; intros
            refine go_storeR 10 rfl (by rw [hty]; rfl) rfl rfl rfl rfl rfl rfl (layB (i := c) (de A i + 1) (by simp; omega) (by simp) rfl) ?_
            refine rn_ ?_; intros
            rw [wr (n := (k : Int) + 1) (by omega) (by omega), hset]
            refine go_keep [1, 5, 6, 8, 9, 10, 11] [0, 10, 11] ?_
            refine st_ ?_
            exact fin _ (by rw [more, if_pos ⟨hm1', hm2'⟩])
          · have hm2' : ¬ k = 1 := by simp at hm2; omega
            rw [wr (n := (k : Int) + 1) (by omega) (by omega)]
            refine go_keep [1, 5, 6, 8, 9, 10, 11] [0, 10, 11] ?_
            refine st_ ?_
            exact fin _ (by rw [more, if_neg (by omega)]; simp)
        · have hm1' : ¬ x.op = 4 := by simpa using hm1
          rw [wr (n := (k : Int) + 1) (by omega) (by omega)]
          refine go_keep [1, 5, 6, 8, 9, 10, 11] [0, 10, 11] ?_
          refine st_ ?_
          exact fin _ (by rw [more, if_neg (by omega)]; simp)
      · have hge : k = x.l.length := by simp at hjl; omega
        subst hge
        clear ih2
        simp only [List.drop_length, kids] at hkid
        rw [hnb, hkid] at hpl2
        refine rn_ ?_; intros
        rw [wr (n := (i : Int) + 1) (by omega) (by omega)]
        refine go_keep [1, 5, 6, 8] [0, 10] ?_
        refine st_ ?_
        exact ih (f.nodes.length - (i + 1)) _ (by omega) ⟨i + 1, B, by omega, rfl, hB, hokB, hpl2, by simp⟩
    simp only [List.drop_succ_cons, List.drop_zero] at key
    refine x_draw rfl (by rw [hP]; kernel_rfl) rfl (by kernel_rfl) ?_
    refine runq 400 hty hnt ?_; refine st_ ?_
    refine go_qsplit rfl rfl (fun h1 => ?_) (fun h1 => ?_)
    · refine st_ ?_
      refine runq 400 hty hnt ?_; refine st_ ?_
      refine q_q (by rw [hnt]; rfl) (quiet_index (by rw [hty]; rfl) (by rw [hty]; rfl) rfl rfl rfl (by omega) (by omega)) ?_
      refine runq 400 hty hnt ?_; refine st_ ?_
      refine q_q (v := .int .i64 (pa A i)) (by rw [hnt]; rfl) ((quiet_loadR (k := 10) (by rw [hty]; rfl) rfl (by simp [TK.agg]) rfl (by simp [en_len]; omega)).cast (by exact ldA (by omega) (by simp))) ?_
      refine runq 400 hty hnt ?_; refine st_ ?_
      refine go_qsplit rfl rfl (fun h2 => ?_) (fun h2 => ?_) <;> (refine st_ ?_; (try (refine runq 400 hty hnt ?_; refine st_ ?_)))
      · (first | refine q_end ?_; refine rn_ ?_; intros | skip)
        refine rn_ ?_; intros
        refine x_retc rfl hQ hmb rfl (by rw [hty]; simp only [so, sq, zy, zz, tyE, SO', SQ', opQ, opStore, opAlloc, ev, putS, dOk, cv, SV.cs, SV.one, SV.bool?, eqB, Value.oneCell', ldOwn, binInt, binConst, binBool, binStr, isC, TK.agg, rv, rv1, ldV, resOne, resV, Nat.reduceAdd, Nat.reduceMul, Nat.reduceSub, Nat.reduceLT, Nat.reduceLeDiff, Nat.reduceEqDiff, Nat.reduceBEq, reduceIte, reduceCtorEq, eq_self]; try rfl) rfl ?_; simp only [SV.den, resV, dens]
        exact ret (if_pos (.inl ⟨by simpa using h1, by simpa using h2⟩))
      have hb1 : ¬ (0 < i ∧ pa A i < 0) := by simp at h2; omega
      refine q_q (by rw [hnt]; rfl) (quiet_index (by rw [hty]; rfl) (by rw [hty]; rfl) rfl rfl rfl (by omega) (by omega)) ?_
      refine runq 400 hty hnt ?_; refine st_ ?_
      refine q_q (v := .int .i64 (de A i)) (by rw [hnt]; rfl) ((quiet_loadR (k := 10) (by rw [hty]; rfl) rfl (by simp [TK.agg]) rfl (by simp [en_len]; omega)).cast (by exact ldB (by omega) (by simp))) ?_
      refine runq 400 hty hnt ?_; refine st_ ?_
      refine go_qsplit rfl rfl (fun h3 => ?_) (fun h3 => ?_) <;> (refine st_ ?_; (try (refine runq 400 hty hnt ?_; refine st_ ?_)))
      · (first | refine q_end ?_; refine rn_ ?_; intros | skip)
        refine rn_ ?_; intros
        refine x_retc rfl hQ hmb rfl (by rw [hty]; simp only [so, sq, zy, zz, tyE, SO', SQ', opQ, opStore, opAlloc, ev, putS, dOk, cv, SV.cs, SV.one, SV.bool?, eqB, Value.oneCell', ldOwn, binInt, binConst, binBool, binStr, isC, TK.agg, rv, rv1, ldV, resOne, resV, Nat.reduceAdd, Nat.reduceMul, Nat.reduceSub, Nat.reduceLT, Nat.reduceLeDiff, Nat.reduceEqDiff, Nat.reduceBEq, reduceIte, reduceCtorEq, eq_self]; try rfl) rfl ?_; simp only [SV.den, resV, dens]
        exact ret (if_pos (.inr (.inl (by simpa using h3))))
      refine q_callf (by rw [hnt]; rfl) (by rw [hP]; kernel_rfl) rfl (hP ▸ beneath_ok x.op x.l.length G (by omega)) ?_
      refine runq 400 hty hnt ?_; refine st_ ?_
      refine go_qsplit rfl rfl (fun h4 => ?_) (fun h4 => ?_) <;> (refine st_ ?_; (try (refine runq 400 hty hnt ?_; refine st_ ?_)))
      · (first | refine q_end ?_; refine rn_ ?_; intros | skip)
        refine rn_ ?_; intros
        refine x_retc rfl hQ hmb rfl (by rw [hty]; simp only [so, sq, zy, zz, tyE, SO', SQ', opQ, opStore, opAlloc, ev, putS, dOk, cv, SV.cs, SV.one, SV.bool?, eqB, Value.oneCell', ldOwn, binInt, binConst, binBool, binStr, isC, TK.agg, rv, rv1, ldV, resOne, resV, Nat.reduceAdd, Nat.reduceMul, Nat.reduceSub, Nat.reduceLT, Nat.reduceLeDiff, Nat.reduceEqDiff, Nat.reduceBEq, reduceIte, reduceCtorEq, eq_self]; try rfl) rfl ?_; simp only [SV.den, resV, dens]
        exact ret (if_pos (.inr (.inr (.inl (by simpa using h4)))))
      refine q_q (by rw [hnt]; rfl) (quiet_index (by rw [hty]; rfl) (by rw [hty]; rfl) rfl rfl rfl (by omega) (by omega)) ?_
      refine runq 400 hty hnt ?_; refine st_ ?_
      refine q_q (v := .int .i64 (de A i)) (by rw [hnt]; rfl) ((quiet_loadR (k := 10) (by rw [hty]; rfl) rfl (by simp [TK.agg]) rfl (by simp [en_len]; omega)).cast (by exact ldB (by omega) (by simp))) ?_
      refine runq 400 hty hnt ?_; refine st_ ?_
      refine q_callf (by rw [hnt]; rfl) (by rw [hP]; kernel_rfl) rfl (hP ▸ refnumber_ok x.op x.n (de A i) G) ?_
      refine runq 400 hty hnt ?_; refine st_ ?_
      refine q_end ?_; refine rn_ ?_; intros
      refine rn_ ?_; intros
      refine x_if rfl rfl rfl rfl (fun h5 => ?_) (fun h5 => ?_)
      · refine rn_ ?_; intros
        refine x_retc rfl hQ hmb rfl (by rw [hty]; simp only [so, sq, zy, zz, tyE, SO', SQ', opQ, opStore, opAlloc, ev, putS, dOk, cv, SV.cs, SV.one, SV.bool?, eqB, Value.oneCell', ldOwn, binInt, binConst, binBool, binStr, isC, TK.agg, rv, rv1, ldV, resOne, resV, Nat.reduceAdd, Nat.reduceMul, Nat.reduceSub, Nat.reduceLT, Nat.reduceLeDiff, Nat.reduceEqDiff, Nat.reduceBEq, reduceIte, reduceCtorEq, eq_self]; try rfl) rfl ?_; simp only [SV.den, resV, dens]
        exact ret (if_pos (.inr (.inr (.inr (by simpa using h5)))))
      refine x_skip rfl ?_
      refine go_keep [1, 5, 6, 8, 9, 10] [0, 10, 11] ?_
      refine st_ ?_
      exact key _ ⟨hb1, by simpa using h3, by simpa using h4, by simpa using h5, rfl⟩
    · refine st_ ?_
      refine runq 400 hty hnt ?_; refine st_ ?_
      have hb1 : ¬ (0 < i ∧ pa A i < 0) := by simp at h1; omega
      refine q_q (by rw [hnt]; rfl) (quiet_index (by rw [hty]; rfl) (by rw [hty]; rfl) rfl rfl rfl (by omega) (by omega)) ?_
      refine runq 400 hty hnt ?_; refine st_ ?_
      refine q_q (v := .int .i64 (de A i)) (by rw [hnt]; rfl) ((quiet_loadR (k := 10) (by rw [hty]; rfl) rfl (by simp [TK.agg]) rfl (by simp [en_len]; omega)).cast (by exact ldB (by omega) (by simp))) ?_
      refine runq 400 hty hnt ?_; refine st_ ?_
      refine go_qsplit rfl rfl (fun h3 => ?_) (fun h3 => ?_) <;> (refine st_ ?_; (try (refine runq 400 hty hnt ?_; refine st_ ?_)))
      · (first | refine q_end ?_; refine rn_ ?_; intros | skip)
        refine rn_ ?_; intros
        refine x_retc rfl hQ hmb rfl (by rw [hty]; simp only [so, sq, zy, zz, tyE, SO', SQ', opQ, opStore, opAlloc, ev, putS, dOk, cv, SV.cs, SV.one, SV.bool?, eqB, Value.oneCell', ldOwn, binInt, binConst, binBool, binStr, isC, TK.agg, rv, rv1, ldV, resOne, resV, Nat.reduceAdd, Nat.reduceMul, Nat.reduceSub, Nat.reduceLT, Nat.reduceLeDiff, Nat.reduceEqDiff, Nat.reduceBEq, reduceIte, reduceCtorEq, eq_self]; try rfl) rfl ?_; simp only [SV.den, resV, dens]
        exact ret (if_pos (.inr (.inl (by simpa using h3))))
      refine q_callf (by rw [hnt]; rfl) (by rw [hP]; kernel_rfl) rfl (hP ▸ beneath_ok x.op x.l.length G (by omega)) ?_
      refine runq 400 hty hnt ?_; refine st_ ?_
      refine go_qsplit rfl rfl (fun h4 => ?_) (fun h4 => ?_) <;> (refine st_ ?_; (try (refine runq 400 hty hnt ?_; refine st_ ?_)))
      · (first | refine q_end ?_; refine rn_ ?_; intros | skip)
        refine rn_ ?_; intros
        refine x_retc rfl hQ hmb rfl (by rw [hty]; simp only [so, sq, zy, zz, tyE, SO', SQ', opQ, opStore, opAlloc, ev, putS, dOk, cv, SV.cs, SV.one, SV.bool?, eqB, Value.oneCell', ldOwn, binInt, binConst, binBool, binStr, isC, TK.agg, rv, rv1, ldV, resOne, resV, Nat.reduceAdd, Nat.reduceMul, Nat.reduceSub, Nat.reduceLT, Nat.reduceLeDiff, Nat.reduceEqDiff, Nat.reduceBEq, reduceIte, reduceCtorEq, eq_self]; try rfl) rfl ?_; simp only [SV.den, resV, dens]
        exact ret (if_pos (.inr (.inr (.inl (by simpa using h4)))))
      refine q_q (by rw [hnt]; rfl) (quiet_index (by rw [hty]; rfl) (by rw [hty]; rfl) rfl rfl rfl (by omega) (by omega)) ?_
      refine runq 400 hty hnt ?_; refine st_ ?_
      refine q_q (v := .int .i64 (de A i)) (by rw [hnt]; rfl) ((quiet_loadR (k := 10) (by rw [hty]; rfl) rfl (by simp [TK.agg]) rfl (by simp [en_len]; omega)).cast (by exact ldB (by omega) (by simp))) ?_
      refine runq 400 hty hnt ?_; refine st_ ?_
      refine q_callf (by rw [hnt]; rfl) (by rw [hP]; kernel_rfl) rfl (hP ▸ refnumber_ok x.op x.n (de A i) G) ?_
      refine runq 400 hty hnt ?_; refine st_ ?_
      refine q_end ?_; refine rn_ ?_; intros
      refine rn_ ?_; intros
      refine x_if rfl rfl rfl rfl (fun h5 => ?_) (fun h5 => ?_)
      · refine rn_ ?_; intros
        refine x_retc rfl hQ hmb rfl (by rw [hty]; simp only [so, sq, zy, zz, tyE, SO', SQ', opQ, opStore, opAlloc, ev, putS, dOk, cv, SV.cs, SV.one, SV.bool?, eqB, Value.oneCell', ldOwn, binInt, binConst, binBool, binStr, isC, TK.agg, rv, rv1, ldV, resOne, resV, Nat.reduceAdd, Nat.reduceMul, Nat.reduceSub, Nat.reduceLT, Nat.reduceLeDiff, Nat.reduceEqDiff, Nat.reduceBEq, reduceIte, reduceCtorEq, eq_self]; try rfl) rfl ?_; simp only [SV.den, resV, dens]
        exact ret (if_pos (.inr (.inr (.inr (by simpa using h5)))))
      refine x_skip rfl ?_
      refine go_keep [1, 5, 6, 8, 9, 10] [0, 10, 11] ?_
      refine st_ ?_
      exact key _ ⟨hb1, by simpa using h3, by simpa using h4, by simpa using h5, rfl⟩
  · have hge : i = f.nodes.length := by simp at hil; omega
    subst hge
    clear ih
    simp only [List.drop_length, plGo] at hpl2
    refine go_pubL rP 10 (ts := A) rfl (by omega) (by simp [hA]) (by omega) (en_L hok) ?_
    rintro G3 ad1 cap1 (hle3 : Le G G3) hs1 hS1
    refine st_ ?_
    refine rn_ ?_; intros
    refine x_retc rfl hQ hmb rfl (by rw [hty]; simp only [so, sq, zy, zz, tyE, SO', SQ', opQ, opStore, opAlloc, ev, putS, dOk, cv, SV.cs, SV.one, SV.bool?, eqB, Value.oneCell', ldOwn, binInt, binConst, binBool, binStr, isC, TK.agg, rv, rv1, ldV, resOne, resV, Nat.reduceAdd, Nat.reduceMul, Nat.reduceSub, Nat.reduceLT, Nat.reduceLeDiff, Nat.reduceEqDiff, Nat.reduceBEq, reduceIte, reduceCtorEq, eq_self]; try rfl) rfl ?_; simp only [SV.den, resV, dens]
    show refR _ _ _
    simp only [refR, hpl2]
    rw [← hs1] at hS1
    exact ⟨_, rfl, hS1⟩
end Go.Proofs.Ytpopbkiphdcilaa
namespace Go.Proofs.Ytpopbkiphdcilaa
set_option linter.unusedSimpArgs false
set_option linter.unusedVariables false
open Go.Sx
set_option maxHeartbeats 4000000
def encII (L : List (Int × Int)) (k : Nat) (vs : List Value) (_ : Hp) : Prop := ∃ x, L[k]? = some x ∧ vs = [.int .i64 x.1, .int .i64 x.2]
theorem encII_mono (L : List (Int × Int)) : ∀ k vs G G', Le G G' → encII L k vs G → encII L k vs G' := fun _ _ _ _ _ h => h
theorem rI_at {G : Hp} {l : List Int} {ad : Option Addr} {n cap : Nat} (h : rI.S G l (.slice ad n cap)) {i : Nat} (hi : i < l.length) : ∃ b off, ad = some ⟨b, off, none⟩ ∧ At G b (off + i) [.int .i64 l[i]] := by
  obtain ⟨b, off, cap', c, hv, hat, rfl, _⟩ := Rp.S_get h hi
  cases hv
  exact ⟨b, off, rfl, by simpa [rI] using hat⟩
theorem calls1_ok (G : Hp) : Iter Try.prog 67 [] G (encII []) 0 := by
  intro lp A B hy
  refine enterZ ty tyok Try.func67 rfl Try.ntmps67 [.v (.func (.yield lp) #[] #[])] (by simp) ?_
  intro C Z M hP hQ hnt hty hmb hmh hro hG0; have hQp := qp_body hQ; refine st_ ?_
  refine rn_ ?_; intros
  refine go_endZ hQ hmb hmh hG0 rfl (by rw [hty]; simp only [so, sq, zy, zz, tyE, SO', SQ', opQ, opStore, opAlloc, ev, putS, dOk, cv, SV.cs, SV.one, SV.bool?, eqB, Value.oneCell', ldOwn, binInt, binConst, binBool, binStr, isC, TK.agg, rv, rv1, ldV, resOne, resV, Nat.reduceAdd, Nat.reduceMul, Nat.reduceSub, Nat.reduceLT, Nat.reduceLeDiff, Nat.reduceEqDiff, Nat.reduceBEq, reduceIte, reduceCtorEq, eq_self]; try rfl) rfl rfl ?_
  exact .inl rfl
theorem rP_at {G : Hp} {l : Pl} {ad : Option Addr} {n cap : Nat} (h : rP.S G l (.slice ad n cap)) {i : Nat} (hi : i < l.length) : ∃ b off, ad = some ⟨b, off, none⟩ ∧ At G b (off + i * 2) [.int .i64 l[i].1, .int .i64 l[i].2] := by
  obtain ⟨b, off, cap', c, hv, hat, rfl, _⟩ := Rp.S_get h hi
  cases hv
  exact ⟨b, off, rfl, by simpa [rP] using hat⟩
theorem calls2_ok (L : Pl) (b1 : Nat) (s1 : Value) (G : Hp) (h1 : At G b1 0 [s1]) (hS1 : rP.S G L s1) :
    Iter Try.prog 69 [.pointer (some ⟨b1, 0, none⟩)] G (encII L) L.length := by
  obtain ⟨ad1, cap1, rfl⟩ := Rp.S_slice hS1
  have h63 := Rp.S_len hS1
  intro lp A B hy
  refine enterZ ty tyok Try.func69 rfl Try.ntmps69 [.v (.func (.yield lp) #[] #[]), .v (.pointer (some ⟨b1, 0, none⟩))] (by simp) ?_
  intro C Z M hP hQ hnt hty hmb hmh hro hG0; have hQp := qp_body hQ; refine st_ ?_
  have hy' : YOk C.P lp A B (encII L) L.length := by rw [hP]; exact hy
  refine rn_ ?_; intros
  refine go_q (by rw [hnt]; rfl) (quiet_load (by rw [hty]; rfl) rfl (by simp [TK.agg]) h1 rfl) ?_; refine rn_ ?_; intros
  refine go_keep [0, 1, 5, 6, 7] [0] ?_
  refine st_ ?_
  refine x_loop rfl (fun q s => ∃ (k : Nat) (G' : Hp) (Z' M' : Nat → Prop), k ≤ L.length ∧ q = L.length - k ∧ Le G G' ∧
    s = ⟨[(0, .v (.func (.yield lp) #[] #[])), (1, .v (.pointer (some ⟨b1, 0, none⟩))), (5, .v (.slice ad1 L.length cap1)), (6, .v (.int .i64 L.length)), (7, .v (.int .i64 k))], [(0, 0, .z (lim (A k) Z C.w0.heap.size) Z' M')], G', []⟩)
    ⟨0, G, _, _, by omega, rfl, Le.refl _, rfl⟩ ?_
  rintro q s ⟨k, G1, Z1, M1, hk, hq, hle, rfl⟩ ih
  refine rn_ ?_; intros
  refine x_if rfl rfl rfl rfl (fun hjl => ?_) (fun hjl => ?_)
  · have hlt : k < L.length := by simp at hjl; omega
    obtain ⟨c1, o1, rfl, ha1⟩ := rP_at hS1 (i := k) hlt
    refine rn_ ?_; intros
    refine go_q (by rw [hnt]; rfl) (quiet_index (by rw [hty]; rfl) (by rw [hty]; rfl) rfl rfl rfl (by omega) (by omega)) ?_
    refine rn_ ?_; intros
    refine go_q (by rw [hnt]; rfl) (quiet_load (by rw [hty]; rfl) rfl (by simp [TK.agg]) (ha1.mono hle) rfl) ?_
    refine rn_ ?_; intros
    simp only [Int.reduceLT, Int.reduceLE, Int.le_refl, Int.cast_ofNat_Int, and_self, if_true, Int.reduceToNat, Nat.zero_mul, Nat.one_mul]; refine st_ ?_; refine rn_ ?_; intros
    refine go_yield 0 hy' (by rw [hnt]; rfl) rfl rfl rfl rfl hlt (⟨L[k], List.getElem?_eq_getElem hlt, rfl⟩) (fun Z2 M2 => ?_) (fun Z2 M2 => ?_)
    · refine rn_ ?_; intros
      rw [wr (n := (k : Int) + 1) (by omega) (by omega)]
      refine go_keep [0, 1, 5, 6, 7] [0] ?_
      refine st_ ?_
      exact ih (L.length - (k + 1)) _ (by omega) ⟨k + 1, G1, Z2, M2, by omega, rfl, hle, by simp⟩
    · refine rn_ ?_; intros
      refine x_retZ rfl hQ hmb hmh hG0 rfl (by rw [hty]; simp only [so, sq, zy, zz, tyE, SO', SQ', opQ, opStore, opAlloc, ev, putS, dOk, cv, SV.cs, SV.one, SV.bool?, eqB, Value.oneCell', ldOwn, binInt, binConst, binBool, binStr, isC, TK.agg, rv, rv1, ldV, resOne, resV, Nat.reduceAdd, Nat.reduceMul, Nat.reduceSub, Nat.reduceLT, Nat.reduceLeDiff, Nat.reduceEqDiff, Nat.reduceBEq, reduceIte, reduceCtorEq, eq_self]; try rfl) rfl rfl ?_
      exact .inr rfl
  · have hge : k = L.length := by simp at hjl; omega
    subst hge
    refine rn_ ?_; intros
    refine go_endZ hQ hmb hmh hG0 rfl (by rw [hty]; simp only [so, sq, zy, zz, tyE, SO', SQ', opQ, opStore, opAlloc, ev, putS, dOk, cv, SV.cs, SV.one, SV.bool?, eqB, Value.oneCell', ldOwn, binInt, binConst, binBool, binStr, isC, TK.agg, rv, rv1, ldV, resOne, resV, Nat.reduceAdd, Nat.reduceMul, Nat.reduceSub, Nat.reduceLT, Nat.reduceLeDiff, Nat.reduceEqDiff, Nat.reduceBEq, reduceIte, reduceCtorEq, eq_self]; try rfl) rfl rfl ?_
    exact .inl rfl
end Go.Proofs.Ytpopbkiphdcilaa
namespace Go.Proofs.Ytpopbkiphdcilaa
set_option linter.unusedSimpArgs false
set_option linter.unusedVariables false
open Go.Sx
set_option maxHeartbeats 4000000
def cals : List Nd → Nat → Pl
  | [], _ => []
  | x :: l, i => if nms x.op then ((i : Int), x.n) :: cals l (i + 1) else cals l (i + 1)
def calP (f : Fu) : Pl := match places f with
  | .inl _ => []
  | .inr _ => cals f.nodes 0
theorem cals_len : ∀ (l : List Nd) (i : Nat), (cals l i).length ≤ l.length
  | [], i => by simp [cals]
  | x :: l, i => by
    have := cals_len l (i + 1)
    simp only [cals]
    split <;> simp <;> omega
theorem en_app : ∀ (A B : Pl), en (A ++ B) = en A ++ en B := fun A B => by simp [en]
theorem calls_ok (f : Fu) (ns : Value) (G : Hp) (hp : isI64 f.params) (hns : rN.S G f.nodes ns) :
    Pure Try.prog 61 [.agg #[.int .i64 f.params, ns]] G (fun v G' => ∃ fn cap, v = .func (.func fn) #[] cap.toArray ∧ canCall Try.prog fn = true ∧ Iter Try.prog fn cap (diff G' G) (encII (calP f)) (calP f).length) := by
  have hns0 := hns
  obtain ⟨ad, cap, rfl⟩ := Rp.S_slice hns
  refine enterX ty tyok Try.func61 rfl Try.ntmps61 [.a [.v (.int .i64 f.params), .v (.slice ad f.nodes.length cap)]] (by simp) ?_
  intro C hP hQ hnt hty hmb hmh hro; have hQp := qp_body hQ; refine st_ ?_
  refine rn_ ?_; intros
  rename_i b1
  refine go_callf (by rw [hnt]; rfl) (by rw [hP]; kernel_rfl) rfl (hP ▸ check_ok f _ G hp hns0) ?_; refine rn_ ?_; intros
  cases hpl : places f with
  | inl i =>
    refine go_slot 8 (.b true) rfl (by simp [SV.den, whr, hpl]) ?_
    refine rn_ ?_; intros
    refine x_retc rfl hQ hmb rfl (by rw [hty]; simp only [so, sq, zy, zz, tyE, SO', SQ', opQ, opStore, opAlloc, ev, putS, dOk, cv, SV.cs, SV.one, SV.bool?, eqB, Value.oneCell', ldOwn, binInt, binConst, binBool, binStr, isC, TK.agg, rv, rv1, ldV, resOne, resV, Nat.reduceAdd, Nat.reduceMul, Nat.reduceSub, Nat.reduceLT, Nat.reduceLeDiff, Nat.reduceEqDiff, Nat.reduceBEq, reduceIte, reduceCtorEq, eq_self]; try rfl) rfl ?_; simp only [SV.den, resV, dens]
    refine ⟨_, [], rfl, by kernel_rfl, ?_⟩
    simp only [calP, hpl]
    exact calls1_ok _
  | inr A =>
    refine go_slot 8 (.b false) rfl (by simp [SV.den, whr, hpl]) ?_
    have hT := tree hpl
    have h200 := hT.n200
    have hcP : calP f = cals f.nodes 0 := by simp only [calP, hpl]
    refine rn_ ?_; intros
    rename_i b3
    refine go_nilrow 30 128 2 rfl (by omega) ?_
    refine go_keep [1, 3, 10, 11, 12] [0, 1, 30] ?_
    refine st_ ?_
    have hcl := cals_len f.nodes 0
    refine x_loop rfl (fun q s => ∃ (k : Nat) (ad3 : Option Addr) (cap3 : Nat) (P : Pl), k ≤ f.nodes.length ∧ q = f.nodes.length - k ∧ cals f.nodes 0 = P ++ cals (f.nodes.drop k) k ∧ okA P ∧
      s = ⟨[(1, .p 0 b1 0), (3, .p 1 b3 0), (10, .v (.slice ad f.nodes.length cap)), (11, .v (.int .i64 f.nodes.length)), (12, .v (.int .i64 k))],
        [(0, b1, .c 59 [.v (.int .i64 f.params), .v (.slice ad f.nodes.length cap)]), (1, b3, .c 126 [.v (.slice ad3 P.length cap3)]), (30, 0, .row (.slice ad3 P.length cap3) 128 2 P.length (en P))], G, []⟩) ⟨0, none, 0, [], by omega, rfl, by simp, fun x hx => by simp at hx, by simp [en]⟩ ?_
    rintro q s ⟨k, ad3, cap3, P, hk, hq, hcp, hokP, rfl⟩ ih
    refine rn_ ?_; intros
    refine x_if rfl rfl rfl rfl (fun hjl => ?_) (fun hjl => ?_)
    · have hlt : k < f.nodes.length := by simp at hjl; omega
      rw [List.drop_eq_getElem_cons hlt] at hcp
      simp only [cals] at hcp
      obtain ⟨bn, offn, capn, cn, hse, hatn, sl, rfl, hop, hnn, hsl⟩ := Rp.S_get hns0 hlt
      cases hse
      obtain ⟨h63', adl, capl, rfl, hsrc⟩ := hsl
      have hatn' : At G bn (offn + k * 3) [.int .i64 f.nodes[k].op, .int .i64 f.nodes[k].n, .slice adl f.nodes[k].l.length capl] := by simpa [rN] using hatn
      refine rn_ ?_; intros
      refine go_q (by rw [hnt]; rfl) (quiet_index (by rw [hty]; rfl) (by rw [hty]; rfl) rfl rfl rfl (by omega) (by omega)) ?_
      refine rn_ ?_; intros
      refine go_q (by rw [hnt]; rfl) (quiet_load (by rw [hty]; rfl) rfl (by simp [TK.agg]) hatn' rfl) ?_
      refine rn_ ?_; intros
      rename_i b5
      refine go_callf (by rw [hnt]; rfl) (by rw [hP]; kernel_rfl) rfl (hP ▸ names_ok f.nodes[k].op G) ?_; refine rn_ ?_; intros
      have hPl : P.length ≤ 200 := by have := congrArg List.length hcp; simp at this; omega
      refine x_split rfl rfl rfl (fun hnm => ?_) (fun hnm => ?_) <;> (refine st_ ?_; (refine ru_ ?_; intros))
      · rw [hnm, if_pos rfl] at hcp
        refine go_append 30 (by rw [hnt]; rfl) (by rw [hty]; rfl) (by rw [hty]; rfl) (by decide) rfl rfl rfl (by omega) rfl (src_own 2 rfl rfl) rfl (by simp [dens, SV.den, Value.oneCell']) (by omega) (by simp only []; omega) ?_
        intro v'
        refine go_rowS 30 rfl ?_
        rintro ad4 cap4 rfl
        refine rn_ ?_; intros
        rw [wr (n := (k : Int) + 1) (by omega) (by omega)]
        refine go_keep [1, 3, 10, 11, 12] [0, 1, 30] ?_
        refine st_ ?_
        exact ih (f.nodes.length - (k + 1)) _ (by omega) ⟨k + 1, ad4, cap4, P ++ [((k : Int), f.nodes[k].n)], by omega, rfl, by rw [hcp]; simp, fun x hx => by
          rcases List.mem_append.1 hx with hx | hx
          · exact hokP x hx
          · simp at hx; subst hx; exact ⟨by simp only [isI64]; omega, hnn⟩, by simp [dens, SV.den, en_app]; rfl⟩
      · rw [hnm, if_neg (by simp)] at hcp
        rw [wr (n := (k : Int) + 1) (by omega) (by omega)]
        refine go_keep [1, 3, 10, 11, 12] [0, 1, 30] ?_
        refine st_ ?_
        exact ih (f.nodes.length - (k + 1)) _ (by omega) ⟨k + 1, ad3, cap3, P, by omega, rfl, hcp, hokP, by simp⟩
    · have hge : k = f.nodes.length := by simp at hjl; omega
      subst hge
      clear ih
      simp only [List.drop_length, cals, List.append_nil] at hcp
      have hno : ∀ {G' : Hp} {g : Nat}, Le G G' → G' g = none → G g = none := fun {G' g} hl h => by
        cases hq : G g with
        | none => rfl
        | some o => have := hl _ _ hq; rw [h] at this; cases this
      refine go_new0 1 (g := b3) rfl rfl ?_
      intro (hn3 : G b3 = none)
      refine go_pub 1 rfl (by omega) ?_
      rintro G3 (hle3 : Le G G3) hG3
      refine go_slot 3 (.v (.pointer (some ⟨b3, 0, none⟩))) rfl rfl ?_
      refine st_ ?_
      have fin : ∀ (G4 : Hp), Le G3 G4 → rP.S (diff G4 G) (calP f) (.slice ad3 P.length cap3) → Iter Try.prog 69 [.pointer (some ⟨b3, 0, none⟩)] (diff G4 G) (encII (calP f)) (calP f).length := fun G4 hle4 hS =>
        calls2_ok (calP f) b3 _ (diff G4 G) (at_diff ((at_cells hG3).mono hle4) hn3) hS
      refine go_rowcases 30 rfl (fun hv h0 _ => ?_) (fun g3 capg hv hcv hxl => ?_)
      · have hP0 := List.length_eq_zero_iff.1 h0
        subst hP0
        simp only [List.length_nil] at hv ⊢
        cases hv
        refine rn_ ?_; intros
        refine x_retc rfl hQ hmb rfl (by rw [hty]; simp only [so, sq, zy, zz, tyE, SO', SQ', opQ, opStore, opAlloc, ev, putS, dOk, cv, SV.cs, SV.one, SV.bool?, eqB, Value.oneCell', ldOwn, binInt, binConst, binBool, binStr, isC, TK.agg, rv, rv1, ldV, resOne, resV, Nat.reduceAdd, Nat.reduceMul, Nat.reduceSub, Nat.reduceLT, Nat.reduceLeDiff, Nat.reduceEqDiff, Nat.reduceBEq, reduceIte, reduceCtorEq, eq_self]; try rfl) rfl ?_; simp only [SV.den, resV, dens]
        refine ⟨69, [.pointer (some ⟨b3, 0, none⟩)], by simp, by kernel_rfl, fin G3 (Le.refl _) ?_⟩
        rw [hcP, hcp]
        exact Rp.S_nil _ _
      · cases hv
        refine go_new0 30 (g := g3) rfl rfl ?_
        intro (hng : G3 g3 = none)
        refine go_pubrow 30 rfl (by omega) ?_
        rintro G4 (hle4 : Le G3 G4) hG4
        refine st_ ?_
        refine rn_ ?_; intros
        refine x_retc rfl hQ hmb rfl (by rw [hty]; simp only [so, sq, zy, zz, tyE, SO', SQ', opQ, opStore, opAlloc, ev, putS, dOk, cv, SV.cs, SV.one, SV.bool?, eqB, Value.oneCell', ldOwn, binInt, binConst, binBool, binStr, isC, TK.agg, rv, rv1, ldV, resOne, resV, Nat.reduceAdd, Nat.reduceMul, Nat.reduceSub, Nat.reduceLT, Nat.reduceLeDiff, Nat.reduceEqDiff, Nat.reduceBEq, reduceIte, reduceCtorEq, eq_self]; try rfl) rfl ?_; simp only [SV.den, resV, dens]
        refine ⟨69, [.pointer (some ⟨b3, 0, none⟩)], by simp, by kernel_rfl, fin G4 hle4 ?_⟩
        rw [hcP, hcp]
        exact ⟨by have := congrArg List.length hcp; omega, _, _, rfl, .inr ⟨_, _, _, rfl, at_diff hG4 (hno hle3 hng), en_L hokP⟩⟩
end Go.Proofs.Ytpopbkiphdcilaa
namespace Go.Proofs.Ytpopbkiphdcilaa
set_option linter.unusedSimpArgs false
set_option linter.unusedVariables false
open Go.Sx
set_option maxHeartbeats 4000000
theorem refwhere_ok (f : Fu) (ns : Value) (G : Hp) (hp : isI64 f.params) (hns : rN.S G f.nodes ns) : Pure Try.prog 52 [.agg #[.int .i64 f.params, ns]] G (fun r _ => r = .tuple #[.int .i64 (whr f).1, .int .i64 (whr f).2]) := by
  have hns0 := hns
  obtain ⟨ad, cap, rfl⟩ := Rp.S_slice hns
  refine enterX ty tyok Try.func52 rfl Try.ntmps52 [.a [.v (.int .i64 f.params), .v (.slice ad f.nodes.length cap)]] (by simp) ?_
  intro C hP hQ hnt hty hmb hmh hro; have hQp := qp_body hQ; refine st_ ?_
  refine rn_ ?_; intros
  refine go_call (by rw [hnt]; rfl) (by rw [hP]; kernel_rfl) rfl (hP ▸ places_ref f _ G hp hns0) ?_
  rintro v G1 (hle1 : Le G G1) hl
  simp only [refR] at hl
  cases hpl : places f with
  | inl i =>
    rw [hpl] at hl
    simp only at hl
    subst hl
    refine rn_ ?_; intros
    refine go_slot 13 (.b true) rfl (by simp [SV.den]) ?_; refine rn_ ?_; intros
    refine x_retc rfl hQ hmb rfl (by rw [hty]; simp only [so, sq, zy, zz, tyE, SO', SQ', opQ, opStore, opAlloc, ev, putS, dOk, cv, SV.cs, SV.one, SV.bool?, eqB, Value.oneCell', ldOwn, binInt, binConst, binBool, binStr, isC, TK.agg, rv, rv1, ldV, resOne, resV, Nat.reduceAdd, Nat.reduceMul, Nat.reduceSub, Nat.reduceLT, Nat.reduceLeDiff, Nat.reduceEqDiff, Nat.reduceBEq, reduceIte, reduceCtorEq, eq_self]; try rfl) rfl ?_; simp only [SV.den, resV, dens]
    simp [whr, hpl]
  | inr A =>
    rw [hpl] at hl
    obtain ⟨sl, rfl, hS⟩ := hl
    obtain ⟨ad1, cap1, rfl⟩ := Rp.S_slice hS
    refine rn_ ?_; intros
    refine go_slot 13 (.b false) rfl (by simp [SV.den]) ?_; refine rn_ ?_; intros
    refine x_retc rfl hQ hmb rfl (by rw [hty]; simp only [so, sq, zy, zz, tyE, SO', SQ', opQ, opStore, opAlloc, ev, putS, dOk, cv, SV.cs, SV.one, SV.bool?, eqB, Value.oneCell', ldOwn, binInt, binConst, binBool, binStr, isC, TK.agg, rv, rv1, ldV, resOne, resV, Nat.reduceAdd, Nat.reduceMul, Nat.reduceSub, Nat.reduceLT, Nat.reduceLeDiff, Nat.reduceEqDiff, Nat.reduceBEq, reduceIte, reduceCtorEq, eq_self]; try rfl) rfl ?_; simp only [SV.den, resV, dens]
    simp [whr, hpl]
end Go.Proofs.Ytpopbkiphdcilaa
namespace Go.Proofs.Ytpopbkiphdcilaa
set_option linter.unusedSimpArgs false
set_option linter.unusedVariables false
open Go.Sx

abbrev Pr := List Fu
def fuD : Fu := ⟨0, []⟩
def rF : Rp Fu where
  size := 2
  e G x cs := ∃ ns, cs = [.int .i64 x.params, ns] ∧ isI64 x.params ∧ rN.S G x.nodes ns
  mono hl h := by obtain ⟨ns, h1, h2, h3⟩ := h; exact ⟨ns, h1, h2, Rp.S_mono hl h3⟩
  len h := by obtain ⟨ns, rfl, _⟩ := h; rfl
  one h u hu := by
    obtain ⟨ns, rfl, _, h3⟩ := h
    obtain ⟨ad, cap, rfl⟩ := Rp.S_slice h3
    simp at hu
    rcases hu with rfl | rfl <;> rfl
def fu (p : Pr) (i : Nat) : Fu := p.getD i fuD
theorem fu_eq {p : Pr} {i : Nat} (h : i < p.length) : fu p i = p[i] := by simp [fu, h]

def fits (x : Nd) (m : Int) : Bool := if x.op = 23 then m == IntKind.i64.wrap ((x.l.length : Int) + 1) else m == (x.l.length : Int)
def misB (p : Pr) (f : Fu) (x : Int × Int) : Bool := decide ((p.length : Int) ≤ x.2) || !fits (nd f x.1.toNat) (fu p x.2.toNat).params
def misL (p : Pr) (f : Fu) : Pl → Option Int
  | [] => none
  | x :: l => if misB p f x then some x.1 else misL p f l
def misR (o : Option Int) : Value := match o with
  | some i => .tuple #[.int .i64 i, .bool true]
  | none => .tuple #[.int .i64 0, .bool false]

theorem cals_get : ∀ {l : List Nd} {i k : Nat} {x : Int × Int}, (cals l i)[k]? = some x → ∃ m, ∃ h : m < l.length, x = (((i + m : Nat) : Int), l[m].n) ∧ nms l[m].op = true
  | [], i, k, x, h => by simp [cals] at h
  | y :: l, i, k, x, h => by
    simp only [cals] at h
    split at h
    · rename_i hy
      cases k with
      | zero => simp at h; subst h; exact ⟨0, by simp, by simp, hy⟩
      | succ k =>
        simp at h
        obtain ⟨m, hm, h1, h2⟩ := cals_get h
        exact ⟨m + 1, by simp; omega, by rw [h1]; simp; omega, by simpa using h2⟩
    · obtain ⟨m, hm, h1, h2⟩ := cals_get h
      exact ⟨m + 1, by simp; omega, by rw [h1]; simp; omega, by simpa using h2⟩
theorem nmb_nms {op n d : Int} (h : nms op = true) (hb : nmb op n d = true) : 0 ≤ n ∧ n ≤ 63 := by
  have h13 : op ≠ 1 ∧ op ≠ 3 := by constructor <;> (rintro rfl; simp [nms] at h)
  simp only [nmb, h13.1, h13.2, if_false, h, if_true, Bool.and_eq_true, decide_eq_true_eq] at hb
  exact hb
theorem calP_get {f : Fu} {k : Nat} {x : Int × Int} (h : (calP f)[k]? = some x) : ∃ m, ∃ h : m < f.nodes.length, x = ((m : Int), f.nodes[m].n) ∧ nms f.nodes[m].op = true ∧ 0 ≤ f.nodes[m].n ∧ f.nodes[m].n ≤ 63 := by
  simp only [calP] at h
  cases hp : places f with
  | inl i => rw [hp] at h; simp at h
  | inr A =>
    rw [hp] at h
    obtain ⟨m, hm, h1, h2⟩ := cals_get h
    have h3 := ((tree hp).ok m hm).2.2
    rw [nd_eq hm] at h3
    exact ⟨m, hm, by simpa using h1, h2, nmb_nms h2 h3⟩

set_option maxHeartbeats 4000000
theorem fits_ok (x : Nd) (sl : Value) (m : Int) (G : Hp) (hr : rI.S G x.l sl) : Pure Try.prog 62 [.agg #[.int .i64 x.op, .int .i64 x.n, sl], .int .i64 m] G (fun r _ => r = .bool (fits x m)) := by
  have hl := Rp.S_len hr
  obtain ⟨ad, cap, rfl⟩ := Rp.S_slice hr
  refine enterX ty tyok Try.func62 rfl Try.ntmps62 [.a [.v (.int .i64 x.op), .v (.int .i64 x.n), .v _], .v (.int .i64 m)] (by simp) ?_
  intro C hP hQ hnt hty hmb hmh hro; have hQp := qp_body hQ; refine st_ ?_
  refine rn_ ?_; intros
  refine x_split rfl rfl rfl (fun h1 => ?_) (fun h1 => ?_) <;> (refine st_ ?_; (refine ru_ ?_; intros))
  · refine x_retc rfl hQ hmb rfl (by rw [hty]; simp only [so, sq, zy, zz, tyE, SO', SQ', opQ, opStore, opAlloc, ev, putS, dOk, cv, SV.cs, SV.one, SV.bool?, eqB, Value.oneCell', ldOwn, binInt, binConst, binBool, binStr, isC, TK.agg, rv, rv1, ldV, resOne, resV, Nat.reduceAdd, Nat.reduceMul, Nat.reduceSub, Nat.reduceLT, Nat.reduceLeDiff, Nat.reduceEqDiff, Nat.reduceBEq, reduceIte, reduceCtorEq, eq_self]; try rfl) rfl ?_; simp only [SV.den, resV, dens]
    simp only [fits, show x.op = 23 by simpa using h1, if_true]
  · refine x_retc rfl hQ hmb rfl (by rw [hty]; simp only [so, sq, zy, zz, tyE, SO', SQ', opQ, opStore, opAlloc, ev, putS, dOk, cv, SV.cs, SV.one, SV.bool?, eqB, Value.oneCell', ldOwn, binInt, binConst, binBool, binStr, isC, TK.agg, rv, rv1, ldV, resOne, resV, Nat.reduceAdd, Nat.reduceMul, Nat.reduceSub, Nat.reduceLT, Nat.reduceLeDiff, Nat.reduceEqDiff, Nat.reduceBEq, reduceIte, reduceCtorEq, eq_self]; try rfl) rfl ?_; simp only [SV.den, resV, dens]
    simp only [fits, show ¬ x.op = 23 by simpa using h1, if_false]

theorem misL_drop {p : Pr} {f : Fu} {L : Pl} {k : Nat} {x : Int × Int} (h : L[k]? = some x) : misL p f (L.drop k) = if misB p f x then some x.1 else misL p f (L.drop (k + 1)) := by
  obtain ⟨hk, e⟩ := List.getElem?_eq_some_iff.1 h
  rw [List.drop_eq_getElem_cons hk, e]
  rfl
theorem rF_at {G : Hp} {p : Pr} {ad : Option Addr} {n cap : Nat} (h : rF.S G p (.slice ad n cap)) {i : Nat} (hi : i < p.length) : ∃ b off ns, ad = some ⟨b, off, none⟩ ∧ At G b (off + i * 2) [.int .i64 (fu p i).params, ns] ∧ isI64 (fu p i).params ∧ rN.S G (fu p i).nodes ns := by
  obtain ⟨b, off, cap', c, hv, ha, ns, rfl, h1, h2⟩ := Rp.S_get h hi
  cases hv
  rw [fu_eq hi]
  exact ⟨b, off, ns, rfl, ha, h1, h2⟩
theorem misnames_ok (p : Pr) (f : Fu) (ps ns : Value) (G : Hp) (hps : rF.S G p ps) (hp : isI64 f.params) (hns : rN.S G f.nodes ns) :
    Pure Try.prog 48 [.agg #[ps], .agg #[.int .i64 f.params, ns]] G (fun r _ => r = misR (misL p f (calP f))) := by
  have hps0 := hps
  have hns0 := hns
  have hn63 := Rp.S_len hns
  obtain ⟨ad, cap, rfl⟩ := Rp.S_slice hns
  obtain ⟨adp, capp, rfl⟩ := Rp.S_slice hps
  refine enterM ty tyok Try.func48 rfl Try.ntmps48 [.a [.v (.slice adp p.length capp)], .a [.v (.int .i64 f.params), .v (.slice ad f.nodes.length cap)]] (by simp) ?_
  intro C hP hQ hnt hty hmb hmh hro; have hQp := qp_bodyM hQ; refine st_ ?_
  refine rn_ ?_; intros
  rename_i b1 b2 b3 b4
  refine go_marks 20 rfl (by omega) ?_
  refine st_ ?_
  refine go_call (by rw [hnt]; rfl) (by rw [hP]; kernel_rfl) rfl (hP ▸ calls_ok f _ G hp hns0) ?_
  rintro v G1 (hle1 : Le G G1) ⟨fn, cp, rfl, hfc, hit⟩
  replace hit := hit.mono (diff_le G1 G)
  refine rn_ ?_; intros
  refine go_keep [2, 3, 4, 5, 9] [0, 1, 2, 3, 20] ?_
  refine st_ ?_
  have hps1 := Rp.S_mono hle1 hps0
  have hns1 := Rp.S_mono hle1 hns0
  refine x_range 20 rfl rfl (ps := #[10, 11]) rfl hro hmh rfl rfl hfc (by rw [hnt]; decide) hit (encII_mono _) (fun _ _ _ h => by obtain ⟨_, _, rfl⟩ := h; rfl)
    (fun k own => misL p f (calP f) = misL p f ((calP f).drop k) ∧ own = [(0, b1, .c 24 [.v (.slice adp p.length capp)]), (1, b2, .c 59 [.v (.int .i64 f.params), .v (.slice ad f.nodes.length cap)]), (2, b3, .c 3 [.v (.int .i64 0)]), (3, b4, .c 4 [.v (.bool false)]), (20, 0, dzO [])])
    (fun c own => ∃ i : Int, c = .ret ∧ misL p f (calP f) = some i ∧ own = [(0, b1, .c 24 [.v (.slice adp p.length capp)]), (1, b2, .c 59 [.v (.int .i64 f.params), .v (.slice ad f.nodes.length cap)]), (2, b3, .c 3 [.v (.int .i64 i)]), (3, b4, .c 4 [.b true]), (20, 0, dzO [])])
    (fun i own h => by obtain ⟨_, rfl⟩ := h; exact ⟨keys_lt rfl, (by repeat (first | exact plain_nil | refine plain_cons (fun _ h => h) ?_)), rfl⟩) (fun _ _ h => by obtain ⟨i, _, _, rfl⟩ := h; exact ⟨(by repeat (first | exact plain_nil | refine plain_cons (fun _ h => h) ?_)), rfl⟩) ⟨by simp, rfl⟩ ?_ ?_ ?_
  · rintro C' C0 k own vs G7 lp D r hiN ⟨hk0, rfl⟩ (hle7 : Le G1 G7) ⟨x, hLk, rfl⟩ hR
    have hdr := misL_drop (p := p) (f := f) hLk
    obtain ⟨m, hm, rfl, hnm, h0, h63⟩ := calP_get hLk
    have hps7 := Rp.S_mono hle7 hps1
    obtain ⟨bn, offn, capn, cn, hse, hatn, sl, rfl, hop, hnn, hsl⟩ := Rp.S_get (Rp.S_mono hle7 hns1) hm
    cases hse
    have hnt2 := hR.nt.trans hnt; have hty2 := hR.ty.trans hty; have hP2 := hR.P.trans hP; clear hQ hQp hnt hty hP hmh hmb hro; have hnt := hnt2; have hty := hty2; have hP := hP2; have hmh := hR.mh; have hQp := hR.qp; simp only [putsS, List.toList_toArray]; refine st_ ?_
    refine rn_ ?_; intros
    refine go_br rfl hR.ready ?_
    refine st_ ?_
    refine rn_ ?_; intros
    refine x_draw rfl (by rw [hP]; kernel_rfl) rfl (by kernel_rfl) ?_
    refine runq 400 hty hnt ?_; refine st_ ?_
    obtain ⟨t, ht⟩ : ∃ t : Nat, f.nodes[m].n = t := ⟨f.nodes[m].n.toNat, by omega⟩
    simp only [ht] at hdr ⊢
    refine go_qsplit rfl rfl (fun hge => ?_) (fun hge => ?_) <;> (refine st_ ?_; (try (refine runq 400 hty hnt ?_; refine st_ ?_)))
    · have hb : misB p f ((m : Int), (t : Int)) = true := by simp at hge; simp [misB, hge]
      rw [if_pos hb] at hdr
      refine q_end ?_; refine rn_ ?_; intros
      refine x_rret rfl hR rfl rfl ?_
      exact ⟨m, rfl, by rw [hk0, hdr], rfl⟩
    · have htl : t < p.length := by simp at hge; omega
      obtain ⟨bp, op, nsp, rfl, hatp, hpp, hnp⟩ := rF_at hps7 htl
      have hatp0 : At G7 bp (op + t * 2) [.int .i64 (fu p t).params] := by simpa using hatp.sub 0 1 (by simp)
      refine q_q (by rw [hnt]; rfl) (quiet_index (by rw [hty]; rfl) (by rw [hty]; rfl) rfl rfl rfl (by omega) (by omega)) ?_; refine runq 400 hty hnt ?_; refine st_ ?_
      refine q_q (by rw [hnt]; rfl) (quiet_load (by rw [hty]; rfl) rfl (by simp [TK.agg]) (by simpa [rN] using hatn) rfl) ?_
      refine runq 400 hty hnt ?_; refine st_ ?_
      refine q_q (by rw [hnt]; rfl) (quiet_index (by rw [hty]; rfl) (by rw [hty]; rfl) rfl rfl rfl (by omega) (by omega)) ?_; refine runq 400 hty hnt ?_; refine st_ ?_
      refine q_q (by rw [hnt]; rfl) (quiet_load (by rw [hty]; rfl) rfl (by simp [TK.agg]) (by simpa using hatp0) rfl) ?_
      refine runq 400 hty hnt ?_; refine st_ ?_
      refine q_callf (by rw [hnt]; rfl) (by rw [hP]; kernel_rfl) rfl (hP ▸ fits_ok f.nodes[m] sl (fu p t).params G7 hsl) ?_; refine runq 400 hty hnt ?_; refine st_ ?_
      refine q_end ?_; refine rn_ ?_; intros
      have hmb : misB p f ((m : Int), (t : Int)) = !fits f.nodes[m] (fu p t).params := by
        simp only [misB, Int.toNat_natCast, nd_eq hm]
        rw [decide_eq_false (by omega), Bool.false_or]
      refine x_split rfl rfl rfl (fun hf => ?_) (fun hf => ?_) <;> (refine st_ ?_; (refine ru_ ?_; intros))
      · rw [hmb, if_pos hf] at hdr
        refine x_rret rfl hR rfl rfl ?_
        exact ⟨m, rfl, by rw [hk0, hdr], rfl⟩
      · rw [hmb, hf] at hdr
        refine go_rend hR rfl rfl ?_
        exact ⟨by rw [hk0, hdr]; rfl, rfl⟩
  · rintro D own G7 ⟨hk0, rfl⟩ (hle7 : Le G1 G7)
    rw [List.drop_length] at hk0
    refine st_ ?_
    refine rn_ ?_; intros
    refine x_retM 20 rfl hQ hmb rfl rfl rfl (by rw [hty]; simp only [so, sq, zy, zz, tyE, SO', SQ', opQ, opStore, opAlloc, ev, putS, dOk, cv, SV.cs, SV.one, SV.bool?, eqB, Value.oneCell', ldOwn, binInt, binConst, binBool, binStr, isC, TK.agg, rv, rv1, ldV, resOne, resV, Nat.reduceAdd, Nat.reduceMul, Nat.reduceSub, Nat.reduceLT, Nat.reduceLeDiff, Nat.reduceEqDiff, Nat.reduceBEq, reduceIte, reduceCtorEq, eq_self]; try rfl) ?_; simp only [SV.den, resV, dens]
    rw [hk0]; rfl
  · rintro D c own G7 ⟨i, rfl, hi, rfl⟩ (hle7 : Le G1 G7)
    refine st_ ?_
    refine rn_ ?_; intros
    refine x_retM 20 rfl hQ hmb rfl rfl rfl (by rw [hty]; simp only [so, sq, zy, zz, tyE, SO', SQ', opQ, opStore, opAlloc, ev, putS, dOk, cv, SV.cs, SV.one, SV.bool?, eqB, Value.oneCell', ldOwn, binInt, binConst, binBool, binStr, isC, TK.agg, rv, rv1, ldV, resOne, resV, Nat.reduceAdd, Nat.reduceMul, Nat.reduceSub, Nat.reduceLT, Nat.reduceLeDiff, Nat.reduceEqDiff, Nat.reduceBEq, reduceIte, reduceCtorEq, eq_self]; try rfl) ?_; simp only [SV.den, resV, dens]
    rw [hi]; rfl
end Go.Proofs.Ytpopbkiphdcilaa
