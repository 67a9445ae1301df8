/-
  A symbolic walk over the model's code: the operations. Generic: names no program.
-/
import Derived.Test.YtimoldnagdlbcaaSxA
namespace Go.Sx
set_option linter.unusedSimpArgs false
set_option linter.unusedVariables false
open Go.RowKit

/-! ### Small laws of the model -/

theorem add_none (b off n : Nat) : Addr.add ⟨b, off, none⟩ n = ⟨b, off + n, none⟩ := by
  unfold Addr.add
  split
  · rename_i h; subst h; rfl
  · rfl

section
variable {P : Program} {T : TypeId} {i : TI} (w : World)
theorem run_und {d : TypeDesc} (h : P.underlying T = some d) : (underlying T).run P w = .ok d w := by
  simp [underlying, h]
theorem run_size (h : i.ok P T) : (sizeOf T).run P w = .ok i.size w := by
  obtain ⟨x, z, h1, h2, -⟩ := h.info
  simp [sizeOf, typeInfo, h1, h2]
theorem run_isAgg (h : i.ok P T) : (isAgg T).run P w = .ok i.k.agg w := by
  obtain ⟨d, h1, h2⟩ := h.agg
  rw [← h2]
  simp only [isAgg, Sem.run_bind, run_und w h1, Result.andThen_ok]
  cases d <;> simp [descAgg]
theorem run_zero (h : i.ok P T) : ∃ z, (zeroValue T).run P w = .ok z w ∧ z.cells = i.zero.toArray := by
  obtain ⟨x, z, h1, h2, h3, h4, h5⟩ := h.info
  exact ⟨z, by simp [zeroValue, typeInfo, h1, h4], h5⟩
theorem run_bytes (h : i.ok P T) : ∃ x, (typeInfo T).run P w = .ok x w ∧ x.bytes = i.bytes := by
  obtain ⟨x, z, h1, h2, h3, h4, h5⟩ := h.info
  exact ⟨x, by simp [typeInfo, h1], h3⟩
end

theorem cell_at {w : World} {b : Nat} {arr : Array Value} {e : TypeId} {fz : Nat × Nat} (h : w.heap[b]? = some (.cells arr e fz)) (off : Nat) :
    w.cell? ⟨b, off, none⟩ = arr[off]? := by
  simp [World.cell?, h]

theorem run_loadCells {P : Program} {w : World} {b : Nat} {arr : Array Value} {e : TypeId} {fz : Nat × Nat} (h : w.heap[b]? = some (.cells arr e fz)) (off : Nat) :
    ∀ (n i : Nat) (acc : Array Value), off + i + n ≤ arr.size → (loadCellsFrom ⟨b, off, none⟩ i n acc).run P w = .ok (acc ++ arr.extract (off + i) (off + i + n)) w
  | 0, i, acc, _ => by simp [loadCellsFrom]; omega
  | n + 1, i, acc, hn => by
    have hc : w.cell? ⟨b, off + i, none⟩ = some arr[off + i] := by rw [cell_at h]; simp
    simp only [loadCellsFrom, Sem.run_bind, run_load, add_none, hc, Result.andThen_ok]
    rw [run_loadCells h off n (i + 1) _ (by omega)]
    congr 1
    apply Array.ext'
    simp only [Array.toList_append, Array.toList_push, Array.toList_extract, List.append_assoc]
    congr 1
    rw [List.extract_eq_take_drop, List.extract_eq_take_drop, show off + i + (n + 1) - (off + i) = n + 1 by omega, show off + (i + 1) + n - (off + (i + 1)) = n by omega]
    rw [List.drop_eq_getElem_cons (i := off + i) (by simp; omega), List.take_succ_cons]
    simp [Nat.add_assoc]

/-- Put an object into a block. -/
def setBlk (w : World) (b : Nat) (o : Obj) : World := { w with heap := w.heap.setIfInBounds b o }
theorem setBlk_same {w : World} {b : Nat} (h : b < w.heap.size) (o : Obj) : (setBlk w b o).heap[b]? = some o := by
  simp [setBlk, h]
theorem setBlk_ne {w : World} {b k : Nat} (h : k ≠ b) (o : Obj) : (setBlk w b o).heap[k]? = w.heap[k]? := by
  simp [setBlk, Array.getElem?_setIfInBounds_ne (Ne.symm h)]
theorem setBlk_size (w : World) (b : Nat) (o : Obj) : (setBlk w b o).heap.size = w.heap.size := by simp [setBlk]
theorem setBlk_setBlk (w : World) (b : Nat) (o o' : Obj) : setBlk (setBlk w b o) b o' = setBlk w b o' := by
  simp [setBlk]
theorem setBlk_self {w : World} {b : Nat} {o : Obj} (h : w.heap[b]? = some o) : setBlk w b o = w := by
  have : w.heap.setIfInBounds b o = w.heap := by
    apply Array.ext_getElem?
    intro i
    by_cases hi : i = b
    · subst hi; rw [Array.getElem?_setIfInBounds_self_of_lt (lt_of_heap h), h]
    · rw [Array.getElem?_setIfInBounds_ne (Ne.symm hi)]
  simp [setBlk, this]

theorem setCell_eq {w : World} {b : Nat} {arr : Array Value} {e : TypeId} {fz : Nat × Nat} (h : w.heap[b]? = some (.cells arr e fz)) (off : Nat) (v : Value) :
    w.setCell ⟨b, off, none⟩ v = setBlk w b (.cells (arr.setIfInBounds off v) e fz) := by
  have : (w.setCell ⟨b, off, none⟩ v).heap = (setBlk w b (.cells (arr.setIfInBounds off v) e fz)).heap := by
    apply Array.ext_getElem?
    intro i
    simp only [World.setCell, setBlk]
    rw [Array.getElem?_modify]
    by_cases hi : i = b
    · subst hi; rw [if_pos rfl, h, Array.getElem?_setIfInBounds_self_of_lt (lt_of_heap h)]; simp
    · rw [if_neg (Ne.symm hi), Array.getElem?_setIfInBounds_ne (Ne.symm hi)]
  have e1 : w.setCell ⟨b, off, none⟩ v = { w with heap := (w.setCell ⟨b, off, none⟩ v).heap } := rfl
  rw [e1, this]
  rfl

/-- Lay values over a list, from a place on. -/
def lay {α : Type} : List α → Nat → List α → Option (List α)
  | l, _, [] => some l
  | [], _, _ :: _ => none
  | _ :: l, 0, v :: vs => (lay l 0 vs).map (v :: ·)
  | x :: l, n + 1, v :: vs => (lay l n (v :: vs)).map (x :: ·)

theorem lay_map {α β : Type} (g : α → β) : ∀ (l : List α) (n : Nat) (vs l' : List α), lay l n vs = some l' → lay (l.map g) n (vs.map g) = some (l'.map g)
  | l, n, [], l', h => by
    cases l <;> cases n <;> simp [lay] at h <;> subst h <;> simp [lay]
  | [], n, v :: vs, l', h => by cases n <;> simp [lay] at h
  | x :: l, 0, v :: vs, l', h => by
    simp only [lay, Option.map_eq_some_iff] at h
    obtain ⟨r, h1, rfl⟩ := h
    simp [lay, lay_map g l 0 vs r h1]
  | x :: l, n + 1, v :: vs, l', h => by
    simp only [lay, Option.map_eq_some_iff] at h
    obtain ⟨r, h1, rfl⟩ := h
    have := lay_map g l n (v :: vs) r h1
    simp only [List.map_cons] at this
    simp [lay, this]

theorem lay_step {α : Type} : ∀ (l : List α) (n : Nat) (v : α) (vs l' : List α), lay l n (v :: vs) = some l' → n < l.length ∧ lay (l.set n v) (n + 1) vs = some l'
  | [], n, v, vs, l', h => by cases n <;> simp [lay] at h
  | x :: l, 0, v, vs, l', h => by
    simp only [lay, Option.map_eq_some_iff] at h
    obtain ⟨r, h1, rfl⟩ := h
    refine ⟨by simp, ?_⟩
    cases vs with
    | nil => cases l <;> simp [lay] at h1 ⊢ <;> exact h1
    | cons u us => simp [lay, h1]
  | x :: l, n + 1, v, vs, l', h => by
    simp only [lay, Option.map_eq_some_iff] at h
    obtain ⟨r, h1, rfl⟩ := h
    obtain ⟨h2, h3⟩ := lay_step l n v vs r h1
    refine ⟨by simp; omega, ?_⟩
    cases vs with
    | nil =>
      have : l.set n v = r := by
        cases hl : l.set n v <;> rw [hl] at h3 <;> simp [lay] at h3 <;> simp [h3]
      simp [lay, this]
    | cons u us => simp [lay, h3]

theorem run_storeCells {P : Program} {b off : Nat} {e : TypeId} : ∀ (vs : List Value) (i : Nat) (w : World) (l l' : List Value),
    w.heap[b]? = some (.cells l.toArray e) → (∀ v ∈ vs, v.oneCell' = true) → lay l (off + i) vs = some l' →
    (storeCells ⟨b, off, none⟩ vs i).run P w = .ok () (setBlk w b (.cells l'.toArray e))
  | [], i, w, l, l', h, _, hl => by
    have : l = l' := by cases l <;> cases hoi : off + i <;> rw [hoi] at hl <;> simp [lay] at hl <;> simp [hl]
    subst this
    simp [storeCells, setBlk_self h]
  | v :: vs, i, w, l, l', h, hv, hl => by
    obtain ⟨h1, h2⟩ := lay_step l (off + i) v vs l' hl
    have hc : w.cell? ⟨b, off + i, none⟩ = some l[off + i] := by rw [cell_at h]; simp [h1]
    have hf : w.frozen? ⟨b, off + i, none⟩ = false := by simp [World.frozen?, h]
    have hset := setCell_eq h (off + i) v
    simp only [List.setIfInBounds_toArray] at hset
    simp only [storeCells, Sem.run_bind, run_store P w _ v _ (hv v (by simp)), add_none, hc, hf, Bool.false_eq_true, if_false, Result.andThen_ok, hset]
    rw [run_storeCells vs (i + 1) _ (l.set (off + i) v) l' (setBlk_same (lt_of_heap h) _) (fun u hu => hv u (by simp [hu])) (by rw [← Nat.add_assoc]; exact h2)]
    rw [setBlk_setBlk]

/-! ### Memory of the call's own -/

theorem Mem.ltm {C : Ctx} {own : List (Nat × Nat × OO)} {G : Hp} {w : World} (h : Mem C own G w) {k b g : Nat} {o : OO} (hk : lk k own = some (b, o)) (hg : o.mut b g) : g < w.heap.size :=
  OO.holds_lt (h.own _ _ _ hk).1 (OO.mut_blks (h.own _ _ _ hk).1 hg)
theorem Mem.lt {C : Ctx} {own : List (Nat × Nat × OO)} {G : Hp} {w : World} (h : Mem C own G w) {k b g : Nat} {o : OO} (hk : lk k own = some (b, o)) (hg : o.blks b g) : g < w.heap.size :=
  OO.holds_lt (h.own _ _ _ hk).1 hg

/-- One thing of the call's own is written: its block g alone has turned. -/
theorem Mem.put {C : Ctx} {own : List (Nat × Nat × OO)} {G : Hp} {w w' : World} (h : Mem C own G w) {k b : Nat} {o : OO} (hk : lk k own = some (b, o)) {b' : Nat} {o' : OO}
    (hos : w'.os = w.os) (htape : w'.tape = w.tape) (hout : w'.output = w.output) (hsize : w.heap.size ≤ w'.heap.size)
    (hsame : ∀ j, j < w.heap.size → ¬ o.mut b j → w'.heap[j]? = w.heap[j]?)
    (hh : o'.holds C.w0.heap.size w' b') (hb : ∀ g, (o'.blks b' g → o.blks b g ∨ w.heap.size ≤ g) ∧ (o'.mut b' g → o.mut b g ∨ w.heap.size ≤ g)) :
    Mem C (stk k (b', o') own) G w' := by
  obtain ⟨g1, g2⟩ := h.own _ _ _ hk
  have hGn : ∀ g, o'.mut b' g → G g = none ∧ (C.mh ≤ k → C.w0.heap.size ≤ g) ∧ (k < C.mh → g ∈ C.mb ∨ C.w0.heap.size ≤ g) := by
    intro g hg
    rcases (hb g).2 hg with q | q
    · exact g2 g q
    · refine ⟨?_, fun _ => Nat.le_trans h.grow.size q, fun q2 => .inr (Nat.le_trans h.grow.size q)⟩
      cases hG : G g with
      | none => rfl
      | some x => have := lt_of_heap (h.grow.has _ _ hG); omega
  refine ⟨fun j c x e => ?_, fun j j' c c' x x' g e e' f f' => ?_, ?_⟩
  · rw [lk_stk] at e
    split at e
    · rename_i hj; subst hj; cases e; exact ⟨hh, hGn⟩
    · rename_i hj
      obtain ⟨f1, f2⟩ := h.own _ _ _ e
      refine ⟨OO.holds_same f1 ⟨hos, htape, hout, hsize⟩ fun g hg => ?_, f2⟩
      refine hsame g (h.lt e hg) fun q => hj (h.inj _ _ _ _ _ _ g e hk hg (OO.mut_blks g1 q))
  · have key : ∀ {j c x}, lk j own = some (c, x) → x.blks c g → o'.blks b' g → j = k := by
      intro j c x e f f'
      rcases (hb g).1 f' with q | q
      · exact h.inj _ _ _ _ _ _ g e hk f q
      · have := h.lt e f; omega
    rw [lk_stk] at e e'
    split at e <;> split at e'
    · omega
    · rename_i h1 h2; cases e; exact absurd (key e' f' f) h2
    · rename_i h1 h2; cases e'; exact absurd (key e f f') h1
    · exact h.inj _ _ _ _ _ _ _ e e' f f'
  · have hg := h.grow
    refine ⟨hos.trans hg.os, htape.trans hg.tape, hout.trans hg.output, Nat.le_trans hg.size hsize, fun j hj hm => ?_, fun j x e => ?_, hg.old⟩
    · rw [hsame j (by have := hg.size; omega) ?_]; exact hg.blk j hj hm
      intro q
      obtain ⟨_, q3, q4⟩ := g2 j q
      rcases Nat.lt_or_ge k C.mh with r | r
      · exact (q4 r).elim hm (fun q5 => by omega)
      · have := q3 r; omega
    · have hlt := lt_of_heap (hg.has j x e)
      rw [hsame j hlt ?_]; exact hg.has j x e
      intro q
      rw [(g2 j q).1] at e; cases e

theorem Mem.set {C : Ctx} {own : List (Nat × Nat × OO)} {G : Hp} {w : World} (h : Mem C own G w) {k b : Nat} {e e' : TypeId} {cells cells' : List SV} (hk : lk k own = some (b, .c e cells)) :
    Mem C (stk k (b, .c e' cells') own) G (setBlk w b (.cells (dens cells').toArray e')) := by
  have hlt := h.lt hk (g := b) rfl
  exact h.put hk rfl rfl rfl (by rw [setBlk_size]; exact Nat.le_refl _) (fun j _ hj => setBlk_ne (fun q => hj q) _) (setBlk_same hlt _) (fun g => ⟨.inl, .inl⟩)

theorem alloc_new (w : World) (o : Obj) : (w.alloc o).heap[w.heap.size]? = some o := by show (w.heap.push o)[w.heap.size]? = _; simp
theorem alloc_old (w : World) (o : Obj) {k : Nat} (h : k < w.heap.size) : (w.alloc o).heap[k]? = w.heap[k]? := Below.heap_alloc w o k h

theorem Grow.alloc {mb : List Nat} {w0 w : World} {G0 G : Hp} (h : Grow mb w0 G0 w G) (o : Obj) : Grow mb w0 G0 (w.alloc o) G :=
  ⟨h.os, h.tape, h.output, by have := h.size; simp; omega, fun k hk hm => by rw [alloc_old w o (by have := h.size; omega)]; exact h.blk k hk hm,
    fun b x e => by have := h.has b x e; rw [alloc_old w o (lt_of_heap this)]; exact this, h.old⟩

theorem Grow.drew {mb : List Nat} {w0 w : World} {G0 G : Hp} (h : Grow mb w0 G0 w G) : Grow mb w0 G0 w.drew G :=
  ⟨h.os, h.tape, h.output, h.size, h.blk, h.has, h.old⟩

/-- Something new of the call's own, in a block beyond all that was there (or in none). -/
theorem Mem.new {C : Ctx} {own : List (Nat × Nat × OO)} {G : Hp} {w w' : World} (h : Mem C own G w) {k b : Nat} {o : OO} (hk : lk k own = none) (hmh : C.mh ≤ k)
    (hos : w'.os = w.os) (htape : w'.tape = w.tape) (hout : w'.output = w.output) (hsize : w.heap.size ≤ w'.heap.size)
    (hsame : ∀ j, j < w.heap.size → w'.heap[j]? = w.heap[j]?)
    (hh : o.holds C.w0.heap.size w' b) (hb : ∀ g, o.blks b g → w.heap.size ≤ g) :
    Mem C (stk k (b, o) own) G w' := by
  refine ⟨fun j c x e => ?_, fun j j' c c' x x' g e e' f f' => ?_, ?_⟩
  · rw [lk_stk] at e
    split at e
    · rename_i hj; subst hj; cases e
      refine ⟨hh, fun g hg0 => ?_⟩
      have hg := OO.mut_blks hh hg0
      refine ⟨?_, fun _ => Nat.le_trans h.grow.size (hb g hg), fun q2 => by omega⟩
      cases hG : G g with
      | none => rfl
      | some x => have := lt_of_heap (h.grow.has _ _ hG); have := hb g hg; omega
    · obtain ⟨f1, f2⟩ := h.own _ _ _ e
      exact ⟨OO.holds_same f1 ⟨hos, htape, hout, hsize⟩ fun g hg => hsame g (h.lt e hg), f2⟩
  · rw [lk_stk] at e e'
    split at e <;> split at e'
    · omega
    · cases e; have := h.lt e' f'; have := hb g f; omega
    · cases e'; have := h.lt e f; have := hb g f'; omega
    · exact h.inj _ _ _ _ _ _ _ e e' f f'
  · have hg := h.grow
    refine ⟨hos.trans hg.os, htape.trans hg.tape, hout.trans hg.output, Nat.le_trans hg.size hsize, fun j hj hm => ?_, fun j x e => ?_, hg.old⟩
    · rw [hsame j (by have := hg.size; omega)]; exact hg.blk j hj hm
    · rw [hsame j (lt_of_heap (hg.has j x e))]; exact hg.has j x e

theorem Mem.alloc {C : Ctx} {own : List (Nat × Nat × OO)} {G : Hp} {w : World} (h : Mem C own G w) (e : TypeId) (cells : List SV) :
    Mem C (stk (fk C.mh own) (w.heap.size, .c e cells) own) G (w.alloc (.cells (dens cells).toArray e)) :=
  h.new (lk_fk own C.mh _ (Nat.le_refl _)) (fk_ge own C.mh) rfl rfl rfl (by simp) (fun j hj => alloc_old w _ hj) (alloc_new w _) (fun g hg => by simp only [OO.blks] at hg; omega)

theorem Mem.drew {C : Ctx} {own : List (Nat × Nat × OO)} {G : Hp} {w : World} (h : Mem C own G w) : Mem C own G w.drew :=
  ⟨fun k b o e => ⟨OO.holds_same (h.own k b o e).1 ⟨rfl, rfl, rfl, Nat.le_refl _⟩ (fun _ _ => rfl), (h.own k b o e).2⟩, h.inj, h.grow.drew⟩

/-! ### Operands -/

def cv : Value → SV
  | .agg cs => .a (cs.toList.map .v)
  | .bool t => .b t
  | x => .v x
theorem cv_den (x : Value) : (cv x).den = x := by
  cases x <;> simp [cv, SV.den, dens_eq]
  rename_i cs
  have : (SV.den ∘ SV.v) = id := by funext y; simp [SV.den]
  rw [this]; simp

def ev (sl : List (Nat × SV)) : Operand → Option SV
  | .tmp t => lk t sl
  | .const x => some (cv x)
  | .global g => some (.v (.pointer (some ⟨g, 0, none⟩)))
  | .func f => some (.v (.func (.func f) #[] #[]))
def evs (sl : List (Nat × SV)) : List Operand → Option (List SV)
  | [] => some []
  | x :: l => match ev sl x with
    | some y => (evs sl l).map (y :: ·)
    | none => none

/-- What is known of the slots. -/
def Slots (sl : List (Nat × SV)) (a : Act) : Prop := ∀ i x, lk i sl = some x → a.tmps[i]? = some x.den
theorem ev_ok {sl : List (Nat × SV)} {a : Act} (hS : Slots sl a) {x : Operand} {y : SV} (h : ev sl x = some y) : a.eval x = y.den := by
  cases x with
  | tmp t => have := hS t y h; simp [Act.eval, Array.getD_eq_getD_getElem?, this]
  | const v => simp only [ev, Option.some.injEq] at h; subst h; simp [Act.eval, cv_den]
  | global g => simp only [ev, Option.some.injEq] at h; subst h; simp [Act.eval, SV.den]
  | func f => simp only [ev, Option.some.injEq] at h; subst h; simp [Act.eval, SV.den]

theorem evs_ok {sl : List (Nat × SV)} {a : Act} (hS : Slots sl a) : ∀ {xs : List Operand} {ys : List SV}, evs sl xs = some ys → xs.map a.eval = dens ys
  | [], ys, h => by simp only [evs, Option.some.injEq] at h; subst h; simp [dens]
  | x :: xs, ys, h => by
    simp only [evs] at h
    split at h
    · rename_i y hy
      simp only [Option.map_eq_some_iff] at h
      obtain ⟨r, h1, rfl⟩ := h
      simp [dens, ev_ok hS hy, evs_ok hS h1]
    · cases h

/-- Is it the value of one cell? -/
def SV.one : SV → Bool
  | .v x => x.oneCell'
  | .a _ | .t _ => false
  | _ => true
def SV.cs : SV → Option (List SV)
  | .a l => some l
  | .t _ => none
  | .v x => if x.oneCell' = true then some [.v x] else none
  | .b u => some [.b u]
  | .p q1 q2 q3 => some [.p q1 q2 q3]
  | .s q1 q2 q3 q4 q5 => some [.s q1 q2 q3 q4 q5]
  | .f q1 q2 q3 => some [.f q1 q2 q3]
  | .i q1 q2 => some [.i q1 q2]
theorem SV.one_ok {x : SV} (h : x.one = true) : x.den.oneCell' = true := by
  cases x <;> simp_all [SV.one, SV.den, Value.oneCell']
theorem SV.cs_ok {x : SV} {l : List SV} (h : x.cs = some l) : x.den.cells = (dens l).toArray := by
  cases x <;> simp only [SV.cs] at h
  case v x =>
    split at h
    · rename_i hx; cases h; cases x <;> simp_all [SV.den, Value.cells, dens, Value.oneCell']
    · cases h
  all_goals (cases h)
  all_goals simp [SV.den, Value.cells, dens]

end Go.Sx
