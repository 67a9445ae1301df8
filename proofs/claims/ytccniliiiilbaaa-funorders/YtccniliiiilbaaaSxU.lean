/-
  A symbolic walk over the model's code: many slices of the call's own as one thing (a list of rows in blocks of their own). Names no program.
-/
import Derived.Test.YtccniliiiilbaaaSxT
namespace Go.Sx
set_option linter.unusedSimpArgs false
set_option linter.unusedVariables false
open Go.RowKit

structure Rw where
  e : TypeId
  size : Nat
  v : Value
  n : Nat
  xs : List Value
/-- A row in no block. -/
def Rw.nil (e : TypeId) (size : Nat) : Rw := ⟨e, size, .slice none 0 0, 0, []⟩

theorem ownsRow_same {w w' : World} {base : Nat} {e : TypeId} {size n : Nat} {v : Value} {xs : List Value} (h : w.ownsRow base e size v n xs) (hs : ∀ g, v.ownBlock = some g → w'.heap[g]? = w.heap[g]?) : w'.ownsRow base e size v n xs := by
  refine ⟨h.1, ?_⟩
  rcases h.2 with h2 | ⟨g, cap, cur, rfl, hb, hg, rest⟩
  · exact .inl h2
  · exact .inr ⟨g, cap, cur, rfl, hb, by rw [hs g rfl]; exact hg, rest⟩
theorem ownsRow_nil (w : World) (e : TypeId) (size : Nat) : w.ownsRow 0 e size (.slice none 0 0) 0 [] := ⟨by simp, .inl ⟨rfl, rfl⟩⟩

/-- Rows, each in a block of its own. -/
def ZR (rs : List Rw) : Zn where
  A Z M w := (∀ (i : Nat) (r : Rw), rs[i]? = some r → w.ownsRow 0 r.e r.size r.v r.n r.xs) ∧ (∀ (i j : Nat) (r r' : Rw) (g : Nat), rs[i]? = some r → rs[j]? = some r' → r.v.ownBlock = some g → r'.v.ownBlock = some g → i = j) ∧
    (∀ g, Z g ↔ ∃ (i : Nat) (r : Rw), rs[i]? = some r ∧ r.v.ownBlock = some g) ∧ (∀ g, M g → Z g)
  lt Z M w h g hg := by
    obtain ⟨i, r, e, hb⟩ := (h.2.2.1 g).1 hg
    exact ((h.1 i r e).lt g hb).2
  sub Z M w h := h.2.2.2
  st Z M w w' h _ hs := ⟨fun i r e => ownsRow_same (h.1 i r e) fun g hg => hs g ((h.2.2.1 g).2 ⟨i, r, e, hg⟩), h.2⟩

/-- A row as it lies in a heap. -/
def RowAt (G : Hp) (r : Rw) : Prop := (r.v = .slice none 0 0 ∧ r.n = 0 ∧ r.xs = []) ∨ ∃ g cap, r.v = .slice (some ⟨g, 0, none⟩) r.n cap ∧ At G g 0 r.xs
theorem RowAt.mono {G G' : Hp} {r : Rw} (h : RowAt G r) (hl : Le G G') : RowAt G' r := by
  rcases h with h | ⟨g, cap, h1, h2⟩
  · exact .inl h
  · exact .inr ⟨g, cap, h1, h2.mono hl⟩
theorem RowAt.S {α : Type} {G : Hp} {rp : Rp α} {e : TypeId} {size n : Nat} {v : Value} {xs : List Value} {ts : List α} (h : RowAt G ⟨e, size, v, n, xs⟩) (hn : n = ts.length) (h63 : n ≤ 9223372036854775807) (hL : rp.L G ts xs) : rp.S G ts v := by
  subst hn
  rcases h with ⟨h1, h2, h3⟩ | ⟨g, cap, h1, h2⟩
  · simp only at h1 h2
    subst h1
    have := List.length_eq_zero_iff.1 h2
    subst this
    exact Rp.S_nil _ _
  · simp only at h1 h2
    subst h1
    exact ⟨h63, _, _, rfl, .inr ⟨_, _, _, rfl, h2, hL⟩⟩
theorem row_at {w : World} {G : Hp} {r : Rw} (h : w.ownsRow 0 r.e r.size r.v r.n r.xs) (hG : ∀ g, r.v.ownBlock = some g → G g = w.heap[g]?) : RowAt G r := by
  obtain ⟨e, size, v, n, xs⟩ := r
  simp only at h hG
  rcases h.2 with ⟨h1, h2⟩ | ⟨g, cap, cur, rfl, rest⟩
  · refine .inl ⟨h1, h2, ?_⟩
    have := h.1
    simp only at this ⊢
    exact List.eq_nil_of_length_eq_zero (by rw [this, h2]; simp)
  · obtain ⟨x, hx, hat⟩ := row_block h
    exact .inr ⟨g, cap, rfl, hat G (by rw [hG g rfl]; exact hx)⟩

section
variable {C : Ctx} {K : List KI} {s : St} {R : Array Oper} {l : List Oper} {d : Option Tmp} {t : TypeId} {pos : String} {aft : Array Edge} {v : Value}

theorem Mem.split {own : Owns} {G : Hp} {w : World} (h : Mem C own G w) {k j b b1 b2 : Nat} {o o1 o2 : OO} (hk : lk k own = some (b, o)) (hj : lk j own = none) (hmk : C.mh ≤ k) (hmj : C.mh ≤ j)
    (h1 : o1.holds C.w0.heap.size w b1) (h2 : o2.holds C.w0.heap.size w b2) (hb1 : ∀ g, o1.blks b1 g → o.blks b g) (hb2 : ∀ g, o2.blks b2 g → o.blks b g) (hd : ∀ g, o1.blks b1 g → o2.blks b2 g → False)
    (hm1 : ∀ g, o1.mut b1 g → o.mut b g) (hm2 : ∀ g, o2.mut b2 g → o.mut b g) : Mem C (stk j (b2, o2) (stk k (b1, o1) own)) G w := by
  obtain ⟨_, f⟩ := h.own _ _ _ hk
  have hkj : k ≠ j := by rintro rfl; rw [hj] at hk; cases hk
  have hl : ∀ {i c x}, lk i (stk j (b2, o2) (stk k (b1, o1) own)) = some (c, x) → (i = j ∧ c = b2 ∧ x = o2) ∨ (i = k ∧ c = b1 ∧ x = o1) ∨ (i ≠ j ∧ i ≠ k ∧ lk i own = some (c, x)) := by
    intro i c x e
    rw [lk_stk] at e
    split at e
    · cases e; exact .inl ⟨by assumption, rfl, rfl⟩
    · rw [lk_stk] at e
      split at e
      · cases e; exact .inr (.inl ⟨by assumption, rfl, rfl⟩)
      · exact .inr (.inr ⟨by assumption, by assumption, e⟩)
  refine ⟨fun i c x e => ?_, fun i i' c c' x x' g e e' q q' => ?_, h.grow⟩
  · rcases hl e with ⟨rfl, rfl, rfl⟩ | ⟨rfl, rfl, rfl⟩ | ⟨_, _, e⟩
    · refine ⟨h2, fun g hg => ?_⟩
      obtain ⟨f1, f2, _⟩ := f g (hm2 g hg)
      exact ⟨f1, fun _ => f2 hmk, fun q => by omega⟩
    · exact ⟨h1, fun g hg => f g (hm1 g hg)⟩
    · exact h.own _ _ _ e
  · rcases hl e with ⟨rfl, rfl, rfl⟩ | ⟨rfl, rfl, rfl⟩ | ⟨n1, n2, e0⟩ <;> rcases hl e' with ⟨e1, e2, e3⟩ | ⟨e1, e2, e3⟩ | ⟨n3, n4, e0'⟩
    · exact e1.symm
    · subst e1 e2 e3; exact (hd g q' q).elim
    · exact absurd (h.inj _ _ _ _ _ _ g e0' hk q' (hb2 g q)) n4
    · subst e1 e2 e3; exact (hd g q q').elim
    · exact e1.symm
    · exact absurd (h.inj _ _ _ _ _ _ g e0' hk q' (hb1 g q)) n4
    · subst e1 e2 e3; exact absurd (h.inj _ _ _ _ _ _ g e0 hk q (hb2 g q')) n2
    · subst e1 e2 e3; exact absurd (h.inj _ _ _ _ _ _ g e0 hk q (hb1 g q')) n2
    · exact h.inj _ _ _ _ _ _ g e0 e0' q q'

theorem Mem.join {own : Owns} {G : Hp} {w : World} (h : Mem C own G w) {k j b b1 b2 : Nat} {o o1 o2 : OO} (hk : lk k own = some (b1, o1)) (hj : lk j own = some (b2, o2)) (hmk : C.mh ≤ k) (hmj : C.mh ≤ j) (hkj : k ≠ j)
    (ho : o.holds C.w0.heap.size w b) (hb : ∀ g, o.blks b g → o1.blks b1 g ∨ o2.blks b2 g) (hm : ∀ g, o.mut b g → o1.mut b1 g ∨ o2.mut b2 g) : Mem C (stk k (b, o) (rmk j own)) G w := by
  obtain ⟨_, f1⟩ := h.own _ _ _ hk
  obtain ⟨_, f2⟩ := h.own _ _ _ hj
  have hl : ∀ {i c x}, lk i (stk k (b, o) (rmk j own)) = some (c, x) → (i = k ∧ c = b ∧ x = o) ∨ (i ≠ k ∧ i ≠ j ∧ lk i own = some (c, x)) := by
    intro i c x e
    rw [lk_stk] at e
    split at e
    · cases e; exact .inl ⟨by assumption, rfl, rfl⟩
    · rw [lk_rmk] at e
      split at e
      · cases e
      · exact .inr ⟨by assumption, by assumption, e⟩
  refine ⟨fun i c x e => ?_, fun i i' c c' x x' g e e' q q' => ?_, h.grow⟩
  · rcases hl e with ⟨rfl, rfl, rfl⟩ | ⟨_, _, e⟩
    · refine ⟨ho, fun g hg => ?_⟩
      rcases hm g hg with q | q
      · exact f1 g q
      · obtain ⟨q1, q2, _⟩ := f2 g q
        exact ⟨q1, fun _ => q2 hmj, fun q => by omega⟩
    · exact h.own _ _ _ e
  · have key : ∀ {i c x}, i ≠ k → i ≠ j → lk i own = some (c, x) → x.blks c g → o.blks b g → False := by
      intro i c x n1 n2 e q q'
      rcases hb g q' with q2 | q2
      · exact n1 (h.inj _ _ _ _ _ _ g e hk q q2)
      · exact n2 (h.inj _ _ _ _ _ _ g e hj q q2)
    rcases hl e with ⟨rfl, rfl, rfl⟩ | ⟨n1, n2, e0⟩ <;> rcases hl e' with ⟨e1, e2, e3⟩ | ⟨n3, n4, e0'⟩
    · exact e1.symm
    · exact (key n3 n4 e0' q' q).elim
    · subst e1 e2 e3; exact (key n1 n2 e0 q q').elim
    · exact h.inj _ _ _ _ _ _ g e0 e0' q q'

/-- A row is taken out. -/
theorem go_ztake (k j i : Nat) {b : Nat} {rs : List Rw} {Z : Nat → Prop} {r : Rw} (hk : lk k s.own = some (b, .z (ZR rs) Z Z)) (hi : rs[i]? = some r) (hj : lk j s.own = none) (hmk : C.mh ≤ k) (hmj : C.mh ≤ j)
    (h : ∀ Z', SGo C K ⟨s.sl, stk j (0, .row r.v r.e r.size r.n r.xs) (stk k (b, .z (ZR (rs.set i (Rw.nil r.e r.size))) Z' Z') s.own), s.G, s.df⟩) : SGo C K s := by
  intro a w hS
  obtain ⟨z1, z2, z3, z4⟩ := (hS.mem.own _ _ _ hk).1
  have hlt : i < rs.length := (List.getElem?_eq_some_iff.1 hi).1
  have hget : ∀ {m r'}, (rs.set i (Rw.nil r.e r.size))[m]? = some r' → (m = i ∧ r' = Rw.nil r.e r.size) ∨ (m ≠ i ∧ rs[m]? = some r') := by
    intro m r' e
    by_cases q : i = m
    · subst q; rw [List.getElem?_set_self hlt] at e; cases e; exact .inl ⟨rfl, rfl⟩
    · rw [List.getElem?_set_ne q] at e; exact .inr ⟨fun q' => q q'.symm, e⟩
  refine h (fun g => Z g ∧ r.v.ownBlock ≠ some g) a w ⟨hS.sl, hS.nt, hS.df, hS.mem.split hk hj hmk hmj ?_ (z1 i r hi) (fun g hg => hg.1) (fun g hg => (z3 g).2 ⟨i, r, hi, hg⟩) (fun g hg hg' => hg.2 hg') (fun g hg => hg.1) (fun g hg => (z3 g).2 ⟨i, r, hi, hg⟩)⟩
  refine ⟨fun m r' e => ?_, fun m m' r1 r2 g e e' q q' => ?_, fun g => ⟨fun hg => ?_, fun hg => ?_⟩, fun g hg => hg⟩
  · rcases hget e with ⟨_, rfl⟩ | ⟨_, e⟩
    · exact ownsRow_nil _ _ _
    · exact z1 m r' e
  · rcases hget e with ⟨_, rfl⟩ | ⟨n1, e⟩
    · cases q
    · rcases hget e' with ⟨_, rfl⟩ | ⟨n2, e'⟩
      · cases q'
      · exact z2 m m' r1 r2 g e e' q q'
  · obtain ⟨m, r', e, q⟩ := (z3 g).1 hg.1
    have hm : m ≠ i := by rintro rfl; rw [hi] at e; cases e; exact hg.2 q
    exact ⟨m, r', by rw [List.getElem?_set, if_neg (Ne.symm hm)]; exact e, q⟩
  · obtain ⟨m, r', e, q⟩ := hg
    rcases hget e with ⟨_, rfl⟩ | ⟨n1, e⟩
    · cases q
    · exact ⟨(z3 g).2 ⟨m, r', e, q⟩, fun q' => n1 (z2 m i r' r g e hi q q')⟩

theorem zput {rs : List Rw} {Z : Nat → Prop} {w : World} (hz : (ZR rs).A Z Z w) {i : Nat} {r : Rw} (hr : w.ownsRow 0 r.e r.size r.v r.n r.xs) (hdis : ∀ g, Z g → r.v.ownBlock ≠ some g) {rs' : List Rw}
    (hget : ∀ {m r'}, rs'[m]? = some r' → (m = i ∧ r' = r) ∨ (m ≠ i ∧ rs[m]? = some r')) (hold : ∀ {m r'}, rs[m]? = some r' → m ≠ i ∨ r'.v.ownBlock = none) (hin : rs'[i]? = some r) (hkeep : ∀ {m r'}, m ≠ i → rs[m]? = some r' → rs'[m]? = some r') :
    (ZR rs').A (fun g => Z g ∨ r.v.ownBlock = some g) (fun g => Z g ∨ r.v.ownBlock = some g) w := by
  obtain ⟨z1, z2, z3, z4⟩ := hz
  refine ⟨fun m r' e => ?_, fun m m' r1 r2 g e e' q q' => ?_, fun g => ⟨fun hg => ?_, fun hg => ?_⟩, fun g hg => hg⟩
  · rcases hget e with ⟨_, rfl⟩ | ⟨_, e⟩
    · exact hr
    · exact z1 m r' e
  · rcases hget e with ⟨e1, rfl⟩ | ⟨n1, e⟩ <;> rcases hget e' with ⟨e1', e2'⟩ | ⟨n2, e'⟩
    · omega
    · exact absurd q (hdis g ((z3 g).2 ⟨_, _, e', q'⟩))
    · subst e2'; exact absurd q' (hdis g ((z3 g).2 ⟨_, _, e, q⟩))
    · exact z2 m m' r1 r2 g e e' q q'
  · rcases hg with hg | hg
    · obtain ⟨m, r', e, q⟩ := (z3 g).1 hg
      rcases hold e with n | n
      · exact ⟨m, r', hkeep n e, q⟩
      · rw [n] at q; cases q
    · exact ⟨i, r, hin, hg⟩
  · obtain ⟨m, r', e, q⟩ := hg
    rcases hget e with ⟨_, rfl⟩ | ⟨_, e⟩
    · exact .inr q
    · exact .inl ((z3 g).2 ⟨m, r', e, q⟩)

/-- A row is put back. -/
theorem go_zgive (k j i : Nat) {b b2 size n : Nat} {e : TypeId} {xs : List Value} {rs : List Rw} {Z : Nat → Prop} {r0 : Rw} {u : Value} (hk : lk k s.own = some (b, .z (ZR rs) Z Z)) (hi : rs[i]? = some r0) (hr0 : r0.v.ownBlock = none) (hj : lk j s.own = some (b2, .row u e size n xs)) (hmk : C.mh ≤ k) (hmj : C.mh ≤ j) (hkj : k ≠ j)
    (h : ∀ Z', SGo C K ⟨s.sl, stk k (b, .z (ZR (rs.set i ⟨e, size, u, n, xs⟩)) Z' Z') (rmk j s.own), s.G, s.df⟩) : SGo C K s := by
  intro a w hS
  have hz := (hS.mem.own _ _ _ hk).1
  have hrow := (hS.mem.own _ _ _ hj).1
  have hlt : i < rs.length := (List.getElem?_eq_some_iff.1 hi).1
  have hdis : ∀ g, Z g → u.ownBlock ≠ some g := fun g hg q => hkj (hS.mem.inj _ _ _ _ _ _ g hk hj hg q)
  refine h _ a w ⟨hS.sl, hS.nt, hS.df, hS.mem.join hk hj hmk hmj hkj (zput (i := i) (r := ⟨e, size, u, n, xs⟩) hz hrow hdis ?_ ?_ ?_ ?_) (fun g hg => hg) (fun g hg => hg)⟩
  · intro m r' e'
    by_cases q : i = m
    · subst q; rw [List.getElem?_set_self hlt] at e'; cases e'; exact .inl ⟨rfl, rfl⟩
    · rw [List.getElem?_set_ne q] at e'; exact .inr ⟨fun q' => q q'.symm, e'⟩
  · intro m r' e'
    by_cases hm : m = i
    · subst hm; rw [hi] at e'; cases e'; exact .inr hr0
    · exact .inl hm
  · rw [List.getElem?_set, if_pos rfl, if_pos hlt]
  · intro m r' hm e'
    rw [List.getElem?_set, if_neg (Ne.symm hm)]; exact e'

/-- A row is added. -/
theorem go_zadd (k j : Nat) {b b2 size n : Nat} {e : TypeId} {xs : List Value} {rs : List Rw} {Z : Nat → Prop} {u : Value} (hk : lk k s.own = some (b, .z (ZR rs) Z Z)) (hj : lk j s.own = some (b2, .row u e size n xs)) (hmk : C.mh ≤ k) (hmj : C.mh ≤ j) (hkj : k ≠ j)
    (h : ∀ Z', SGo C K ⟨s.sl, stk k (b, .z (ZR (rs ++ [⟨e, size, u, n, xs⟩])) Z' Z') (rmk j s.own), s.G, s.df⟩) : SGo C K s := by
  intro a w hS
  have hz := (hS.mem.own _ _ _ hk).1
  have hrow := (hS.mem.own _ _ _ hj).1
  have hdis : ∀ g, Z g → u.ownBlock ≠ some g := fun g hg q => hkj (hS.mem.inj _ _ _ _ _ _ g hk hj hg q)
  refine h _ a w ⟨hS.sl, hS.nt, hS.df, hS.mem.join hk hj hmk hmj hkj (zput (i := rs.length) (r := ⟨e, size, u, n, xs⟩) hz hrow hdis ?_ ?_ ?_ ?_) (fun g hg => hg) (fun g hg => hg)⟩
  · intro m r' e'
    rcases Nat.lt_or_ge m rs.length with q | q
    · rw [List.getElem?_append_left q] at e'; exact .inr ⟨by omega, e'⟩
    · rw [List.getElem?_append_right q] at e'
      cases hm : m - rs.length with
      | zero => rw [hm] at e'; simp at e'; exact .inl ⟨by omega, e'.symm⟩
      | succ x => rw [hm] at e'; simp at e'
  · intro m r' e'
    have := (List.getElem?_eq_some_iff.1 e').1
    exact .inl (by omega)
  · simp
  · intro m r' hm e'
    rw [List.getElem?_append_left (List.getElem?_eq_some_iff.1 e').1]; exact e'

/-- No rows yet. -/
theorem go_znil (k : Nat) (hk : lk k s.own = none) (hmk : C.mh ≤ k) (h : ∀ Z, SGo C K ⟨s.sl, stk k (0, .z (ZR []) Z Z) s.own, s.G, s.df⟩) : SGo C K s := by
  intro a w hS
  refine h (fun _ => False) a w ⟨hS.sl, hS.nt, hS.df, hS.mem.new hk hmk rfl rfl rfl (Nat.le_refl _) (fun _ _ => rfl) ?_ (fun g hg => hg.elim)⟩
  exact ⟨fun i r e => by simp at e, fun i j r r' g e => by simp at e, fun g => ⟨fun q => q.elim, fun ⟨i, r, e, _⟩ => by simp at e⟩, fun g q => q⟩

/-- The heap that a walk knows, and the blocks of a zone. -/
theorem zlent {own : Owns} {G : Hp} {w : World} (h : Mem C own G w) {k b : Nat} {rs : List Rw} {Z : Nat → Prop} (hk : lk k own = some (b, .z (ZR rs) Z Z)) :
    ∃ G1 : Hp, Le G G1 ∧ Has w G1 ∧ (∀ (i : Nat) (r : Rw), rs[i]? = some r → RowAt G1 r) ∧ (∀ g, Z g → G1 g = w.heap[g]?) ∧ (∀ g, ¬ Z g → G1 g = G g) := by
  classical
  obtain ⟨hz, hm⟩ := h.own _ _ _ hk
  obtain ⟨z1, z2, z3, z4⟩ := hz
  refine ⟨fun g => if Z g then w.heap[g]? else G g, fun g o e => ?_, fun g o e => ?_, fun i r e => row_at (z1 i r e) fun g hg => ?_, fun g hg => by simp [hg], fun g hg => by simp [hg]⟩
  · have : ¬ Z g := fun q => by rw [(hm g q).1] at e; cases e
    simp [this, e]
  · simp only at e
    split at e
    · exact e
    · exact h.has g o e
  · simp [(z3 g).2 ⟨i, r, e, hg⟩]

/-- All rows become part of what no longer changes. -/
theorem go_zpub (k : Nat) {b : Nat} {rs : List Rw} {Z : Nat → Prop} (hk : lk k s.own = some (b, .z (ZR rs) Z Z)) (hmk : C.mh ≤ k)
    (h : ∀ G', Le s.G G' → (∀ (i : Nat) (r : Rw), rs[i]? = some r → RowAt G' r) → SGo C K ⟨s.sl, rmk k s.own, G', s.df⟩) : SGo C K s := by
  intro a w hS
  obtain ⟨G1, l1, l2, l3, l4, l5⟩ := zlent hS.mem hk
  obtain ⟨hz, hm⟩ := hS.mem.own _ _ _ hk
  refine h G1 l1 l3 a w ⟨hS.sl, hS.nt, hS.df, ⟨fun j c x e => ?_, fun j j' c c' x x' g e e' q q' => ?_, ?_⟩⟩
  · rw [lk_rmk] at e
    split at e
    · cases e
    · rename_i hj
      obtain ⟨f1, f2⟩ := hS.mem.own _ _ _ e
      refine ⟨f1, fun g hg => ?_⟩
      obtain ⟨f3, f4⟩ := f2 g hg
      have : ¬ Z g := fun q => hj (hS.mem.inj _ _ _ _ _ _ g e hk (OO.mut_blks f1 hg) q)
      exact ⟨by show G1 g = none; rw [l5 g this]; exact f3, f4⟩
  · rw [lk_rmk] at e e'
    split at e
    · cases e
    · split at e'
      · cases e'
      · exact hS.mem.inj _ _ _ _ _ _ g e e' q q'
  · have hg := hS.mem.grow
    refine ⟨hg.os, hg.tape, hg.output, hg.size, hg.blk, l2, fun g hlt => ?_⟩
    have : ¬ Z g := fun q => by have := (hm g q).2.1 hmk; omega
    show G1 g = _
    rw [l5 g this]; exact hg.old g hlt

/-- A call that reads the rows. -/
theorem go_lendZ (k : Nat) {f : FuncId} {args : Array Operand} {tys : Array TypeId} {vs : List SV} {b : Nat} {rs : List Rw} {Z : Nat → Prop} (hd : dOk C.nt d = true) (hf : canCall C.P f = true) (ha : evs s.sl args.toList = some vs)
    (hk : lk k s.own = some (b, .z (ZR rs) Z Z)) (hc : ∀ G1, Le s.G G1 → (∀ (i : Nat) (r : Rw), rs[i]? = some r → RowAt G1 r) → Pure C.P f (dens vs) G1 (fun r _ => r = v))
    (h : SGo C (.ops R l :: K) ⟨putS d (rv v) s.sl, s.own, s.G, s.df⟩) : SGo C (.ops R (⟨d, .call ⟨.value (.func f), args, tys⟩, t, pos, aft, none⟩ :: l) :: K) s := by
  intro a w hS
  have hargs : args.map a.eval = (dens vs).toArray := by apply Array.ext'; rw [Array.toList_map]; exact evs_ok hS.sl ha
  have hrun : (execOp a.eval ⟨d, .call ⟨.value (.func f), args, tys⟩, t, pos, aft, none⟩).run C.P w = .ok (.enter f (dens vs).toArray) w := by
    simp only [execOp, resolve, hargs, Act.eval, Deferred.ofValue, Sem.run_bind, Sem.run_pure, Result.andThen_ok, invoke]
    simp [callFunc_ok hf]
  obtain ⟨G1, l1, l2, l3, _, _⟩ := zlent hS.mem hk
  refine K_enter rfl hrun ((hc G1 l1 l3 w l2).mono ?_)
  rintro e w' ⟨v', G', rfl, hg, rfl⟩
  have hS' := hS.put hd (rv v') (hS.mem.stay hg)
  rw [rv_den] at hS'
  exact ⟨_, rfl, h _ _ hS'⟩
theorem q_lendZ (k : Nat) {f : FuncId} {args : Array Operand} {tys : Array TypeId} {vs : List SV} {b : Nat} {rs : List Rw} {Z : Nat → Prop} (hd : dOk C.nt d = true) (hf : canCall C.P f = true) (ha : evs s.sl args.toList = some vs)
    (hk : lk k s.own = some (b, .z (ZR rs) Z Z)) (hc : ∀ G1, Le s.G G1 → (∀ (i : Nat) (r : Rw), rs[i]? = some r → RowAt G1 r) → Pure C.P f (dens vs) G1 (fun r _ => r = v))
    (h : SGo C (.q (Mem C s.own s.G) R l :: K) ⟨putS d (rv v) s.sl, s.own, s.G, s.df⟩) : SGo C (.q (Mem C s.own s.G) R (⟨d, .call ⟨.value (.func f), args, tys⟩, t, pos, aft, none⟩ :: l) :: K) s := by
  intro a w hS
  have hargs : args.map a.eval = (dens vs).toArray := by apply Array.ext'; rw [Array.toList_map]; exact evs_ok hS.sl ha
  have hrun : ∀ w', (execOp a.eval ⟨d, .call ⟨.value (.func f), args, tys⟩, t, pos, aft, none⟩).run C.P w' = .ok (.enter f (dens vs).toArray) w' := by
    intro w'
    simp only [execOp, resolve, hargs, Act.eval, Deferred.ofValue, Sem.run_bind, Sem.run_pure, Result.andThen_ok, invoke]
    simp [callFunc_ok hf]
  simp only [wpK, wpQuiet]
  rw [if_pos (by simp [Region.wanted])]
  refine ⟨v, fun w' hw' => ?_, ?_⟩
  · obtain ⟨G1, l1, l2, l3, _, _⟩ := zlent hw' hk
    unfold Oper.quietAt
    rw [hrun w']
    refine ⟨rfl, (hc G1 l1 l3 w' l2).mono ?_⟩
    rintro e w'' ⟨u, G', rfl, hg, rfl⟩
    exact ⟨rfl, hw'.stay hg⟩
  · have hS' := hS.put hd (rv v) hS.mem
    rw [rv_den] at hS'
    have := h _ _ hS'
    simpa only [wpK] using this
/-- A call that reads the rows, and whose result lies in new blocks alone. -/
theorem go_lendZF (k : Nat) {f : FuncId} {args : Array Operand} {tys : Array TypeId} {vs : List SV} {b : Nat} {rs : List Rw} {Z : Nat → Prop} {ψ : Value → Hp → Prop} (hd : dOk C.nt d = true) (hf : canCall C.P f = true) (ha : evs s.sl args.toList = some vs)
    (hk : lk k s.own = some (b, .z (ZR rs) Z Z)) (hmk : C.mh ≤ k) (hc : ∀ G1, Le s.G G1 → (∀ (i : Nat) (r : Rw), rs[i]? = some r → RowAt G1 r) → Pure C.P f (dens vs) G1 (fun v G' => ψ v (diff G' G1))) (hψ : ∀ v H H', Le H H' → ψ v H → ψ v H')
    (h : ∀ v G', Le s.G G' → ψ v G' → SGo C (.ops R l :: K) ⟨putS d (rv v) s.sl, s.own, G', s.df⟩) : SGo C (.ops R (⟨d, .call ⟨.value (.func f), args, tys⟩, t, pos, aft, none⟩ :: l) :: K) s := by
  classical
  intro a w hS
  have hargs : args.map a.eval = (dens vs).toArray := by apply Array.ext'; rw [Array.toList_map]; exact evs_ok hS.sl ha
  have hrun : (execOp a.eval ⟨d, .call ⟨.value (.func f), args, tys⟩, t, pos, aft, none⟩).run C.P w = .ok (.enter f (dens vs).toArray) w := by
    simp only [execOp, resolve, hargs, Act.eval, Deferred.ofValue, Sem.run_bind, Sem.run_pure, Result.andThen_ok, invoke]
    simp [callFunc_ok hf]
  obtain ⟨G1, l1, l2, l3, l4, l5⟩ := zlent hS.mem hk
  obtain ⟨hz, hm⟩ := hS.mem.own _ _ _ hk
  refine K_enter rfl hrun ((hc G1 l1 l3 w l2).mono ?_)
  rintro e' w' ⟨v, G', rfl, hg, hp⟩
  obtain ⟨G2, hG2⟩ : ∃ G2 : Hp, G2 = fun j => if Z j then none else G' j := ⟨_, rfl⟩
  have hG2g : ∀ g, Z g → G2 g = none := fun g hg => by rw [hG2]; simp [hg]
  have hG2n : ∀ j, ¬ Z j → G2 j = G' j := fun j hj => by rw [hG2]; simp [hj]
  have hsz := hS.mem.grow.size
  have hZlt : ∀ g, Z g → g < w.heap.size := fun g hg => hS.mem.lt hk hg
  have hmem : Mem C s.own G2 w' := by
    refine ⟨fun j c y q => ?_, hS.mem.inj, ?_⟩
    · obtain ⟨f1, f2⟩ := hS.mem.own j c y q
      refine ⟨OO.holds_same f1 hg.fr fun i hi => hg.blk i (hS.mem.lt q hi) (by simp), fun i hi => ?_⟩
      obtain ⟨f3, f4, f5⟩ := f2 i hi
      refine ⟨?_, f4, f5⟩
      by_cases hig : Z i
      · exact hG2g i hig
      · rw [hG2n i hig, hg.old i (hS.mem.ltm q hi), l5 i hig]; exact f3
    · have q := hS.mem.grow
      refine ⟨hg.os.trans q.os, hg.tape.trans q.tape, hg.output.trans q.output, Nat.le_trans q.size hg.size, fun i hi hmb => ?_, fun i y e2 => ?_, fun i hi => ?_⟩
      · rw [hg.blk i (by omega) (by simp)]; exact q.blk i hi hmb
      · have hig : ¬ Z i := by intro e3; rw [hG2g i e3] at e2; cases e2
        rw [hG2n i hig] at e2
        exact hg.has i y e2
      · have hig : ¬ Z i := by intro e3; have := (hm i e3).2.1 hmk; omega
        rw [hG2n i hig, hg.old i (by omega), l5 i hig]
        exact q.old i hi
  have hle : Le s.G G2 := fun i y e2 => by
    have hig : ¬ Z i := by intro e3; rw [(hm i e3).1] at e2; cases e2
    rw [hG2n i hig]
    exact hg.keep l2 (l1 i y e2)
  have hle2 : Le (diff G' G1) G2 := fun i y e2 => by
    have hig : ¬ Z i := by
      intro e3
      unfold diff at e2
      rw [l4 i e3] at e2
      have := hZlt i e3
      rw [Array.getElem?_eq_getElem this] at e2
      cases e2
    rw [hG2n i hig]
    exact diff_le _ _ i y e2
  have hS' := hS.put hd (rv v) hmem
  rw [rv_den] at hS'
  exact ⟨_, rfl, h v G2 hle (hψ v _ _ hle2 hp) _ _ hS'⟩

/-! ### Calls that hand rows out -/
def RetV (w : World) (G : Hp) (φ : Value → Hp → List Rw → Prop) : Ending → World → Prop :=
  fun e w' => ∃ v G' rs Z, e = .returned v ∧ Grow [] w G w' G' ∧ (ZR rs).A Z Z w' ∧ (∀ g, Z g → G' g = none ∧ w.heap.size ≤ g) ∧ φ v G' rs
def PureV (P : Program) (f : FuncId) (args : List Value) (G : Hp) (φ : Value → Hp → List Rw → Prop) : Prop :=
  ∀ w, Has w G → Calls P f args.toArray w (RetV w G φ)
theorem enterV {P : Program} {f : FuncId} {fn : Func} {G : Hp} {φ : Value → Hp → List Rw → Prop} (ty : TypeId → Option TI) (tyok : ∀ T i, ty T = some i → i.ok P T) {nt : Nat}
    (hf : P.funcs[f]? = some fn) (hb : fn.body.isSome = true) (hn : fn.ntmps = nt) (svs : List SV) (hargs : svs.length ≤ nt)
    (h : ∀ C : Ctx, C.P = P → C.Q = bodyPost C.P fn (RetV C.w0 C.G0 φ) → C.nt = nt → C.ty = ty → C.mb = [] → C.mh = 0 → C.ro = none → SGo C [.code (fn.body.getD .skip)] ⟨enumS 0 svs, [], G, []⟩) : PureV P f (dens svs) G φ := by
  intro w hw
  refine calls_of_wp hf (body_eq hb) ((wpIn_wide (n := 0)).1 ?_)
  have := h ⟨P, bodyPost P fn (RetV w G φ), nt, ty, tyok, w, G, [], 0, none⟩ rfl rfl rfl rfl rfl rfl rfl { tmps := (dens svs).toArray ++ Array.replicate (fn.ntmps - (dens svs).toArray.size) undef, defers := [] } w
    ⟨slots_args _ _ _ (fun i x e => by have := (lk_enumS svs 0 i x e).2; simpa using this), by simp [hn, dens_eq]; omega, rfl, ⟨fun _ _ _ e => by simp [lk] at e, fun _ _ _ _ _ _ _ e => by simp [lk] at e, Grow.refl hw⟩⟩
  simp only [wpK] at this
  exact this
theorem x_retV (k : Nat) {kc : Code} (ht : tag kc = 7) {fn : Func} {φ : Value → Hp → List Rw → Prop} (hQ : C.Q = bodyPost C.P fn (RetV C.w0 C.G0 φ)) (hmb : C.mb = []) (hmh : C.mh = 0) {r : ResultVar} {rs : List ResultVar} (hrs : fn.results.toList = r :: rs) {xs : List SV}
    (hr : resAll s.sl C.ty s.own (r :: rs) = some xs) (hdf : s.df = []) {b : Nat} {ws : List Rw} {Z : Nat → Prop} (hk : lk k s.own = some (b, .z (ZR ws) Z Z)) (h : φ (resV xs).den s.G ws) (hnb : noBr K = true := by rfl) : SGo C (.code kc :: K) s := by
  intro a w hS
  cases kc <;> simp [tag] at ht
  · rename_i a b c; cases c <;> simp at ht
  refine wpIn_ret ?_
  rw [wpK_ret _ _ _ hnb, hQ]
  obtain ⟨g1, g2⟩ := hS.mem.own _ _ _ hk
  have hg := hS.mem.grow
  rw [hmb] at hg
  refine ⟨by rw [hS.df, hdf], _, results_ok hS (by rw [hrs]; exact hr), _, _, ws, Z, rfl, hg, g1, fun g hb => ?_, h⟩
  obtain ⟨q1, q2, _⟩ := g2 g hb
  exact ⟨q1, q2 (by omega)⟩
theorem go_callV (k : Nat) {f : FuncId} {args : Array Operand} {tys : Array TypeId} {vs : List SV} {φ : Value → Hp → List Rw → Prop} (hd : dOk C.nt d = true) (hf : canCall C.P f = true) (ha : evs s.sl args.toList = some vs)
    (hk : lk k s.own = none) (hmh : C.mh ≤ k) (hc : PureV C.P f (dens vs) s.G φ)
    (h : ∀ v G' rs Z, Le s.G G' → φ v G' rs → SGo C (.ops R l :: K) ⟨putS d (rv v) s.sl, stk k (0, .z (ZR rs) Z Z) s.own, G', s.df⟩) : SGo C (.ops R (⟨d, .call ⟨.value (.func f), args, tys⟩, t, pos, aft, none⟩ :: l) :: K) s := by
  intro a w hS
  have hargs : args.map a.eval = (dens vs).toArray := by apply Array.ext'; rw [Array.toList_map]; exact evs_ok hS.sl ha
  have hrun : (execOp a.eval ⟨d, .call ⟨.value (.func f), args, tys⟩, t, pos, aft, none⟩).run C.P w = .ok (.enter f (dens vs).toArray) w := by
    simp only [execOp, resolve, hargs, Act.eval, Deferred.ofValue, Sem.run_bind, Sem.run_pure, Result.andThen_ok, invoke]
    simp [callFunc_ok hf]
  refine K_enter rfl hrun ((hc w hS.mem.has).mono ?_)
  rintro e w' ⟨v, G', rs, Z, rfl, hg, hz, hb, hφ⟩
  have hle : Le s.G G' := fun b o e => hg.keep hS.mem.has e
  have hm := hS.mem.call hg
  have hm' : Mem C (stk k (0, .z (ZR rs) Z Z) s.own) G' w' := by
    refine ⟨fun j c x e => ?_, fun j j' c c' x x' g e e' f f' => ?_, hm.grow⟩
    · rw [lk_stk] at e
      split at e
      · rename_i hj; subst hj; cases e
        refine ⟨hz, fun g hg' => ?_⟩
        obtain ⟨b1, b2⟩ := hb g hg'
        exact ⟨b1, fun _ => Nat.le_trans hS.mem.grow.size b2, fun q => by omega⟩
      · exact hm.own _ _ _ e
    · have key : ∀ {j c x}, lk j s.own = some (c, x) → x.blks c g → Z g → False := by
        intro j c x e f f'
        have := hS.mem.lt e f
        have := (hb g f').2
        omega
      rw [lk_stk] at e e'
      split at e <;> split at e'
      · omega
      · cases e; exact (key e' f' f).elim
      · cases e'; exact (key e f f').elim
      · exact hm.inj _ _ _ _ _ _ _ e e' f f'
  have hS' := hS.put hd (rv v) hm'
  rw [rv_den] at hS'
  exact ⟨_, rfl, h v G' rs Z hle hφ _ _ hS'⟩
end
end Go.Sx
