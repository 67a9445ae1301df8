/-
  Values of the client language as trees, and how they lie in memory.
-/
import Derived.Test.YtimoldnagdlbcaaSxJ
namespace Go.Sx
set_option linter.unusedSimpArgs false
set_option linter.unusedVariables false

inductive VT where
  | mk (k n : Int) (l : List VT)
def VT.k : VT → Int | .mk k _ _ => k
def VT.n : VT → Int | .mk _ n _ => n
def VT.l : VT → List VT | .mk _ _ l => l
theorem VT.eta (x : VT) : VT.mk x.k x.n x.l = x := by cases x; rfl

theorem VT.ind {p : VT → Prop} (h : ∀ k n l, (∀ x ∈ l, p x) → p (.mk k n l)) : ∀ x, p x
  | .mk k n l => h k n l (fun x hx => VT.ind h x)
termination_by x => SizeOf.sizeOf x
decreasing_by
  have := List.sizeOf_lt_of_mem hx
  simp only [VT.mk.sizeOf_spec]
  omega

def isI64 (n : Int) : Prop := -9223372036854775808 ≤ n ∧ n ≤ 9223372036854775807

mutual
/-- The slice value sl holds the tree's own values. -/
def VT.rep (G : Hp) : VT → Value → Prop
  | .mk k n l, sl => isI64 k ∧ isI64 n ∧ l.length ≤ 9223372036854775807 ∧ ∃ ad cap, sl = .slice ad l.length cap ∧ (l = [] ∨ ∃ b off cs, ad = some ⟨b, off, none⟩ ∧ At G b off cs ∧ repV G l cs)
/-- These cells hold these trees. -/
def repV (G : Hp) : List VT → List Value → Prop
  | [], cs => cs = []
  | x :: l, cs => ∃ sl r, cs = .int .i64 x.k :: .int .i64 x.n :: sl :: r ∧ x.rep G sl ∧ repV G l r
end

/-- A slice value holds these trees. -/
def repS (G : Hp) (l : List VT) (sl : Value) : Prop :=
  l.length ≤ 9223372036854775807 ∧ ∃ ad cap, sl = .slice ad l.length cap ∧ (l = [] ∨ ∃ b off cs, ad = some ⟨b, off, none⟩ ∧ At G b off cs ∧ repV G l cs)

theorem rep_iff {G : Hp} {k n : Int} {l : List VT} {sl : Value} : (VT.mk k n l).rep G sl ↔ isI64 k ∧ isI64 n ∧ repS G l sl := by
  simp only [VT.rep, repS]

mutual
theorem VT.rep_mono {G G' : Hp} (hl : Le G G') : ∀ {x : VT} {sl : Value}, x.rep G sl → x.rep G' sl
  | .mk k n l, sl, h => by
    simp only [VT.rep] at h ⊢
    obtain ⟨h1, h2, h3, ad, cap, h4, h5⟩ := h
    refine ⟨h1, h2, h3, ad, cap, h4, ?_⟩
    rcases h5 with h5 | ⟨b, off, cs, h5, h6, h7⟩
    · exact .inl h5
    · exact .inr ⟨b, off, cs, h5, h6.mono hl, repV_mono hl h7⟩
theorem repV_mono {G G' : Hp} (hl : Le G G') : ∀ {l : List VT} {cs : List Value}, repV G l cs → repV G' l cs
  | [], _, h => by simp only [repV] at h ⊢; exact h
  | x :: l, cs, h => by
    simp only [repV] at h ⊢
    obtain ⟨sl, r, h1, h2, h3⟩ := h
    exact ⟨sl, r, h1, VT.rep_mono hl h2, repV_mono hl h3⟩
end
theorem repS_mono {G G' : Hp} (hl : Le G G') {l : List VT} {sl : Value} (h : repS G l sl) : repS G' l sl := by
  obtain ⟨h3, ad, cap, h4, h5⟩ := h
  refine ⟨h3, ad, cap, h4, ?_⟩
  rcases h5 with h5 | ⟨b, off, cs, h5, h6, h7⟩
  · exact .inl h5
  · exact .inr ⟨b, off, cs, h5, h6.mono hl, repV_mono hl h7⟩

theorem VT.rep_slice {G : Hp} : ∀ {x : VT} {sl : Value}, x.rep G sl → ∃ ad cap, sl = .slice ad x.l.length cap
  | .mk k n l, sl, h => by
    simp only [VT.rep] at h
    obtain ⟨_, _, _, ad, cap, h4, _⟩ := h
    exact ⟨ad, cap, h4⟩
theorem VT.rep_k {G : Hp} : ∀ {x : VT} {sl : Value}, x.rep G sl → isI64 x.k ∧ isI64 x.n
  | .mk k n l, sl, h => by
    simp only [VT.rep] at h
    exact ⟨h.1, h.2.1⟩

theorem repV_len {G : Hp} : ∀ {l : List VT} {cs : List Value}, repV G l cs → cs.length = l.length * 3
  | [], cs, h => by simp only [repV] at h; simp [h]
  | x :: l, cs, h => by
    simp only [repV] at h
    obtain ⟨sl, r, rfl, h2, h3⟩ := h
    have := repV_len h3
    simp only [List.length_cons]; omega
theorem repV_one {G : Hp} : ∀ {l : List VT} {cs : List Value}, repV G l cs → ∀ u ∈ cs, u.oneCell' = true
  | [], cs, h => by simp only [repV] at h; simp [h]
  | x :: l, cs, h => by
    simp only [repV] at h
    obtain ⟨sl, r, rfl, h2, h3⟩ := h
    obtain ⟨ad, cap, rfl⟩ := VT.rep_slice h2
    intro u hu
    simp only [List.mem_cons] at hu
    rcases hu with rfl | rfl | rfl | hu
    · rfl
    · rfl
    · rfl
    · exact repV_one h3 u hu
theorem repV_drop {G : Hp} : ∀ {l : List VT} {cs : List Value} (i : Nat), repV G l cs → repV G (l.drop i) (cs.drop (i * 3))
  | l, cs, 0, h => by simpa using h
  | [], cs, i + 1, h => by simp only [repV] at h; subst h; simp [repV]
  | x :: l, cs, i + 1, h => by
    simp only [repV] at h
    obtain ⟨sl, r, rfl, h2, h3⟩ := h
    have := repV_drop i h3
    rw [show (i + 1) * 3 = i * 3 + 1 + 1 + 1 by omega]
    simpa using this
theorem repV_append {G : Hp} : ∀ {l l' : List VT} {cs cs' : List Value}, repV G l cs → repV G l' cs' → repV G (l ++ l') (cs ++ cs')
  | [], l', cs, cs', h, h' => by simp only [repV] at h; subst h; simpa using h'
  | x :: l, l', cs, cs', h, h' => by
    simp only [repV] at h
    obtain ⟨sl, r, rfl, h2, h3⟩ := h
    simp only [List.cons_append, repV]
    exact ⟨sl, r ++ cs', by simp, h2, repV_append h3 h'⟩
/-- One of the trees, and its three cells. -/
theorem repV_get {G : Hp} {l : List VT} {cs : List Value} (h : repV G l cs) {i : Nat} (hi : i < l.length) : ∃ sl, (cs.drop (i * 3)).take 3 = [.int .i64 l[i].k, .int .i64 l[i].n, sl] ∧ l[i].rep G sl := by
  have h1 := repV_drop i h
  rw [List.drop_eq_getElem_cons hi] at h1
  simp only [repV] at h1
  obtain ⟨sl, r, h2, h3, _⟩ := h1
  exact ⟨sl, by rw [h2]; simp, h3⟩
theorem At_get {G : Hp} {l : List VT} {cs : List Value} {b off : Nat} (ha : At G b off cs) (h : repV G l cs) {i : Nat} (hi : i < l.length) :
    ∃ ad cap, At G b (off + i * 3) [.int .i64 l[i].k, .int .i64 l[i].n, .slice ad l[i].l.length cap] ∧ l[i].rep G (.slice ad l[i].l.length cap) := by
  obtain ⟨sl, h1, h2⟩ := repV_get h hi
  have hlen := repV_len h
  have h3 := ha.sub (i * 3) 3 (by omega)
  rw [h1] at h3
  obtain ⟨ad, cap, rfl⟩ := VT.rep_slice h2
  exact ⟨ad, cap, h3, h2⟩
theorem at_block {G : Hp} {b : Nat} {vs : List Value} {e : TypeId} {fz : Nat × Nat} (h : G b = some (.cells vs.toArray e fz)) : At G b 0 vs := ⟨_, e, fz, h, by simp, fun i hi => by simp⟩
theorem At_kind {G : Hp} {l : List VT} {cs : List Value} {b off : Nat} (ha : At G b off cs) (h : repV G l cs) {i : Nat} (hi : i < l.length) : At G b (off + i * 3) [.int .i64 l[i].k] := by
  obtain ⟨ad, cap, h1, _⟩ := At_get ha h hi
  exact h1.sub 0 1 (by simp)
end Go.Sx
