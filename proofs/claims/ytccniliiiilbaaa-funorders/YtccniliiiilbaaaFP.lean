/-
  Functions that may be: when each node is done. Plain Lean.
-/
import Derived.Test.YtccniliiiilbaaaFI
namespace Go.Proofs.Ytccniliiiilbaaa
set_option linter.unusedSimpArgs false
set_option linter.unusedVariables false
open Go.Sx

def ordN (f : Fu) : List Nat := match places f with
  | .inl _ => []
  | .inr _ => ord f 0
theorem ordP_eq (f : Fu) : ordP f = (ordN f).map fun (i : Nat) => ((i : Int), (nd f i).op) := by
  simp only [ordP, ordN]
  cases places f <;> simp
theorem ordN_nodup (f : Fu) : (ordN f).Nodup := by
  simp only [ordN]
  cases h : places f with
  | inl i => simp
  | inr A => exact ord_nodup (tree h) 0
theorem ordN_lt {f : Fu} {x : Nat} (hx : x ∈ ordN f) : x < f.nodes.length := by
  simp only [ordN] at hx
  cases h : places f with
  | inl i => rw [h] at hx; simp at hx
  | inr A => rw [h] at hx; exact (ord_mem (tree h) 0 x hx).2.1 (tree h).pos

theorem idx_get : ∀ {L : List Nat} {k : Nat}, L.Nodup → (hk : k < L.length) → L.idxOf L[k] = k
  | x :: L, 0, _, _ => by simp
  | x :: L, k + 1, h, hk => by
    obtain ⟨h1, h2⟩ := List.nodup_cons.1 h
    have hm : L[k]'(by simpa using hk) ∈ L := List.getElem_mem _
    simp only [List.getElem_cons_succ]
    have hne : (x == L[k]'(by simpa using hk)) = false := by
      rw [beq_eq_false_iff_ne]
      intro e
      exact h1 (e ▸ hm)
    rw [List.idxOf_cons, hne]
    simp [idx_get h2 (by simpa using hk)]
theorem idx_split {L p s : List Nat} {x : Nat} (hN : L.Nodup) (h : L = p ++ x :: s) : L.idxOf x = p.length := by
  have hk : p.length < L.length := by rw [h]; simp
  have := idx_get hN hk
  have e : L[p.length] = x := by simp [h]
  rw [e] at this
  exact this
/-- When each node is done, behind k of them. -/
def wh (L : List Nat) (n : Nat) : Nat → List Int
  | 0 => List.replicate n 0
  | k + 1 => (wh L n k).set (L.getD k 0) ((k : Int) + 1)
theorem wh_len (L : List Nat) (n : Nat) : ∀ k, (wh L n k).length = n
  | 0 => by simp [wh]
  | k + 1 => by simp [wh, wh_len L n k]
theorem wh_at {L : List Nat} {n : Nat} (hN : L.Nodup) : ∀ {k : Nat}, k ≤ L.length → ∀ {x : Nat}, x < n → (wh L n k)[x]? = some (if L.idxOf x < k then (L.idxOf x : Int) + 1 else 0)
  | 0, _, x, hx => by simp [wh, hx]
  | k + 1, hk, x, hx => by
    have hk' : k < L.length := by omega
    have hg : L.getD k 0 = L[k] := by simp [hk']
    simp only [wh]
    rw [List.getElem?_set, wh_len, wh_at hN (by omega) hx, hg]
    by_cases e : L[k] = x
    · subst e
      rw [if_pos rfl, if_pos hx, idx_get hN hk', if_pos (by omega)]
    · rw [if_neg e]
      have hne : L.idxOf x ≠ k := fun q => by
        apply e
        have hl : L.idxOf x < L.length := by omega
        have := List.getElem_idxOf hl
        simp only [q] at this
        exact this
      by_cases q : L.idxOf x < k
      · rw [if_pos q, if_pos (by omega)]
      · rw [if_neg q, if_neg (by omega)]
theorem nodup_sub : ∀ {l m : List Nat}, l.Nodup → (∀ x ∈ l, x ∈ m) → l.length ≤ m.length
  | [], _, _, _ => by simp
  | x :: l, m, h, hs => by
    obtain ⟨h1, h2⟩ := List.nodup_cons.1 h
    have hx := hs x (by simp)
    have := nodup_sub (l := l) (m := m.erase x) h2 (fun y hy => (List.mem_erase_of_ne (by rintro rfl; exact h1 hy)).2 (hs y (by simp [hy])))
    rw [List.length_erase_of_mem hx] at this
    have := List.length_pos_of_mem hx
    simp only [List.length_cons]
    omega
section
variable {f : Fu} {A : Pl}
theorem ord_all (h : Tree f A) {i : Nat} (hi : i < f.nodes.length) : i ∈ ord f 0 := by
  obtain ⟨p, s, e⟩ := ord_in h i hi
  rw [e]
  simp [ord_self h i]
theorem ord_full (h : Tree f A) : (ord f 0).length = f.nodes.length := by
  have h1 := nodup_le f.nodes.length (ord f 0) (ord_nodup h 0) (fun x hx => (ord_mem h 0 x hx).2.1 h.pos)
  have h2 := nodup_sub (l := List.range f.nodes.length) (m := ord f 0) List.nodup_range (fun x hx => ord_all h (List.mem_range.1 hx))
  simp at h2
  omega
theorem idx_lt (h : Tree f A) {i : Nat} (hi : i < f.nodes.length) : (ord f 0).idxOf i < (ord f 0).length := List.idxOf_lt_length_of_mem (ord_all h hi)
theorem idx_root (h : Tree f A) : (ord f 0).idxOf 0 + 1 = f.nodes.length := by
  have e := ord_eq h 0
  have := idx_split (ord_nodup h 0) (p := (kl f 0).flatMap (fun c => ord f c.toNat)) (s := []) (x := 0) e
  rw [this, ← ord_full h]
  have := congrArg List.length e
  simp only [List.length_append, List.length_cons, List.length_nil] at this
  omega
theorem kid_idx (h : Tree f A) {i k : Nat} (hi : i < f.nodes.length) {c : Int} (hc : (kl f i)[k]? = some c) :
    ∃ p : Nat, (ord f 0).idxOf c.toNat = p + (((kl f i).take k).flatMap (fun c => ord f c.toNat)).length + ((kl f c.toNat).flatMap (fun c => ord f c.toNat)).length ∧
      (∀ k' c', (kl f i)[k']? = some c' → (ord f 0).idxOf c'.toNat = p + (((kl f i).take k').flatMap (fun c => ord f c.toNat)).length + ((kl f c'.toNat).flatMap (fun c => ord f c.toNat)).length) ∧
      (ord f 0).idxOf i = p + ((kl f i).flatMap (fun c => ord f c.toNat)).length := by
  obtain ⟨p, s, e⟩ := ord_in h i hi
  have hN := ord_nodup h 0
  have key : ∀ k' c', (kl f i)[k']? = some c' → (ord f 0).idxOf c'.toNat = p.length + (((kl f i).take k').flatMap (fun c => ord f c.toNat)).length + ((kl f c'.toNat).flatMap (fun c => ord f c.toNat)).length := by
    intro k' c' hc'
    obtain ⟨hk', hc'⟩ := List.getElem?_eq_some_iff.1 hc'
    have hs : kl f i = (kl f i).take k' ++ c' :: (kl f i).drop (k' + 1) := by rw [← hc', ← List.drop_eq_getElem_cons hk', List.take_append_drop]
    have e2 : ord f 0 = (p ++ ((kl f i).take k').flatMap (fun c => ord f c.toNat) ++ (kl f c'.toNat).flatMap (fun c => ord f c.toNat)) ++ c'.toNat :: (((kl f i).drop (k' + 1)).flatMap (fun c => ord f c.toNat) ++ [i] ++ s) := by
      rw [e, ord_eq h i]
      conv => lhs; rw [hs]
      rw [List.flatMap_append, List.flatMap_cons, ord_eq h c'.toNat]
      simp [List.append_assoc]
    rw [idx_split hN e2]
    simp only [List.length_append]
  refine ⟨p.length, key k c hc, key, ?_⟩
  have e2 : ord f 0 = (p ++ (kl f i).flatMap (fun c => ord f c.toNat)) ++ i :: s := by
    rw [e, ord_eq h i]; simp
  rw [idx_split hN e2]
  simp
theorem kid_before (h : Tree f A) {i k : Nat} (hi : i < f.nodes.length) {c : Int} (hc : (kl f i)[k]? = some c) : (ord f 0).idxOf c.toNat < (ord f 0).idxOf i := by
  obtain ⟨p, h1, _, h2⟩ := kid_idx h hi hc
  obtain ⟨hk, hc'⟩ := List.getElem?_eq_some_iff.1 hc
  have hs : kl f i = (kl f i).take k ++ c :: (kl f i).drop (k + 1) := by rw [← hc', ← List.drop_eq_getElem_cons hk, List.take_append_drop]
  have hl : ((kl f i).flatMap (fun c => ord f c.toNat)).length = (((kl f i).take k).flatMap (fun c => ord f c.toNat)).length + ((kl f c.toNat).flatMap (fun c => ord f c.toNat)).length + 1 + (((kl f i).drop (k + 1)).flatMap (fun c => ord f c.toNat)).length := by
    conv => lhs; rw [hs]
    rw [List.flatMap_append, List.flatMap_cons, ord_eq h c.toNat]
    simp only [List.length_append, List.length_cons, List.length_nil]
    omega
  omega
theorem sib_before (h : Tree f A) {i k : Nat} (hi : i < f.nodes.length) {c c' : Int} (hc' : (kl f i)[k]? = some c') (hc : (kl f i)[k + 1]? = some c) : (ord f 0).idxOf c'.toNat < (ord f 0).idxOf c.toNat := by
  obtain ⟨p, h1, h3, _⟩ := kid_idx h hi hc
  have h2 := h3 k c' hc'
  obtain ⟨hk, hcc⟩ := List.getElem?_eq_some_iff.1 hc'
  have hs : (kl f i).take (k + 1) = (kl f i).take k ++ [c'] := by rw [← hcc, List.take_append_getElem]
  rw [hs, List.flatMap_append] at h1
  simp only [List.flatMap_cons, List.flatMap_nil, List.append_nil, List.length_append, ord_eq h c'.toNat, List.length_cons, List.length_nil] at h1
  omega
end
end Go.Proofs.Ytccniliiiilbaaa
