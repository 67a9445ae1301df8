/-
  Functions: where they are wrong; the node above each one, and how many variables stand at it. Plain Lean.
-/
import Derived.Test.YtccniliiiilbaaaF1
namespace Go.Proofs.Ytccniliiiilbaaa
set_option linter.unusedSimpArgs false
set_option linter.unusedVariables false
open Go.Sx

abbrev Pl := List (Int × Int)
def pa (A : Pl) (i : Nat) : Int := (A.getD i (0, 0)).1
def de (A : Pl) (i : Nat) : Int := (A.getD i (0, 0)).2
/-- One more variable stands at a let's body. -/
def more (op : Int) (k : Nat) : Int := if op = 4 ∧ k = 1 then 1 else 0
def kids (n : Nat) (op : Int) (i : Nat) : Nat → List Int → Pl → Option Pl
  | _, [], A => some A
  | k, c :: l, A => if c ≤ i ∨ (n : Int) ≤ c ∨ 0 ≤ pa A c.toNat then none else kids n op i (k + 1) l (A.set c.toNat ((i : Int), de A i + more op k))
/-- Is the node wrong, whatever stands beneath it? -/
def bad (i : Nat) (x : Nd) (A : Pl) : Prop := (0 < i ∧ pa A i < 0) ∨ 64 < de A i ∨ ben x.op x.l.length = false ∨ nmb x.op x.n (de A i) = false
instance (i : Nat) (x : Nd) (A : Pl) : Decidable (bad i x A) := by unfold bad; infer_instance
def nodeStep (n i : Nat) (x : Nd) (A : Pl) : Option Pl := if bad i x A then none else kids n x.op i 0 x.l A
def plGo (n : Nat) : Nat → List Nd → Pl → Nat ⊕ Pl
  | _, [], A => .inr A
  | i, x :: l, A => match nodeStep n i x A with
    | none => .inl i
    | some A' => plGo n (i + 1) l A'
def pl0 (f : Fu) : Pl := (List.replicate f.nodes.length ((-1 : Int), (0 : Int))).set 0 (-1, f.params)
def out (f : Fu) : Prop := f.params < 0 ∨ 9 < f.params ∨ f.nodes.length < 1 ∨ 200 < f.nodes.length
instance (f : Fu) : Decidable (out f) := by unfold out; infer_instance
def places (f : Fu) : Nat ⊕ Pl := if out f then .inl 0 else plGo f.nodes.length 0 f.nodes (pl0 f)

/-- Entries that are numbers of 64 bits, and depths that are not negative. -/
def okA (A : Pl) : Prop := ∀ x ∈ A, isI64 x.1 ∧ isI64 x.2
theorem okA_set {A : Pl} (h : okA A) {i : Nat} {x : Int × Int} (hx : isI64 x.1 ∧ isI64 x.2) : okA (A.set i x) := by
  intro y hy
  rcases List.mem_or_eq_of_mem_set hy with hy | rfl
  · exact h y hy
  · exact hx
theorem pa_eq {A : Pl} {i : Nat} (h : i < A.length) : pa A i = A[i].1 := by simp [pa, h]
theorem de_eq {A : Pl} {i : Nat} (h : i < A.length) : de A i = A[i].2 := by simp [de, h]
theorem pa_ok {A : Pl} (h : okA A) {i : Nat} (hi : i < A.length) : isI64 (pa A i) := by rw [pa_eq hi]; exact (h _ (List.getElem_mem hi)).1
theorem de_ok {A : Pl} (h : okA A) {i : Nat} (hi : i < A.length) : isI64 (de A i) := by rw [de_eq hi]; exact (h _ (List.getElem_mem hi)).2
theorem pa_set {A : Pl} {c i : Nat} {x : Int × Int} (hc : c < A.length) : pa (A.set c x) i = if i = c then x.1 else pa A i := by
  by_cases h : i = c
  · subst h; simp [pa, hc]
  · simp [pa, h, List.getElem?_set, Ne.symm h]
theorem de_set {A : Pl} {c i : Nat} {x : Int × Int} (hc : c < A.length) : de (A.set c x) i = if i = c then x.2 else de A i := by
  by_cases h : i = c
  · subst h; simp [de, hc]
  · simp [de, h, List.getElem?_set, Ne.symm h]
theorem kids_len {n : Nat} {op : Int} {i : Nat} : ∀ {l : List Int} {k : Nat} {A B : Pl}, kids n op i k l A = some B → B.length = A.length
  | [], k, A, B, h => by simp only [kids, Option.some.injEq] at h; rw [h]
  | c :: l, k, A, B, h => by
    simp only [kids] at h
    split at h
    · cases h
    · rw [kids_len h]; simp
theorem nodeStep_len {n i : Nat} {x : Nd} {A B : Pl} (h : nodeStep n i x A = some B) : B.length = A.length := by
  simp only [nodeStep] at h
  split at h
  · cases h
  · exact kids_len h
theorem kids_ok {n : Nat} {op : Int} {i : Nat} (hi : isI64 i) : ∀ {l : List Int} {k : Nat} {A B : Pl}, okA A → i < A.length → A.length = n → de A i ≤ 64 → kids n op i k l A = some B → okA B
  | [], k, A, B, hA, _, _, _, h => by simp only [kids, Option.some.injEq] at h; rw [← h]; exact hA
  | c :: l, k, A, B, hA, hl, hn, hd, h => by
    simp only [kids] at h
    split at h
    · cases h
    · rename_i hc
      have hd2 := de_ok hA hl
      simp only [isI64] at hd2
      have hx : isI64 ((i : Int), de A i + more op k).1 ∧ isI64 ((i : Int), de A i + more op k).2 := by
        refine ⟨hi, ?_⟩
        simp only [isI64, more]
        split <;> omega
      refine kids_ok hi (okA_set hA hx) (by simpa using hl) (by simpa using hn) ?_ h
      rw [de_set (by omega), if_neg (by omega)]; exact hd
theorem nodeStep_ok {n i : Nat} {x : Nd} {A B : Pl} (hi : isI64 i) (hA : okA A) (hl : i < A.length) (hn : A.length = n) (h : nodeStep n i x A = some B) : okA B := by
  simp only [nodeStep] at h
  split at h
  · cases h
  · rename_i hb
    exact kids_ok hi hA hl hn (by unfold bad at hb; omega) h
theorem plGo_len {n : Nat} : ∀ {l : List Nd} {i : Nat} {A B : Pl}, plGo n i l A = .inr B → B.length = A.length
  | [], i, A, B, h => by simp only [plGo, Sum.inr.injEq] at h; rw [h]
  | x :: l, i, A, B, h => by
    simp only [plGo] at h
    cases h1 : nodeStep n i x A with
    | none => rw [h1] at h; cases h
    | some A' => rw [h1] at h; rw [plGo_len h, nodeStep_len h1]
theorem plGo_ok {n : Nat} (hn : n ≤ 200) : ∀ {l : List Nd} {i : Nat} {A B : Pl}, okA A → A.length = n → i + l.length = n → plGo n i l A = .inr B → okA B
  | [], i, A, B, hA, _, _, h => by simp only [plGo, Sum.inr.injEq] at h; rw [← h]; exact hA
  | x :: l, i, A, B, hA, hl, hi, h => by
    simp only [plGo] at h
    simp only [List.length_cons] at hi
    cases h1 : nodeStep n i x A with
    | none => rw [h1] at h; cases h
    | some A' =>
      rw [h1] at h
      exact plGo_ok hn (nodeStep_ok (by simp only [isI64]; omega) hA (by omega) hl h1) (by rw [nodeStep_len h1, hl]) (by omega) h
theorem pl0_len (f : Fu) : (pl0 f).length = f.nodes.length := by simp [pl0]
theorem pl0_ok {f : Fu} (h : ¬ out f) : okA (pl0 f) := by
  refine okA_set ?_ ?_
  · intro x hx
    have := List.eq_of_mem_replicate hx
    subst this
    simp [isI64]
  · unfold out at h
    simp only [isI64]; omega
theorem places_len {f : Fu} {B : Pl} (h : places f = .inr B) : B.length = f.nodes.length := by
  simp only [places] at h
  split at h
  · cases h
  · rw [plGo_len h, pl0_len]
theorem places_ok {f : Fu} {B : Pl} (h : places f = .inr B) : okA B := by
  simp only [places] at h
  split at h
  · cases h
  · rename_i ho
    exact plGo_ok (by unfold out at ho; omega) (pl0_ok ho) (pl0_len f) (by simp) h
/-- One loaded number of a row. -/
theorem ld1 {α : Type} {A : List α} {f : α → Value} {i off : Nat} (h : i < A.length) (ho : off = i) : ldV false (((A.map f).drop off).take 1) = f A[i] := by
  subst ho
  rw [List.drop_eq_getElem_cons (by simpa using h)]
  simp [ldV]
theorem lay1 {α : Type} {A : List α} {f : α → Value} {i off : Nat} (x : α) {v : Value} (h : i < A.length) (ho : off = i) (hv : v = f x) : lay (A.map f) off [v] = some ((A.set i x).map f) := by
  subst ho hv
  rw [lay_put (by simp; omega)]
  congr 1
  rw [List.map_set, List.set_eq_take_append_cons_drop, if_pos (by simpa using h)]
  simp
end Go.Proofs.Ytccniliiiilbaaa
