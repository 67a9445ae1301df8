/-
  Functions that may be: their nodes are a tree; the order in which they are done. Plain Lean.
-/
import Derived.Test.YtccniliiiilbaaaFM
namespace Go.Proofs.Ytccniliiiilbaaa
set_option linter.unusedSimpArgs false
set_option linter.unusedVariables false
open Go.Sx

def ndD : Nd := ⟨0, 0, []⟩
def nd (f : Fu) (i : Nat) : Nd := f.nodes.getD i ndD
def kl (f : Fu) (i : Nat) : List Int := (nd f i).l
theorem nd_eq {f : Fu} {i : Nat} (h : i < f.nodes.length) : nd f i = f.nodes[i] := by simp [nd, h]
theorem kl_out {f : Fu} {i : Nat} (h : f.nodes.length ≤ i) : kl f i = [] := by simp [kl, nd, h, ndD]
theorem kl_lt {f : Fu} {j k : Nat} {c : Int} (h : (kl f j)[k]? = some c) : j < f.nodes.length := by
  rcases Nat.lt_or_ge j f.nodes.length with q | q
  · exact q
  · rw [kl_out q] at h; simp at h

/-- What is known where the children of the nodes below i, and the first k of i, are noted. -/
structure TInv (f : Fu) (i k : Nat) (A : Pl) : Prop where
  len : A.length = f.nodes.length
  kid : ∀ (j m : Nat) (c : Int), (j < i ∨ (j = i ∧ m < k)) → (kl f j)[m]? = some c → (j : Int) < c ∧ c < f.nodes.length ∧ pa A c.toNat = j ∧ de A c.toNat = de A j + more (nd f j).op m
  one : ∀ (j m m' : Nat) (c : Int), (j < i ∨ (j = i ∧ m < k)) → (j < i ∨ (j = i ∧ m' < k)) → (kl f j)[m]? = some c → (kl f j)[m']? = some c → m = m'
  up : ∀ c, c < f.nodes.length → pa A c < 0 ∨ ∃ (j m : Nat), (j < i ∨ (j = i ∧ m < k)) ∧ pa A c = j ∧ (kl f j)[m]? = some (c : Int)
  root : pa A 0 < 0 ∧ de A 0 = f.params
  has : ∀ j, 0 < j → j < i → 0 ≤ pa A j
  ok : ∀ j, j < i → de A j ≤ 64 ∧ ben (nd f j).op (nd f j).l.length = true ∧ nmb (nd f j).op (nd f j).n (de A j) = true
theorem TInv.step {f : Fu} {i k : Nat} {A : Pl} (h : TInv f i k A) {c : Int} (hc : (kl f i)[k]? = some c) (h1 : (i : Int) < c) (h2 : c < f.nodes.length) (h3 : pa A c.toNat < 0) :
    TInv f i (k + 1) (A.set c.toNat ((i : Int), de A i + more (nd f i).op k)) := by
  obtain ⟨c, rfl⟩ : ∃ c' : Nat, c = c' := ⟨c.toNat, by omega⟩
  simp only [Int.toNat_natCast] at *
  have hl : c < A.length := by rw [h.len]; omega
  have hp : ∀ j, pa (A.set c ((i : Int), de A i + more (nd f i).op k)) j = if j = c then (i : Int) else pa A j := fun j => pa_set hl
  have hd : ∀ j, de (A.set c ((i : Int), de A i + more (nd f i).op k)) j = if j = c then de A i + more (nd f i).op k else de A j := fun j => de_set hl
  have old : ∀ (j m : Nat), (j < i ∨ (j = i ∧ m < k + 1)) → ((j < i ∨ (j = i ∧ m < k)) ∨ (j = i ∧ m = k)) := by intro j m h; omega
  refine ⟨by simp [h.len], ?_, ?_, ?_, ?_, ?_, ?_⟩
  · intro j m c2 hD hm
    rcases old j m hD with hD | ⟨rfl, rfl⟩
    · obtain ⟨q1, q2, q3, q4⟩ := h.kid j m c2 hD hm
      obtain ⟨c2, rfl⟩ : ∃ c' : Nat, c2 = c' := ⟨c2.toNat, by omega⟩
      simp only [Int.toNat_natCast] at *
      have hne : c2 ≠ c := by rintro rfl; omega
      rw [hp, if_neg hne, hd, if_neg hne, hd, if_neg (by omega)]
      exact ⟨q1, q2, q3, q4⟩
    · rw [hc] at hm; cases hm
      simp only [Int.toNat_natCast]
      rw [hp, if_pos rfl, hd, if_pos rfl, hd, if_neg (by omega)]
      exact ⟨h1, h2, rfl, rfl⟩
  · intro j m m' c2 hD hD' hm hm'
    rcases old j m hD with hD | ⟨rfl, rfl⟩ <;> rcases old j m' hD' with hD' | ⟨e, rfl⟩
    · exact h.one j m m' c2 hD hD' hm hm'
    · subst e
      rw [hc] at hm'; cases hm'
      have := (h.kid j m c hD hm).2.2.1
      simp only [Int.toNat_natCast] at this
      omega
    · rw [hc] at hm; cases hm
      have := (h.kid j m' c hD' hm').2.2.1
      simp only [Int.toNat_natCast] at this
      omega
    · rfl
  · intro c2 hc2
    rw [hp]
    split
    · rename_i e; subst e
      exact .inr ⟨i, k, .inr ⟨rfl, by omega⟩, rfl, hc⟩
    · rcases h.up c2 hc2 with q | ⟨j, m, q1, q2, q3⟩
      · exact .inl q
      · exact .inr ⟨j, m, by omega, q2, q3⟩
  · rw [hp, if_neg (by omega), hd, if_neg (by omega)]
    exact h.root
  · intro j hj hji
    rw [hp]
    split
    · omega
    · exact h.has j hj hji
  · intro j hj
    rw [hd, if_neg (by omega)]
    exact h.ok j hj
theorem TInv.kidsI {f : Fu} {i : Nat} : ∀ {l : List Int} {k : Nat} {A B : Pl}, TInv f i k A → (kl f i).drop k = l → kids f.nodes.length (nd f i).op i k l A = some B → TInv f i (k + l.length) B
  | [], k, A, B, h, _, hB => by simp only [kids, Option.some.injEq] at hB; subst hB; exact h
  | c :: l, k, A, B, h, hl, hB => by
    simp only [kids] at hB
    split at hB
    · cases hB
    · rename_i hc
      have hck : (kl f i)[k]? = some c := by
        have := congrArg (fun l => l[0]?) hl
        simpa using this
      have hl' : (kl f i).drop (k + 1) = l := by
        have := congrArg (List.drop 1) hl
        simpa using this
      have := TInv.kidsI (h.step hck (by omega) (by omega) (by omega)) hl' hB
      rw [List.length_cons, show k + (l.length + 1) = k + 1 + l.length by omega]
      exact this
theorem TInv.node {f : Fu} {i : Nat} {A B : Pl} (hi : i < f.nodes.length) (h : TInv f i 0 A) (hB : nodeStep f.nodes.length i f.nodes[i] A = some B) : TInv f (i + 1) 0 B := by
  simp only [nodeStep] at hB
  split at hB
  · cases hB
  rename_i hb
  rw [← nd_eq hi] at hb hB
  have h1 := TInv.kidsI h (l := kl f i) rfl hB
  have hk : ∀ {j m : Nat} {c : Int}, (j < i + 1 ∨ (j = i + 1 ∧ m < 0)) → (kl f j)[m]? = some c → (j < i ∨ (j = i ∧ m < 0 + (kl f i).length)) := by
    intro j m c hD hm
    rcases Nat.lt_or_ge j i with q | q
    · exact .inl q
    · have e : j = i := by omega
      subst e
      refine .inr ⟨rfl, ?_⟩
      obtain ⟨q, _⟩ := List.getElem?_eq_some_iff.1 hm
      omega
  have hde : ∀ {l : List Int} {k : Nat} {A B : Pl}, i < A.length → kids f.nodes.length (nd f i).op i k l A = some B → A.length = f.nodes.length → de B i = de A i ∧ (0 ≤ pa A i → 0 ≤ pa B i) := by
    intro l
    induction l with
    | nil => intro k A B _ hB _; simp only [kids, Option.some.injEq] at hB; subst hB; exact ⟨rfl, id⟩
    | cons c l ih =>
      intro k A B hA hB hl
      simp only [kids] at hB
      split at hB
      · cases hB
      · rename_i hc
        obtain ⟨q1, q2⟩ := ih (by simpa using hA) hB (by simpa using hl)
        rw [de_set (by omega), if_neg (by omega)] at q1
        rw [pa_set (by omega), if_neg (by omega)] at q2
        exact ⟨q1, q2⟩
  obtain ⟨d1, d2⟩ := hde (by rw [h.len]; exact hi) hB h.len
  refine ⟨h1.len, fun j m c hD hm => h1.kid j m c (hk hD hm) hm, fun j m m' c hD hD' hm hm' => h1.one j m m' c (hk hD hm) (hk hD' hm') hm hm', fun c hc => ?_, h1.root, fun j hj hji => ?_, fun j hj => ?_⟩
  · rcases h1.up c hc with q | ⟨j, m, q1, q2, q3⟩
    · exact .inl q
    · exact .inr ⟨j, m, by omega, q2, q3⟩
  · rcases Nat.lt_or_ge j i with q | q
    · exact h1.has j hj q
    · have e : j = i := by omega
      subst e
      unfold bad at hb
      exact d2 (by omega)
  · rcases Nat.lt_or_ge j i with q | q
    · exact h1.ok j q
    · have e : j = i := by omega
      subst e
      unfold bad at hb
      rw [d1]
      refine ⟨by omega, ?_, ?_⟩
      · cases hq : ben (nd f j).op (nd f j).l.length with
        | true => rfl
        | false => exact absurd (.inr (.inr (.inl hq))) hb
      · cases hq : nmb (nd f j).op (nd f j).n (de A j) with
        | true => rfl
        | false => exact absurd (.inr (.inr (.inr hq))) hb
theorem TInv.go {f : Fu} : ∀ {l : List Nd} {i : Nat} {A B : Pl}, TInv f i 0 A → f.nodes.drop i = l → plGo f.nodes.length i l A = .inr B → TInv f (i + l.length) 0 B
  | [], i, A, B, h, _, hB => by simp only [plGo, Sum.inr.injEq] at hB; subst hB; exact h
  | x :: l, i, A, B, h, hl, hB => by
    simp only [plGo] at hB
    have hi : i < f.nodes.length := by
      rcases Nat.lt_or_ge i f.nodes.length with q | q
      · exact q
      · rw [List.drop_eq_nil_of_le q] at hl; cases hl
    rw [List.drop_eq_getElem_cons hi] at hl
    cases hl
    cases h1 : nodeStep f.nodes.length i f.nodes[i] A with
    | none => rw [h1] at hB; cases hB
    | some A' =>
      rw [h1] at hB
      have := TInv.go (h.node hi h1) rfl hB
      rw [List.length_cons, Nat.add_comm _ 1, ← Nat.add_assoc]
      exact this
theorem tinv0 {f : Fu} (h : ¬ out f) : TInv f 0 0 (pl0 f) := by
  have hn : 0 < f.nodes.length := by unfold out at h; omega
  have hl : (List.replicate f.nodes.length ((-1 : Int), (0 : Int))).length = f.nodes.length := by simp
  have hp : ∀ j, j < f.nodes.length → pa (pl0 f) j = -1 := fun j hj => by
    rw [pl0, pa_set (by omega)]
    split
    · rfl
    · rw [pa_eq (by omega)]; simp
  refine ⟨by simp [pl0], by intros; omega, by intros; omega, fun c hc => .inl (by rw [hp c hc]; omega), ⟨by rw [hp 0 hn]; omega, ?_⟩, by intros; omega, by intros; omega⟩
  rw [pl0, de_set (by omega), if_pos rfl]

/-- The nodes are a tree. -/
structure Tree (f : Fu) (A : Pl) : Prop where
  len : A.length = f.nodes.length
  pos : 0 < f.nodes.length
  n200 : f.nodes.length ≤ 200
  par9 : 0 ≤ f.params ∧ f.params ≤ 9
  kid : ∀ (j m : Nat) (c : Int), (kl f j)[m]? = some c → (j : Int) < c ∧ c < f.nodes.length ∧ pa A c.toNat = j ∧ de A c.toNat = de A j + more (nd f j).op m
  one : ∀ (j m m' : Nat) (c : Int), (kl f j)[m]? = some c → (kl f j)[m']? = some c → m = m'
  up : ∀ c, 0 < c → c < f.nodes.length → ∃ (j m : Nat), pa A c = j ∧ (kl f j)[m]? = some (c : Int)
  root : pa A 0 < 0 ∧ de A 0 = f.params
  ok : ∀ j, j < f.nodes.length → de A j ≤ 64 ∧ ben (nd f j).op (nd f j).l.length = true ∧ nmb (nd f j).op (nd f j).n (de A j) = true
theorem tree {f : Fu} {A : Pl} (h : places f = .inr A) : Tree f A := by
  simp only [places] at h
  split at h
  · cases h
  rename_i ho
  have h1 := TInv.go (tinv0 ho) rfl h
  simp only [Nat.zero_add, List.drop_zero] at h1
  have ho' := ho
  unfold out at ho'
  refine ⟨h1.len, by omega, by omega, by omega, fun j m c hm => h1.kid j m c (.inl (kl_lt hm)) hm, fun j m m' c hm hm' => h1.one j m m' c (.inl (kl_lt hm)) (.inl (kl_lt hm)) hm hm', fun c h0 hc => ?_, h1.root, h1.ok⟩
  rcases h1.up c hc with q | ⟨j, m, _, q2, q3⟩
  · have := h1.has c h0 hc; omega
  · exact ⟨j, m, q2, q3⟩

/-! ### The order -/
def dn (f : Fu) : Nat → Nat → List Nat
  | 0, i => [i]
  | k + 1, i => (kl f i).flatMap (fun c => dn f k c.toNat) ++ [i]
theorem mem_kl {f : Fu} {A : Pl} (h : Tree f A) {i : Nat} {c : Int} (hc : c ∈ kl f i) : (i : Int) < c ∧ c < f.nodes.length ∧ pa A c.toNat = i := by
  obtain ⟨m, hm⟩ := List.getElem?_of_mem hc
  have := h.kid i m c hm
  exact ⟨this.1, this.2.1, this.2.2.1⟩
theorem dn_fuel {f : Fu} {A : Pl} (h : Tree f A) : ∀ (k k' i : Nat), f.nodes.length - i ≤ k → f.nodes.length - i ≤ k' → dn f k i = dn f k' i
  | 0, 0, i, _, _ => rfl
  | 0, k' + 1, i, h1, _ => by simp [dn, kl_out (show f.nodes.length ≤ i by omega)]
  | k + 1, 0, i, _, h2 => by simp [dn, kl_out (show f.nodes.length ≤ i by omega)]
  | k + 1, k' + 1, i, h1, h2 => by
    simp only [dn]
    congr 1
    rw [List.flatMap_def, List.flatMap_def]
    congr 1
    apply List.map_congr_left
    intro c hc
    have := mem_kl h hc
    exact dn_fuel h k k' c.toNat (by omega) (by omega)
/-- The nodes from one down, as they are done. -/
def ord (f : Fu) (i : Nat) : List Nat := dn f f.nodes.length i
theorem ord_eq {f : Fu} {A : Pl} (h : Tree f A) (i : Nat) : ord f i = (kl f i).flatMap (fun c => ord f c.toNat) ++ [i] := by
  have : ord f i = dn f (f.nodes.length + 1) i := dn_fuel h _ _ _ (by omega) (by omega)
  rw [this]
  rfl
theorem ord_ind {f : Fu} {A : Pl} (_h : Tree f A) {P : Nat → Prop} (step : ∀ i, (∀ c ∈ kl f i, P c.toNat) → P i) : ∀ i, P i := by
  have key : ∀ k i, f.nodes.length - i ≤ k → P i := by
    intro k
    induction k with
    | zero =>
      intro i hi
      refine step i fun c hc => ?_
      rw [kl_out (by omega)] at hc; cases hc
    | succ k ih =>
      intro i hi
      refine step i fun c hc => ih _ ?_
      have := mem_kl _h hc
      omega
  exact fun i => key _ i (Nat.le_refl _)
theorem ord_self {f : Fu} {A : Pl} (h : Tree f A) (i : Nat) : i ∈ ord f i := by rw [ord_eq h]; simp
theorem ord_mem {f : Fu} {A : Pl} (h : Tree f A) : ∀ i, ∀ x ∈ ord f i, i ≤ x ∧ (i < f.nodes.length → x < f.nodes.length) ∧ (x = i ∨ ∃ j ∈ ord f i, j < x ∧ pa A x = j) := by
  refine ord_ind h fun i ih x hx => ?_
  rw [ord_eq h] at hx
  rcases List.mem_append.1 hx with hx | hx
  · obtain ⟨c, hc, hx⟩ := List.mem_flatMap.1 hx
    have hk := mem_kl h hc
    obtain ⟨q1, q2, q3⟩ := ih c hc x hx
    refine ⟨by omega, fun _ => q2 (by omega), .inr ?_⟩
    rcases q3 with rfl | ⟨j, q4, q5, q6⟩
    · exact ⟨i, ord_self h i, by omega, hk.2.2⟩
    · exact ⟨j, by rw [ord_eq h]; exact List.mem_append_left _ (List.mem_flatMap.2 ⟨c, hc, q4⟩), q5, q6⟩
  · simp at hx; subst hx
    exact ⟨Nat.le_refl _, id, .inl rfl⟩
theorem ord_disj {f : Fu} {A : Pl} (h : Tree f A) {i : Nat} {c c' : Int} (hc : c ∈ kl f i) (hc' : c' ∈ kl f i) (hne : c ≠ c') : ∀ x, x ∈ ord f c.toNat → x ∈ ord f c'.toNat → False := by
  intro x
  induction x using Nat.strongRecOn with
  | _ x ih =>
  intro h1 h2
  have k1 := mem_kl h hc
  have k2 := mem_kl h hc'
  obtain ⟨a1, _, a2⟩ := ord_mem h _ x h1
  obtain ⟨b1, _, b2⟩ := ord_mem h _ x h2
  rcases a2 with rfl | ⟨j, a3, a4, a5⟩
  · rcases b2 with e | ⟨j, b3, b4, b5⟩
    · omega
    · have := (ord_mem h _ j b3).1
      omega
  · rcases b2 with rfl | ⟨j', b3, b4, b5⟩
    · have := (ord_mem h _ j a3).1
      omega
    · have e : j = j' := by omega
      subst e
      exact ih j a4 a3 b3
theorem nodup_flat {α β : Type} {g : α → List β} : ∀ {l : List α}, l.Nodup → (∀ x ∈ l, (g x).Nodup) → (∀ x ∈ l, ∀ y ∈ l, x ≠ y → ∀ z, z ∈ g x → z ∈ g y → False) → (l.flatMap g).Nodup
  | [], _, _, _ => by simp
  | x :: l, h, h1, h2 => by
    rw [List.flatMap_cons, List.nodup_append]
    obtain ⟨q1, q2⟩ := List.nodup_cons.1 h
    refine ⟨h1 x (by simp), nodup_flat q2 (fun y hy => h1 y (by simp [hy])) (fun y hy z hz => h2 y (by simp [hy]) z (by simp [hz])), ?_⟩
    intro a ha b hb e
    subst e
    obtain ⟨y, hy, hb⟩ := List.mem_flatMap.1 hb
    exact h2 x (by simp) y (by simp [hy]) (fun e => q1 (e ▸ hy)) a ha hb
theorem kl_nodup {f : Fu} {A : Pl} (h : Tree f A) (i : Nat) : (kl f i).Nodup := by
  rw [List.nodup_iff_pairwise_ne, List.pairwise_iff_getElem]
  intro a b ha hb hab e
  have := h.one i a b (kl f i)[a] (List.getElem?_eq_getElem ha) (by rw [e]; exact List.getElem?_eq_getElem hb)
  omega
theorem ord_nodup {f : Fu} {A : Pl} (h : Tree f A) : ∀ i, (ord f i).Nodup := by
  refine ord_ind h fun i ih => ?_
  rw [ord_eq h, List.nodup_append]
  refine ⟨nodup_flat (kl_nodup h i) ih (fun c hc c' hc' hne z hz hz' => ord_disj h hc hc' hne z hz hz'), by simp, ?_⟩
  intro a ha b hb e
  simp at hb
  subst hb e
  obtain ⟨c, hc, ha⟩ := List.mem_flatMap.1 ha
  have := mem_kl h hc
  have := (ord_mem h _ _ ha).1
  omega
theorem nodup_le : ∀ (n : Nat) (l : List Nat), l.Nodup → (∀ x ∈ l, x < n) → l.length ≤ n
  | 0, l, _, h => by
    cases l with
    | nil => simp
    | cons x l => have := h x (by simp); omega
  | n + 1, l, h, hl => by
    have h1 := nodup_le n (l.erase n) (h.erase n) (fun x hx => by
      have hx' := (List.Nodup.mem_erase_iff h).1 hx
      have := hl x hx'.2
      have := hx'.1
      omega)
    have h2 := List.length_erase_le (a := n) (l := l)
    have h3 : l.length ≤ (l.erase n).length + 1 := by
      by_cases hm : n ∈ l
      · rw [List.length_erase_of_mem hm]; omega
      · rw [List.erase_of_not_mem hm]; omega
    omega
theorem ord_len {f : Fu} {A : Pl} (h : Tree f A) {i : Nat} (hi : i < f.nodes.length) : (ord f i).length ≤ 200 := by
  have := nodup_le f.nodes.length (ord f i) (ord_nodup h i) (fun x hx => (ord_mem h i x hx).2.1 hi)
  have := h.n200
  omega
/-- Each node's own order stands in the whole one. -/
theorem ord_in {f : Fu} {A : Pl} (h : Tree f A) : ∀ i, i < f.nodes.length → ∃ p s, ord f 0 = p ++ ord f i ++ s := by
  intro i
  induction i using Nat.strongRecOn with
  | _ i ih =>
  intro hi
  rcases Nat.eq_zero_or_pos i with rfl | h0
  · exact ⟨[], [], by simp⟩
  · obtain ⟨j, m, hj, hm⟩ := h.up i h0 hi
    have hk := h.kid j m i hm
    obtain ⟨p, s, e⟩ := ih j (by omega) (by omega)
    have hmem := List.mem_of_getElem? hm
    obtain ⟨l1, l2, e2⟩ := List.append_of_mem hmem
    refine ⟨p ++ l1.flatMap (fun c => ord f c.toNat), l2.flatMap (fun c => ord f c.toNat) ++ [j] ++ s, ?_⟩
    rw [e, ord_eq h j, e2]
    simp [List.flatMap_append, List.flatMap_cons]
end Go.Proofs.Ytccniliiiilbaaa
