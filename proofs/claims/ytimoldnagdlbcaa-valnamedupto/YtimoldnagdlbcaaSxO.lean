/-
  A symbolic walk over the model's code: new blocks that a region's order lets come up early or late. Generic: names no program.
-/
import Derived.Test.YtimoldnagdlbcaaSxN
namespace Go.Sx
set_option linter.unusedSimpArgs false
set_option linter.unusedVariables false
open Go.RowKit

/-- An operation that lays a block: its number, its slot, the handle, the type, the cells. -/
structure FA where
  i : Nat
  d : Nat
  h : Nat
  T : TypeId
  z : List SV

def subs : List Nat → List (List Nat)
  | [] => [[]]
  | a :: l => subs l ++ (subs l).map (a :: ·)
theorem subs_self : ∀ l, l ∈ subs l
  | [] => by simp [subs]
  | a :: l => by simp [subs, subs_self l]
theorem subs_nil : ∀ l, [] ∈ subs l
  | [] => by simp [subs]
  | a :: l => by simp [subs, subs_nil l]
theorem subs_filter (q : Nat → Bool) : ∀ (l L : List Nat), L ∈ subs l → L.filter q ∈ subs l
  | [], L, h => by simp [subs] at h; subst h; simp [subs]
  | a :: l, L, h => by
    simp only [subs, List.mem_append, List.mem_map] at h ⊢
    rcases h with h | ⟨L', h, rfl⟩
    · exact .inl (subs_filter q l L h)
    · simp only [List.filter_cons]
      split
      · exact .inr ⟨_, subs_filter q l L' h, rfl⟩
      · exact .inl (subs_filter q l L' h)
theorem subs_mem : ∀ (l L : List Nat), L ∈ subs l → ∀ x ∈ L, x ∈ l
  | [], L, h, x, hx => by simp [subs] at h; subst h; cases hx
  | a :: l, L, h, x, hx => by
    simp only [subs, List.mem_append, List.mem_map] at h
    rcases h with h | ⟨L', h, rfl⟩
    · exact List.mem_cons_of_mem _ (subs_mem l L h x hx)
    · rcases List.mem_cons.1 hx with rfl | hx
      · simp
      · exact List.mem_cons_of_mem _ (subs_mem l L' h x hx)

def unl (L : List Nat) (listed : Array Bool) : Array Bool := L.foldl (fun l j => l.setIfInBounds j false) listed
theorem unl_get : ∀ (L : List Nat) (listed : Array Bool) (j : Nat), (unl L listed)[j]? = if j ∈ L then (listed[j]?).map (fun _ => false) else listed[j]?
  | [], listed, j => by simp [unl]
  | a :: L, listed, j => by
    have := unl_get L (listed.setIfInBounds a false) j
    simp only [unl, List.foldl_cons] at this ⊢
    rw [this]
    by_cases hj : j = a
    · subst hj
      by_cases hL : j ∈ L
      · simp only [hL, if_true, List.mem_cons, true_or]
        rcases Nat.lt_or_ge j listed.size with h | h
        · simp [h]
        · simp [Array.getElem?_eq_none h]; exact h
      · simp only [hL, if_false, List.mem_cons, true_or, if_true]
        rcases Nat.lt_or_ge j listed.size with h | h
        · simp [h]
        · simp [Array.getElem?_eq_none h]; exact h
    · rw [Array.getElem?_setIfInBounds_ne (Ne.symm hj)]
      simp [hj]

/-- What the blocks that are laid already add to the slots and to the things; L: those that are not laid yet. -/
def addS (L : List Nat) (bs : Nat → Nat) : List FA → List (Nat × SV) → List (Nat × SV)
  | [], sl => sl
  | a :: A, sl => if L.contains a.i then addS L bs A sl else stk a.d (.p a.h (bs a.i) 0) (addS L bs A sl)
def addO (L : List Nat) (bs : Nat → Nat) : List FA → Owns → Owns
  | [], own => own
  | a :: A, own => if L.contains a.i then addO L bs A own else stk a.h (bs a.i, .c a.T a.z) (addO L bs A own)

def inD (A : List FA) (k : Nat) : Bool := A.any (fun a => a.d == k)
def inH (A : List FA) (k : Nat) : Bool := A.any (fun a => a.h == k)
/-- No two alike. -/
def apartA : List FA → Bool
  | [] => true
  | a :: A => !(inD A a.d) && !(inH A a.h) && !(A.any (fun b => b.i == a.i)) && apartA A

theorem addS_out {L : List Nat} {bs : Nat → Nat} {k : Nat} : ∀ {A : List FA} {sl : List (Nat × SV)}, inD A k = false → lk k (addS L bs A sl) = lk k sl
  | [], sl, _ => rfl
  | a :: A, sl, h => by
    simp only [inD, List.any_cons, Bool.or_eq_false_iff] at h
    simp only [addS]
    split
    · exact addS_out (A := A) h.2
    · rw [lk_stk, if_neg (fun e => by subst e; simp at h), addS_out (A := A) h.2]
theorem addO_out {L : List Nat} {bs : Nat → Nat} {k : Nat} : ∀ {A : List FA} {own : Owns}, inH A k = false → lk k (addO L bs A own) = lk k own
  | [], own, _ => rfl
  | a :: A, own, h => by
    simp only [inH, List.any_cons, Bool.or_eq_false_iff] at h
    simp only [addO]
    split
    · exact addO_out (A := A) h.2
    · rw [lk_stk, if_neg (fun e => by subst e; simp at h), addO_out (A := A) h.2]
/-- At the slot of one of them. -/
theorem addS_in {L : List Nat} {bs : Nat → Nat} : ∀ {A : List FA} {sl : List (Nat × SV)} {a : FA}, apartA A = true → a ∈ A → lk a.d (addS L bs A sl) = if L.contains a.i then lk a.d sl else some (.p a.h (bs a.i) 0)
  | [], _, _, _, h => by cases h
  | b :: A, sl, a, hap, h => by
    simp only [apartA, Bool.and_eq_true, Bool.not_eq_true'] at hap
    obtain ⟨⟨⟨h1, h2⟩, h3⟩, h4⟩ := hap
    simp only [addS]
    rcases List.mem_cons.1 h with rfl | hm
    · split
      · exact addS_out h1
      · rw [lk_stk, if_pos rfl]
    · have hne : a.d ≠ b.d := by
        intro e
        have : inD A b.d = true := by simp only [inD, List.any_eq_true]; exact ⟨a, hm, by simp [e]⟩
        rw [this] at h1; cases h1
      split
      · exact addS_in h4 hm
      · rw [lk_stk, if_neg hne]; exact addS_in h4 hm
theorem addO_in {L : List Nat} {bs : Nat → Nat} : ∀ {A : List FA} {own : Owns} {a : FA}, apartA A = true → a ∈ A → lk a.h (addO L bs A own) = if L.contains a.i then lk a.h own else some (bs a.i, .c a.T a.z)
  | [], _, _, _, h => by cases h
  | b :: A, own, a, hap, h => by
    simp only [apartA, Bool.and_eq_true, Bool.not_eq_true'] at hap
    obtain ⟨⟨⟨h1, h2⟩, h3⟩, h4⟩ := hap
    simp only [addO]
    rcases List.mem_cons.1 h with rfl | hm
    · split
      · exact addO_out h2
      · rw [lk_stk, if_pos rfl]
    · have hne : a.h ≠ b.h := by
        intro e
        have : inH A b.h = true := by simp only [inH, List.any_eq_true]; exact ⟨a, hm, by simp [e]⟩
        rw [this] at h2; cases h2
      split
      · exact addO_in h4 hm
      · rw [lk_stk, if_neg hne]; exact addO_in h4 hm
theorem inD_mem {A : List FA} {k : Nat} (h : inD A k = true) : ∃ a ∈ A, a.d = k := by simpa [inD] using h
theorem inH_mem {A : List FA} {k : Nat} (h : inH A k = true) : ∃ a ∈ A, a.h = k := by simpa [inH] using h
theorem apart_i : ∀ {A : List FA} {a b : FA}, apartA A = true → a ∈ A → b ∈ A → a.i = b.i → a = b
  | [], _, _, _, h, _, _ => by cases h
  | c :: A, a, b, hap, ha, hb, e => by
    simp only [apartA, Bool.and_eq_true, Bool.not_eq_true'] at hap
    obtain ⟨⟨⟨h1, h2⟩, h3⟩, h4⟩ := hap
    have key : ∀ x ∈ A, x.i ≠ c.i := fun x hx q => by
      have : A.any (fun b => b.i == c.i) = true := List.any_eq_true.2 ⟨x, hx, by simp [q]⟩
      rw [this] at h3; cases h3
    rcases List.mem_cons.1 ha with q1 | q1 <;> rcases List.mem_cons.1 hb with q2 | q2
    · rw [q1, q2]
    · rw [q1] at e; exact absurd e.symm (key b q2)
    · rw [q2] at e; exact absurd e (key a q1)
    · exact apart_i h4 q1 q2 e

section
variable {C : Ctx} {K : List KI} {s : St} {R : Array Oper} {l : List Oper} {d : Option Tmp} {t : TypeId} {pos : String} {aft : Array Edge} {own0 : Owns} {G0 : Hp} {sl : List (Nat × SV)} {own : Owns} {G : Hp} {df : List Deferred}

/-- A region whose operations A lay blocks at whatever time. -/
def HF (C : Ctx) (K : List KI) (R : Array Oper) (own0 : Owns) (G0 : Hp) (A : List FA) (n : Nat) (listed : Array Bool) (s : St) : Prop :=
  ∀ L ∈ subs (A.map (·.i)), ∀ bs m, n + L.length ≤ m → SGo C (.h (Hold C own0 G0) R m (unl L listed) :: K) ⟨addS L bs A s.sl, addO L bs A s.own, s.G, s.df⟩

theorem go_newAt (k : Nat) {op : Op} (hd : dOk C.nt d = true) {r : TypeId × List SV × (Nat → Nat → SV)} (ho : opAlloc C.ty s.sl op = some r) (hk : lk k s.own = none) (hmh : C.mh ≤ k)
    (h : ∀ b, SGo C (.ops R l :: K) ⟨putS d (r.2.2 k b) s.sl, stk k (b, .c r.1 r.2.1) s.own, s.G, s.df⟩) : SGo C (.ops R (⟨d, op, t, pos, aft, none⟩ :: l) :: K) s := by
  intro a w hS
  have hrun := alloc_ok hS (o := ⟨d, op, t, pos, aft, none⟩) (e := r.1) (cells := r.2.1) (mk := r.2.2) ho k
  exact K_value rfl hrun (h _ _ _ (hS.put hd _ (hS.mem.new hk hmh rfl rfl rfl (by simp) (fun j hj => alloc_old w _ hj) (alloc_new w _) (fun g hg => by simp only [OO.blks] at hg; omega))))

/-- Of the operations A: they lay blocks, and stand in the region so. -/
def AOk (C : Ctx) (R : Array Oper) (A : List FA) : Prop := ∀ a ∈ A, ∃ t pos aft ti, R[a.i]? = some ⟨some a.d, .alloc a.T, t, pos, aft, none⟩ ∧ C.ty a.T = some ti ∧ a.z = ti.zero.map .v ∧ a.d < C.nt ∧ C.mh ≤ a.h

theorem aok_nil : AOk C R [] := fun _ h => by cases h
theorem aok_cons {a : FA} {A : List FA} (h : ∃ t pos aft ti, R[a.i]? = some ⟨some a.d, .alloc a.T, t, pos, aft, none⟩ ∧ C.ty a.T = some ti ∧ a.z = ti.zero.map .v ∧ a.d < C.nt ∧ C.mh ≤ a.h) (h' : AOk C R A) : AOk C R (a :: A) := fun b hb => by
  rcases List.mem_cons.1 hb with e | e
  · rw [e]; exact h
  · exact h' b e
def chkC (R : Array Oper) (listed : Array Bool) (A : List FA) (i : Nat) : Bool :=
  (subs (A.map (·.i))).all fun L => ((Region.ready .any R (unl L listed)).all fun j => j == i || L.contains j) && (Region.ready .any R (unl L listed)).contains i
def chkF (R : Array Oper) (listed : Array Bool) (A : List FA) : Bool :=
  (subs (A.map (·.i))).all fun L => L.isEmpty || (((Region.ready .any R (unl L listed)).all fun j => L.contains j) && !(Region.ready .any R (unl L listed)).isEmpty)
def listA (listed : Array Bool) (A : List FA) : Bool := A.all fun a => listed.getD a.i false
def ownA (own : Owns) (A : List FA) : Prop := ∀ a ∈ A, lk a.h own = none

theorem oA_nil {own : Owns} : ownA own [] := fun _ h => by cases h
theorem oA_cons {own : Owns} {a : FA} {A : List FA} (h : lk a.h own = none) (h' : ownA own A) : ownA own (a :: A) := fun b hb => by
  rcases List.mem_cons.1 hb with e | e
  · rw [e]; exact h
  · exact h' b e

/-- One of A comes up. -/
theorem hf_alloc {A : List FA} {n : Nat} {listed : Array Bool} (hap : apartA A = true) (haok : AOk C R A) (hla : listA listed A = true) (hoA : ownA own A) (ho0 : ∀ j y, lk j own0 = some y → lk j own = some y) (hG0 : Le G0 G)
    {L : List Nat} (hL : L ∈ subs (A.map (·.i))) {bs : Nat → Nat} {m j : Nat} (hj : j ∈ L) (hm : n + L.length ≤ m + 1)
    (ih : ∀ L' ∈ subs (A.map (·.i)), L'.length < L.length → ∀ bs m, n + L'.length ≤ m → SGo C (.h (Hold C own0 G0) R m (unl L' listed) :: K) ⟨addS L' bs A sl, addO L' bs A own, G, df⟩)
    {a : Act} {w : World} (hS : Sat C ⟨addS L bs A sl, addO L bs A own, G, df⟩ a w) :
    wpOpIn (FR C.ro) 0 C.P R (wpK C.P C.ro C.Q K) j (fun a' w' => Hold C own0 G0 w' ∧ wpAnyHI C.P C.ro .any R (wpK C.P C.ro C.Q K) (Hold C own0 G0) m ((unl L listed).setIfInBounds j true) a' w') a w := by
  have hjA := subs_mem _ _ hL j hj
  obtain ⟨fa, hfa, rfl⟩ := List.mem_map.1 hjA
  obtain ⟨t, pos, aft, ti, hR, hT, hz, hd, hmh⟩ := haok fa hfa
  refine h_step hR ?_
  have hLc : L.contains fa.i = true := by simpa using hj
  have hkn : lk fa.h (addO L bs A own) = none := by rw [addO_in hap hfa, if_pos hLc]; exact hoA fa hfa
  have hlt : (L.filter (fun x => x != fa.i)).length < L.length := List.length_filter_lt_length_iff_exists.2 ⟨fa.i, hj, by simp⟩
  have main : SGo C (.ops R [⟨some fa.d, .alloc fa.T, t, pos, aft, none⟩] :: .hs (Hold C own0 G0) :: .h (Hold C own0 G0) R m ((unl L listed).setIfInBounds fa.i true) :: K) ⟨addS L bs A sl, addO L bs A own, G, df⟩ := by
    refine go_newAt fa.h (by simp [dOk, hd]) (r := (fa.T, ti.zero.map .v, fun h b => .p h b 0)) (by simp [opAlloc, hT]) hkn hmh ?_
    intro b
    have hnext := ih _ (subs_filter (fun x => x != fa.i) _ _ hL) hlt (fun x => if x = fa.i then b else bs x) m (by omega)
    have hun : (unl L listed).setIfInBounds fa.i true = unl (L.filter (fun x => x != fa.i)) listed := by
      have hlst : listed[fa.i]? = some true := by
        have := List.all_eq_true.1 hla fa hfa
        rcases Nat.lt_or_ge fa.i listed.size with q | q
        · simp only [Array.getD_eq_getD_getElem?, Array.getElem?_eq_getElem q] at this ⊢
          simpa using this
        · simp [Array.getElem?_eq_none q] at this
      apply Array.ext_getElem?
      intro x
      rw [unl_get]
      by_cases hx : fa.i = x
      · subst hx
        have hsz : fa.i < (unl L listed).size := by
          have h1 := unl_get L listed fa.i
          rw [if_pos hj, hlst] at h1
          exact (Array.getElem?_eq_some_iff.1 h1).1
        rw [Array.getElem?_setIfInBounds_self_of_lt hsz]
        simp [hlst]
      · rw [Array.getElem?_setIfInBounds_ne hx, unl_get]
        have : (x ∈ L.filter (fun x => x != fa.i)) ↔ x ∈ L := by simp [List.mem_filter]; intro _ q; exact hx q.symm
        simp only [this]
    rw [hun]
    refine go_ops (h_hs (fun i y e => ?_) hG0 ?_)
    · have h1 := ho0 i y e
      have hn : inH A i = false := by
        cases hq : inH A i with
        | false => rfl
        | true =>
          obtain ⟨x, hx, rfl⟩ := inH_mem hq
          rw [hoA x hx] at h1; cases h1
      show lk i (stk fa.h _ (addO L bs A own)) = some y
      rw [lk_stk, if_neg (fun q => by subst q; rw [hoA fa hfa] at h1; cases h1), addO_out hn]; exact h1
    · refine SGo.weaken (s' := ⟨addS (L.filter (fun x => x != fa.i)) (fun x => if x = fa.i then b else bs x) A sl, addO (L.filter (fun x => x != fa.i)) (fun x => if x = fa.i then b else bs x) A own, G, df⟩) rfl rfl (fun i y e => .inl ?_) (fun i y e => ?_) hnext
      · show lk i (stk fa.d _ (addS L bs A sl)) = some y
        rw [lk_stk]
        cases hq : inD A i with
        | false =>
          have hne : i ≠ fa.d := by intro q; subst q; have : inD A fa.d = true := by simp only [inD, List.any_eq_true]; exact ⟨fa, hfa, by simp⟩
                                    rw [this] at hq; cases hq
          rw [if_neg hne, addS_out hq]
          simp only at e
          rw [addS_out hq] at e; exact e
        | true =>
          obtain ⟨x, hx, rfl⟩ := inD_mem hq
          simp only at e
          rw [addS_in hap hx] at e
          rw [addS_in hap hx]
          by_cases hxi : x.i = fa.i
          · have := apart_i hap hx hfa hxi
            subst this
            rw [if_pos rfl]
            rw [if_neg (by simp [List.mem_filter])] at e
            simpa using e
          · have hdne : x.d ≠ fa.d := by
              intro q
              have e1 := addS_in (L := []) (bs := fun y => y) (sl := []) hap hx
              have e2 := addS_in (L := []) (bs := fun y => y) (sl := []) hap hfa
              rw [q] at e1
              rw [e1] at e2
              simp at e2
              exact hxi e2.2
            rw [if_neg hdne]
            have hcc : (L.filter (fun x => x != fa.i)).contains x.i = L.contains x.i := by
              rw [Bool.eq_iff_iff]
              simp [List.mem_filter, hxi]
            rw [hcc] at e
            rw [if_neg hxi] at e
            exact e
      · show lk i (stk fa.h _ (addO L bs A own)) = some y
        rw [lk_stk]
        cases hq : inH A i with
        | false =>
          have hne : i ≠ fa.h := by intro q; subst q; have : inH A fa.h = true := by simp only [inH, List.any_eq_true]; exact ⟨fa, hfa, by simp⟩
                                    rw [this] at hq; cases hq
          rw [if_neg hne, addO_out hq]
          simp only at e
          rw [addO_out hq] at e; exact e
        | true =>
          obtain ⟨x, hx, rfl⟩ := inH_mem hq
          simp only at e
          rw [addO_in hap hx] at e
          rw [addO_in hap hx]
          by_cases hxi : x.i = fa.i
          · have := apart_i hap hx hfa hxi
            subst this
            rw [if_pos rfl]
            rw [if_neg (by simp [List.mem_filter])] at e
            rw [← hz]
            simpa using e
          · have hdne : x.h ≠ fa.h := by
              intro q
              have e1 := addO_in (L := []) (bs := fun y => y) (own := []) hap hx
              have e2 := addO_in (L := []) (bs := fun y => y) (own := []) hap hfa
              rw [q] at e1
              rw [e1] at e2
              simp at e2
              exact hxi e2.1
            rw [if_neg hdne]
            have hcc : (L.filter (fun x => x != fa.i)).contains x.i = L.contains x.i := by
              rw [Bool.eq_iff_iff]
              simp [List.mem_filter, hxi]
            rw [hcc] at e
            rw [if_neg hxi] at e
            exact e
  exact main a w hS

/-- The blocks are laid at whatever time from here on. -/
theorem hf_start (A : List FA) {n m : Nat} {listed listed' : Array Bool} (hl : unl (A.map (·.i)) listed' = listed) (hnm : n + A.length ≤ m) (h : HF C K R own0 G0 A n listed' s) : SGo C (.h (Hold C own0 G0) R m listed :: K) s := by
  have h1 := h (A.map (·.i)) (subs_self _) (fun _ => 0) m (by simpa using hnm)
  rw [hl] at h1
  have e1 : ∀ B : List FA, (∀ a ∈ B, a ∈ A) → addS (A.map (·.i)) (fun _ => 0) B s.sl = s.sl := by
    intro B
    induction B with
    | nil => intro _; rfl
    | cons a B ihB =>
      intro hB
      simp only [addS]
      rw [if_pos (by simp only [List.contains_eq_mem, List.mem_map, decide_eq_true_eq]; exact ⟨a, hB a (by simp), rfl⟩)]
      exact ihB fun x hx => hB x (by simp [hx])
  have e2 : ∀ B : List FA, (∀ a ∈ B, a ∈ A) → addO (A.map (·.i)) (fun _ => 0) B s.own = s.own := by
    intro B
    induction B with
    | nil => intro _; rfl
    | cons a B ihB =>
      intro hB
      simp only [addO]
      rw [if_pos (by simp only [List.contains_eq_mem, List.mem_map, decide_eq_true_eq]; exact ⟨a, hB a (by simp), rfl⟩)]
      exact ihB fun x hx => hB x (by simp [hx])
  rw [e1 A (fun _ h => h), e2 A (fun _ h => h)] at h1
  exact h1

/-- A call comes up, some of the blocks being laid, some not. -/
theorem hf_call (i : Nat) {A : List FA} {n : Nat} {listed : Array Bool} {f : FuncId} {args : Array Operand} {tys : Array TypeId} {dd : Tmp} {vs : List SV} {φ : Value → Hp → Prop}
    (hi : R[i]? = some ⟨some dd, .call ⟨.value (.func f), args, tys⟩, t, pos, aft, none⟩) (hap : apartA A = true) (haok : AOk C R A) (hla : listA listed A = true) (hoA : ownA s.own A) (hchk : chkC R listed A i = true)
    (ho0 : ∀ j y, lk j own0 = some y → lk j s.own = some y) (hG0 : Le G0 s.G) (hd : dOk C.nt (some dd) = true) (hdd : inD A dd = false) (hf : canCall C.P f = true) (ha : evs s.sl args.toList = some vs) (hda : args.toList.all (fun | .tmp t => !(inD A t) | _ => true) = true)
    (hc : Pure C.P f (dens vs) s.G φ) (h : ∀ v G', Le s.G G' → φ v G' → HF C K R own0 G0 A n (listed.setIfInBounds i true) ⟨stk dd (rv v) s.sl, s.own, G', s.df⟩) : HF C K R own0 G0 A (n + 1) listed s := by
  have hev : ∀ L bs, evs (addS L bs A s.sl) args.toList = some vs := by
    intro L bs
    have key : ∀ (xs : List Operand) (ys : List SV), xs.all (fun | .tmp t => !(inD A t) | _ => true) = true → evs s.sl xs = some ys → evs (addS L bs A s.sl) xs = some ys := by
      intro xs
      induction xs with
      | nil => intro ys _ e; exact e
      | cons x xs ihx =>
        intro ys hall e
        simp only [List.all_cons, Bool.and_eq_true] at hall
        have hx : ev (addS L bs A s.sl) x = ev s.sl x := by
          cases x with
          | tmp t => simp only [ev]; exact addS_out (by simpa using hall.1)
          | _ => rfl
        simp only [evs, hx] at e ⊢
        split at e
        · rename_i y hy
          simp only [Option.map_eq_some_iff] at e
          obtain ⟨r, e1, rfl⟩ := e
          simp only [ihx r hall.2 e1, Option.map_some]
        · cases e
    exact key _ _ hda ha
  intro L hL bs m hm
  induction hn : L.length using Nat.strongRecOn generalizing L bs m with
  | _ q ihq =>
    subst hn
    obtain ⟨m, rfl⟩ : ∃ m', m = m' + 1 := ⟨m - 1, by omega⟩
    intro a w hS
    show wpAnyHI _ _ _ _ _ _ _ _ _ _
    have hck := List.all_eq_true.1 hchk L hL
    simp only [Bool.and_eq_true] at hck
    refine wpAnyHI_all rfl (fun e => by rw [e] at hck; simp at hck) ?_
    intro j hj
    have hj' := List.all_eq_true.1 hck.1 j hj
    simp only [Bool.or_eq_true, beq_iff_eq] at hj'
    by_cases hji : j = i
    · subst hji
      refine h_step hi ?_
      have hiL : j ∉ L := by
        intro q
        have hjA := subs_mem _ _ hL j q
        obtain ⟨fa, hfa, rfl⟩ := List.mem_map.1 hjA
        obtain ⟨_, _, _, _, hR, _⟩ := haok fa hfa
        rw [hi] at hR; cases hR
      have main : SGo C (.ops R [⟨some dd, .call ⟨.value (.func f), args, tys⟩, t, pos, aft, none⟩] :: .hs (Hold C own0 G0) :: .h (Hold C own0 G0) R m ((unl L listed).setIfInBounds j true) :: K) ⟨addS L bs A s.sl, addO L bs A s.own, s.G, s.df⟩ := by
        refine go_call hd hf (hev L bs) hc ?_
        intro v G' hle hφ
        have hnext := h v G' hle hφ L hL bs m (by omega)
        have hun : (unl L listed).setIfInBounds j true = unl L (listed.setIfInBounds j true) := by
          apply Array.ext_getElem?
          intro x
          rw [unl_get]
          by_cases hx : j = x
          · subst hx
            rw [if_neg hiL]
            rcases Nat.lt_or_ge j listed.size with q | q
            · have hsz : j < (unl L listed).size := by
                have h1 := unl_get L listed j
                rw [if_neg hiL, Array.getElem?_eq_getElem q] at h1
                exact (Array.getElem?_eq_some_iff.1 h1).1
              rw [Array.getElem?_setIfInBounds_self_of_lt hsz, Array.getElem?_setIfInBounds_self_of_lt q]
            · have hsz : (unl L listed).size ≤ j := by
                rcases Nat.lt_or_ge j (unl L listed).size with r | r
                · have h1 := unl_get L listed j
                  rw [if_neg hiL, Array.getElem?_eq_none q, Array.getElem?_eq_getElem r] at h1
                  cases h1
                · exact r
              rw [Array.getElem?_eq_none (by simpa using hsz), Array.getElem?_eq_none (by simpa using q)]
          · rw [Array.getElem?_setIfInBounds_ne hx, Array.getElem?_setIfInBounds_ne hx, unl_get]
        rw [hun]
        refine go_ops (h_hs (fun i y e => ?_) (hG0.trans hle) ?_)
        · have h1 := ho0 i y e
          have hnn : inH A i = false := by
            cases hq : inH A i with
            | false => rfl
            | true =>
              obtain ⟨x, hx, rfl⟩ := inH_mem hq
              rw [hoA x hx] at h1; cases h1
          show lk i (addO L bs A s.own) = some y
          rw [addO_out hnn]; exact h1
        · refine SGo.weaken (s' := ⟨addS L bs A (stk dd (rv v) s.sl), addO L bs A s.own, G', s.df⟩) rfl rfl (fun i y e => .inl ?_) (fun i y e => e) hnext
          show lk i (stk dd (rv v) (addS L bs A s.sl)) = some y
          simp only at e
          rw [lk_stk]
          cases hq : inD A i with
          | false =>
            rw [addS_out hq, lk_stk] at e
            rw [addS_out hq]; exact e
          | true =>
            obtain ⟨x, hx, rfl⟩ := inD_mem hq
            have hne : x.d ≠ dd := by intro q; rw [q] at hq; rw [hdd] at hq; cases hq
            rw [addS_in hap hx, lk_stk, if_neg hne] at e
            rw [if_neg hne, addS_in hap hx]; exact e
      exact main a w hS
    · have hjL : j ∈ L := by simpa using hj'.resolve_left hji
      exact hf_alloc hap haok hla hoA ho0 hG0 hL hjL (n := n + 1) (by omega) (fun L' hL' hlt bs m hm => ihq L'.length hlt L' hL' bs m hm rfl) hS

def chkT (R : Array Oper) (listed : Array Bool) (A : List FA) (i : Nat) : Bool :=
  (subs (A.map (·.i))).all fun L => Region.free .any R (unl L listed) i && (Region.ready .any R (unl L listed)).contains i
def noD (sl : List (Nat × SV)) (A : List FA) : Prop := ∀ a ∈ A, lk a.d sl = none
theorem nD_nil {sl : List (Nat × SV)} : noD sl [] := fun _ h => by cases h
theorem nD_cons {sl : List (Nat × SV)} {a : FA} {A : List FA} (h : lk a.d sl = none) (h' : noD sl A) : noD sl (a :: A) := fun b hb => by
  rcases List.mem_cons.1 hb with e | e
  · rw [e]; exact h
  · exact h' b e

theorem unl_set {L : List Nat} {listed : Array Bool} {j : Nat} (hiL : j ∉ L) : (unl L listed).setIfInBounds j true = unl L (listed.setIfInBounds j true) := by
  apply Array.ext_getElem?
  intro x
  rw [unl_get]
  by_cases hx : j = x
  · subst hx
    rw [if_neg hiL]
    rcases Nat.lt_or_ge j listed.size with q | q
    · have hsz : j < (unl L listed).size := by
        have h1 := unl_get L listed j
        rw [if_neg hiL, Array.getElem?_eq_getElem q] at h1
        exact (Array.getElem?_eq_some_iff.1 h1).1
      rw [Array.getElem?_setIfInBounds_self_of_lt hsz, Array.getElem?_setIfInBounds_self_of_lt q]
    · have hsz : (unl L listed).size ≤ j := by
        rcases Nat.lt_or_ge j (unl L listed).size with r | r
        · have h1 := unl_get L listed j
          rw [if_neg hiL, Array.getElem?_eq_none q, Array.getElem?_eq_getElem r] at h1
          cases h1
        · exact r
      rw [Array.getElem?_eq_none (by simpa using hsz), Array.getElem?_eq_none (by simpa using q)]
  · rw [Array.getElem?_setIfInBounds_ne hx, Array.getElem?_setIfInBounds_ne hx, unl_get]

/-- A quiet operation is taken, some of the blocks being laid, some not. -/
theorem hf_take (i : Nat) {A : List FA} {n : Nat} {listed : Array Bool} {op : Op} {dd : Tmp} {x : SV} (hi : R[i]? = some ⟨some dd, op, t, pos, aft, none⟩) (hap : apartA A = true) (haok : AOk C R A) (hoA : ownA s.own A) (hnD : noD s.sl A) (hs : Region.noSelect R = true) (hchk : chkT R listed A i = true)
    (hQ : QP C) (ho0 : ∀ j y, lk j own0 = some y → lk j s.own = some y) (hG0 : Le G0 s.G) (hd : dOk C.nt (some dd) = true) (hdd : inD A dd = false) (hnal : ∀ T, op ≠ .alloc T) (hq : Quiet C s.sl own0 G0 op x.den)
    (h : HF C K R own0 G0 A n (listed.setIfInBounds i true) ⟨stk dd x s.sl, s.own, s.G, s.df⟩) : HF C K R own0 G0 A (n + 1) listed s := by
  intro L hL bs m hm
  obtain ⟨m, rfl⟩ : ∃ m', m = m' + 1 := ⟨m - 1, by omega⟩
  have hck := List.all_eq_true.1 hchk L hL
  simp only [Bool.and_eq_true] at hck
  have hiL : i ∉ L := by
    intro q
    have hjA := subs_mem _ _ hL i q
    obtain ⟨fa, hfa, rfl⟩ := List.mem_map.1 hjA
    obtain ⟨_, _, _, _, hR, _⟩ := haok fa hfa
    rw [hi] at hR
    cases hR
    exact hnal _ rfl
  have hq' : Quiet C (addS L bs A s.sl) own0 G0 op x.den := by
    intro a w d t pos aft g hsl hh
    refine hq a w d t pos aft g (fun k y e => ?_) hh
    refine hsl k y ?_
    have hn : inD A k = false := by
      cases hqq : inD A k with
      | false => rfl
      | true =>
        obtain ⟨z, hz, rfl⟩ := inD_mem hqq
        rw [hnD z hz] at e; cases e
    rw [addS_out hn]; exact e
  refine h_take i hi hs hck.1 hck.2 hQ hd (fun j y e => ?_) hG0 hq' ?_
  · have h1 := ho0 j y e
    have hnn : inH A j = false := by
      cases hqq : inH A j with
      | false => rfl
      | true =>
        obtain ⟨z, hz, rfl⟩ := inH_mem hqq
        rw [hoA z hz] at h1; cases h1
    show lk j (addO L bs A s.own) = some y
    rw [addO_out hnn]; exact h1
  · have hnext := h L hL bs m (by omega)
    rw [unl_set hiL]
    refine SGo.weaken (s' := ⟨addS L bs A (stk dd x s.sl), addO L bs A s.own, s.G, s.df⟩) rfl rfl (fun k y e => .inl ?_) (fun k y e => e) hnext
    show lk k (stk dd x (addS L bs A s.sl)) = some y
    simp only at e
    rw [lk_stk]
    cases hqq : inD A k with
    | false =>
      rw [addS_out hqq, lk_stk] at e
      rw [addS_out hqq]; exact e
    | true =>
      obtain ⟨z, hz, rfl⟩ := inD_mem hqq
      have hne : z.d ≠ dd := by intro q; rw [q] at hqq; rw [hdd] at hqq; cases hqq
      rw [addS_in hap hz, lk_stk, if_neg hne] at e
      rw [if_neg hne, addS_in hap hz]; exact e

/-- All the blocks are laid before anything else comes up. -/
theorem hf_flush {A : List FA} {n : Nat} {listed : Array Bool} (hap : apartA A = true) (haok : AOk C R A) (hla : listA listed A = true) (hoA : ownA s.own A) (hchk : chkF R listed A = true)
    (ho0 : ∀ j y, lk j own0 = some y → lk j s.own = some y) (hG0 : Le G0 s.G) (h : ∀ bs m, n ≤ m → SGo C (.h (Hold C own0 G0) R m listed :: K) ⟨addS [] bs A s.sl, addO [] bs A s.own, s.G, s.df⟩) : HF C K R own0 G0 A n listed s := by
  intro L hL bs m hm
  induction hn : L.length using Nat.strongRecOn generalizing L bs m with
  | _ q ihq =>
    subst hn
    by_cases hL0 : L = []
    · subst hL0
      exact h bs m (by simpa using hm)
    · have hlen : 0 < L.length := List.length_pos_iff.2 hL0
      obtain ⟨m, rfl⟩ : ∃ m', m = m' + 1 := ⟨m - 1, by omega⟩
      intro a w hS
      show wpAnyHI _ _ _ _ _ _ _ _ _ _
      have hck := List.all_eq_true.1 hchk L hL
      simp only [Bool.or_eq_true, Bool.and_eq_true, List.isEmpty_iff, hL0, false_or, Bool.not_eq_true'] at hck
      refine wpAnyHI_all rfl (fun e => by rw [e] at hck; simp at hck) ?_
      intro j hj
      have hjL : j ∈ L := by simpa using List.all_eq_true.1 hck.1 j hj
      exact hf_alloc hap haok hla hoA ho0 hG0 hL hjL (n := n) (by omega) (fun L' hL' hlt bs m hm => ihq L'.length hlt L' hL' bs m hm rfl) hS
end
end Go.Sx
