/-
  A symbolic walk over the model's code: regions that draw their order and write, at their end, what they read. Generic: names no program.
-/
import Derived.Test.YtpmmbjcgabnloaaZ3
set_option linter.unusedSimpArgs false
set_option linter.unusedVariables false
namespace Go.Sx
set_option linter.unusedSimpArgs false
set_option linter.unusedVariables false
open Go.RowKit
section
variable {P : Program} {ro : Option Nat} {ops : Array Oper} {md : Region.Mode}
theorem wpAnyHU_first {S : World → Prop} {Q : Exit → Act → World → Prop} {i p : Nat} {oi op : Oper} {v : Value} (hi : ops[i]? = some oi) (hsel : ∀ (j : Nat) (o : Oper) cs b, ops[j]? = some o → o.op ≠ .select cs b)
    (hQ : ∀ c a w, Q (.panic c) (a.put oi.dst v) w → Q (.panic c) a w) (hop : ops[p]? = some op) (hpi : p ≠ i) (hpe : ∃ e ∈ op.after, Region.binds md e = true ∧ e.on = i) :
    ∀ (fuel : Nat) (listed : Array Bool) (a : Act) (w : World),
      (∀ j oj, ops[j]? = some oj → j ≠ i → listed.getD j true = false → (∀ e ∈ oj.after, Region.binds md e = true → e.on ≠ i) → oi.apart ops oj = true) →
      i ∈ Region.ready md ops listed → YieldsIf P ops S oi v a → S w → listed.getD p true = false →
      wpAnyHU P ro md ops Q S p fuel (listed.setIfInBounds i true) (a.put oi.dst v) w → wpAnyHU P ro md ops Q S p (fuel + 1) listed a w := by
  intro fuel
  induction fuel with
  | zero =>
    intro listed a w _ hr hy hS hpl H
    refine ⟨fun h => (by rw [h] at hr; cases hr), fun j hj => ?_⟩
    by_cases hji : j = i
    · subst hji; exact yieldsIf_wpOpIn hi hy hS ⟨fun _ => hS, H⟩
    · have := ready_mono hj hji
      rw [H.1] at this
      cases this
  | succ fuel ih =>
    intro listed a w hfree hr hy hS hpl H
    refine ⟨fun h => (by rw [h] at hr; cases hr), fun j hj => ?_⟩
    by_cases hji : j = i
    · subst hji; exact yieldsIf_wpOpIn hi hy hS ⟨fun _ => hS, H⟩
    · have h1 := H.2 j (ready_mono hj hji)
      obtain ⟨hjun, oj, hoj, hall⟩ := mem_ready.1 hj
      have hnot : ∀ e ∈ oj.after, Region.binds md e = true → e.on ≠ i := fun e he hb heq => by
        have h1 := hall e he hb
        have h0 := (mem_ready.1 hr).1
        rw [heq] at h1
        rcases Nat.lt_or_ge i listed.size with h' | h'
        · simp [h'] at h0 h1; rw [h0] at h1; cases h1
        · simp [Array.getElem?_eq_none h'] at h1
      have hjp : j ≠ p := fun q => by
        subst q
        rw [hop] at hoj
        cases hoj
        obtain ⟨e, he, hb, heq⟩ := hpe
        exact hnot e he hb heq
      have hg1 : ((listed.setIfInBounds i true).setIfInBounds j true).getD p true = false := by
        rw [getD_set_ne true hjp, getD_set_ne true (Ne.symm hpi)]; exact hpl
      have hg2 : (listed.setIfInBounds j true).getD p true = false := by
        rw [getD_set_ne true hjp]; exact hpl
      have h2 := wpOpIn_putIf hoj (hfree j oj hoj hji hjun hnot) (fun cs b => hsel i oi cs b hi) (fun cs b => hsel j oj cs b hoj) hQ hy h1
      have hfree' : ∀ k ok, ops[k]? = some ok → k ≠ i → (listed.setIfInBounds j true).getD k true = false →
          (∀ e ∈ ok.after, Region.binds md e = true → e.on ≠ i) → oi.apart ops ok = true := fun k ok hk hki hun hno => by
        refine hfree k ok hk hki ?_ hno
        by_cases hjk : j = k
        · subst hjk; exact hjun
        · rw [getD_set_ne true hjk] at hun; exact hun
      refine wpOpIn_mono (fun a' w' h3 => ⟨fun _ => h3.2.1 hg1, ih (listed.setIfInBounds j true) a' w' hfree' (ready_mono hr (Ne.symm hji)) h3.1 (h3.2.1 hg1) hg2 ?_⟩) h2
      rw [Array.setIfInBounds_comm _ _ hji]
      exact h3.2.2
def behind (ops : Array Oper) (p i : Nat) : Bool := match ops[p]? with
  | some o => p != i && o.after.any fun e => Region.binds .any e && e.on == i
  | none => false
theorem behind_ok {p i : Nat} (h : behind ops p i = true) : ∃ op, ops[p]? = some op ∧ p ≠ i ∧ ∃ e ∈ op.after, Region.binds .any e = true ∧ e.on = i := by
  rw [behind] at h
  split at h
  · rename_i o ho
    simp only [Bool.and_eq_true, bne_iff_ne, ne_eq, Array.any_eq_true'] at h
    obtain ⟨h1, e, h2, h3⟩ := h
    exact ⟨o, ho, h1, e, h2, by simpa using h3⟩
  · cases h
theorem wpAnyIn_of_hu {S : World → Prop} {Q : Exit → Act → World → Prop} {p : Nat} : ∀ (fuel : Nat) (listed : Array Bool) (a : Act) (w : World), wpAnyHU P ro md ops Q S p fuel listed a w → wpAnyIn (FR ro) 0 P md ops Q fuel listed a w
  | 0, _, _, _, h => h
  | fuel + 1, _, _, _, h => ⟨h.1, fun i hi => wpOpIn_mono (fun a' w' h' => wpAnyIn_of_hu fuel _ a' w' h'.2) (h.2 i hi)⟩
theorem wpIn_region_hu {S : World → Prop} {Q : Exit → Act → World → Prop} {p id : Nat} {a : Act} {w : World} (hm : P.follows .mixedOrders = true)
    (h : wpAnyHU P ro .any ops Q S p ops.size (Array.replicate ops.size false) a { w with drawn := w.drawn + 1 }) : (Code.region id ops true).wpIn (FR ro) 0 P Q a w :=
  wpIn_region_any hm (wpAnyIn_of_hu _ _ _ _ h)
theorem hu_of_hi {S S' : World → Prop} {Q : Exit → Act → World → Prop} {p : Nat} : ∀ (fuel : Nat) (listed : Array Bool) (a : Act) (w : World), listed.getD p true = true → wpAnyHI P ro md ops Q S' fuel listed a w → wpAnyHU P ro md ops Q S p fuel listed a w
  | 0, _, _, _, _, h => h
  | fuel + 1, listed, _, _, hl, h => ⟨h.1, fun i hi => wpOpIn_mono (fun a' w' h' => by
      have hg : (listed.setIfInBounds i true).getD p true = true := by
        by_cases hip : i = p
        · subst hip
          rcases Nat.lt_or_ge i listed.size with q | q
          · simp [q]
          · simp [Array.getD_eq_getD_getElem?, Array.getElem?_setIfInBounds]; rw [if_neg (by omega)]; rfl
        · rw [getD_set_ne true hip]; exact hl
      exact ⟨fun q => (by rw [hg] at q; cases q), hu_of_hi fuel _ a' w' hg h'.2⟩) (h.2 i hi)⟩
end
section
variable {C : Ctx} {K : List KI} {s : St} {R : Array Oper} {l : List Oper} {d : Option Tmp} {t : TypeId} {pos : String} {aft : Array Edge}
theorem x_heldP (own0 : List (Nat × Nat × OO)) (p : Nat) {k : Code} (ht : tag k = 9) (hm : C.P.follows .mixedOrders = true) {o : Oper} (hR : cops k = (o :: l).toArray) {n : Nat} (hn : (o :: l).length = n) {ls : List Bool} (hls : List.replicate n false = ls) (h : SGo C (.hu (Hold C own0 s.G) p (o :: l).toArray n ls.toArray :: K) s) : SGo C (.code k :: K) s := by
  subst hls hn
  cases k <;> simp [tag] at ht
  rename_i a b c
  cases c <;> simp at ht
  simp only [cops] at hR
  subst hR
  intro a w hS
  have := h a _ (⟨hS.sl, hS.nt, hS.df, hS.mem.drew⟩ : Sat C s a w.drew)
  simp only [wpK] at this ⊢
  exact wpIn_region_hu (S := Hold C own0 s.G) hm (by simpa using this)
theorem hu_take (i : Nat) {own0 : List (Nat × Nat × OO)} {G0 : Hp} {n p : Nat} {listed : Array Bool} {op : Op} {x : SV} (hi : R[i]? = some ⟨d, op, t, pos, aft, none⟩) (hs : Region.noSelect R = true) (hf : Region.free .any R listed i = true)
    (hr : (Region.ready .any R listed).contains i = true) (hp : behind R p i = true) (hpl : listed.getD p true = false) (hQ : QPd C d) (hd : dOk C.nt d = true) (ho : ∀ j y, lk j own0 = some y → lk j s.own = some y) (hG : Le G0 s.G)
    (hq : Quiet C s.sl own0 G0 op x.den) (h : SGo C (.hu (Hold C own0 G0) p R n (listed.setIfInBounds i true) :: K) ⟨putS d x s.sl, s.own, s.G, s.df⟩) :
    SGo C (.hu (Hold C own0 G0) p R (n + 1) listed :: K) s := by
  intro a w hS
  have hhold : Hold C own0 G0 w := ⟨fun k b o e => (hS.mem.own k b o (ho _ _ e)).1, fun b o e => hS.mem.has b o (hG b o e)⟩
  have := h _ _ (hS.put hd x hS.mem)
  simp only [wpK] at this ⊢
  obtain ⟨op', h1, h2, h3⟩ := behind_ok hp
  refine wpAnyHU_first (i := i) (v := x.den) hi (Region.noSelect_spec hs) ?_ h1 h2 h3 n listed a w (Region.free_spec hi hf) (by simpa using hr) (.inl ⟨by simp [Region.wanted], fun w' hw' => hq a w' d t pos aft none hS.sl hw'⟩) hhold hpl this
  intro c a' w' hp
  exact wpK_panic c d x.den (fun a w => hQ c a w x.den) K a' w' hp
theorem hu_step {own0 : List (Nat × Nat × OO)} {G0 : Hp} {n p : Nat} {listed : Array Bool} {i : Nat} {o : Oper} {a : Act} {w : World} (hi : R[i]? = some o) {Ks : List KI}
    (hks : Ks = .hs (Hold C own0 G0) :: .hu (Hold C own0 G0) p R n (listed.setIfInBounds i true) :: K ∨ ∃ own1, (Ks = .h (Hold C own1 G0) R n (listed.setIfInBounds i true) :: K ∧ (listed.setIfInBounds i true).getD p true = true))
    (this : wpK C.P C.ro C.Q (.ops R [o] :: Ks) .normal a w) :
    wpOpIn (FR C.ro) 0 C.P R (wpK C.P C.ro C.Q K) i (fun a' w' => ((listed.setIfInBounds i true).getD p true = false → Hold C own0 G0 w') ∧ wpAnyHU C.P C.ro .any R (wpK C.P C.ro C.Q K) (Hold C own0 G0) p n (listed.setIfInBounds i true) a' w') a w := by
  have hK : ∀ a' w', wpK C.P C.ro C.Q Ks .normal a' w' → ((listed.setIfInBounds i true).getD p true = false → Hold C own0 G0 w') ∧ wpAnyHU C.P C.ro .any R (wpK C.P C.ro C.Q K) (Hold C own0 G0) p n (listed.setIfInBounds i true) a' w' := by
    intro a' w' q
    rcases hks with rfl | ⟨own1, rfl, hl⟩
    · simp only [wpK] at q; exact ⟨fun _ => q.1, q.2⟩
    · simp only [wpK] at q; exact ⟨fun z => (by rw [hl] at z; cases z), hu_of_hi _ _ _ _ hl q⟩
  have hE : ∀ e a' w', (∀ (q : e = Exit.normal), False) → wpK C.P C.ro C.Q Ks e a' w' → wpK C.P C.ro C.Q K e a' w' := by
    intro e a' w' hn q
    cases e with
    | normal => exact (hn rfl).elim
    | _ => rcases hks with rfl | ⟨own1, rfl, hl⟩ <;> simpa only [wpK] using q
  simp only [wpK] at this
  unfold wpOpIn
  simp only [hi]
  simp only [wpListIn] at this
  split
  · rename_i hw
    rw [if_pos hw] at this
    refine ⟨this.1, ?_⟩
    have q := this.2
    generalize (o.semAt (FR C.ro).round a.eval).run C.P w = r at q ⊢
    cases r with
    | ok nx w' =>
      cases nx <;> simp only [Oper.uponIn] at q ⊢
      case value u => exact hK _ _ q
      case skip => exact hK _ _ q
      case defer u => exact hK _ _ q
      case enter f args =>
        refine ⟨q.1, q.2.mono fun e w'' he => ?_⟩
        cases e with
        | returned u => exact hK _ _ he
        | panicked c => exact hE _ _ _ (fun q => by cases q) he
        | outgrown => rcases hks with rfl | ⟨own1, rfl, hl⟩ <;> simpa only [LetsOut, wpK] using he
      case row row args => exact ⟨q.1, q.2.mono fun u w'' he => hK _ _ he⟩
      case round l f tmps assign body =>
        refine ⟨q.1, q.2.mono fun e w'' he => ?_⟩
        cases e with
        | returned u => exact hK _ _ he
        | panicked c => exact hE _ _ _ (fun q => by cases q) he
        | outgrown => rcases hks with rfl | ⟨own1, rfl, hl⟩ <;> simpa only [LetsOut, wpK] using he
    | halt x w' =>
      cases x <;> simp only [Oper.uponIn] at q ⊢
      case panic u => exact hE _ _ _ (fun q => by cases q) q
  · rename_i hw
    rw [if_neg hw] at this
    exact ⟨this.1, hK _ _ this.2⟩
theorem hu_one (i : Nat) {own0 : List (Nat × Nat × OO)} {G0 : Hp} {n p : Nat} {listed : Array Bool} {op : Op} {g : Option (Nat × Bool)} (hi : R[i]? = some ⟨d, op, t, pos, aft, g⟩) (hr : Region.ready .any R listed = [i])
    (h : SGo C (.ops R [⟨d, op, t, pos, aft, g⟩] :: .hs (Hold C own0 G0) :: .hu (Hold C own0 G0) p R n (listed.setIfInBounds i true) :: K) s) : SGo C (.hu (Hold C own0 G0) p R (n + 1) listed :: K) s := by
  intro a w hS
  have := h a w hS
  show wpAnyHU _ _ _ _ _ _ _ _ _ _ _
  refine ⟨fun q => (by rw [hr] at q; cases q), fun j hj => ?_⟩
  rw [hr] at hj
  simp only [List.mem_singleton] at hj
  subst hj
  exact hu_step hi (.inl rfl) this
theorem hu_two (i j : Nat) {own0 : List (Nat × Nat × OO)} {G0 : Hp} {n p : Nat} {listed : Array Bool} {op op' : Op} {g g' : Option (Nat × Bool)} {d' : Option Tmp} {t' : TypeId} {pos' : String} {aft' : Array Edge} (hi : R[i]? = some ⟨d, op, t, pos, aft, g⟩) (hj : R[j]? = some ⟨d', op', t', pos', aft', g'⟩) (hr : Region.ready .any R listed = [i, j])
    (h : SGo C (.ops R [⟨d, op, t, pos, aft, g⟩] :: .hs (Hold C own0 G0) :: .hu (Hold C own0 G0) p R n (listed.setIfInBounds i true) :: K) s)
    (h' : SGo C (.ops R [⟨d', op', t', pos', aft', g'⟩] :: .hs (Hold C own0 G0) :: .hu (Hold C own0 G0) p R n (listed.setIfInBounds j true) :: K) s) : SGo C (.hu (Hold C own0 G0) p R (n + 1) listed :: K) s := by
  intro a w hS
  have h1 := h a w hS
  have h2 := h' a w hS
  show wpAnyHU _ _ _ _ _ _ _ _ _ _ _
  refine ⟨fun q => (by rw [hr] at q; cases q), fun q hq => ?_⟩
  rw [hr] at hq
  simp only [List.mem_cons, List.not_mem_nil, or_false] at hq
  rcases hq with rfl | rfl
  · exact hu_step hi (.inl rfl) h1
  · exact hu_step hj (.inl rfl) h2
theorem hu_last (i : Nat) (own1 : List (Nat × Nat × OO)) {own0 : List (Nat × Nat × OO)} {G0 : Hp} {n p : Nat} {listed : Array Bool} {op : Op} {g : Option (Nat × Bool)} (hi : R[i]? = some ⟨d, op, t, pos, aft, g⟩) (hr : Region.ready .any R listed = [i]) (hl : (listed.setIfInBounds i true).getD p true = true)
    (h : SGo C (.ops R [⟨d, op, t, pos, aft, g⟩] :: .h (Hold C own1 G0) R n (listed.setIfInBounds i true) :: K) s) : SGo C (.hu (Hold C own0 G0) p R (n + 1) listed :: K) s := by
  intro a w hS
  have := h a w hS
  show wpAnyHU _ _ _ _ _ _ _ _ _ _ _
  refine ⟨fun q => (by rw [hr] at q; cases q), fun j hj => ?_⟩
  rw [hr] at hj
  simp only [List.mem_singleton] at hj
  subst hj
  exact hu_step hi (.inr ⟨own1, rfl, hl⟩) this
end
end Go.Sx
namespace Go.Proofs.Ytpmmbjcgabnloaa
set_option linter.unusedSimpArgs false
set_option linter.unusedVariables false
open Go.Sx
set_option maxHeartbeats 8000000
set_option maxRecDepth 20000
def CapOk (v : Value) : Prop := ∀ ad n c, v = .slice ad n c → n ≤ c
end Go.Proofs.Ytpmmbjcgabnloaa
namespace Go.Proofs.Ytpmmbjcgabnloaa
set_option linter.unusedSimpArgs false
set_option linter.unusedVariables false
open Go.Sx
set_option maxHeartbeats 8000000
set_option maxRecDepth 20000
end Go.Proofs.Ytpmmbjcgabnloaa
namespace Go.Proofs.Ytpmmbjcgabnloaa
set_option linter.unusedSimpArgs false
set_option linter.unusedVariables false
open Go.Sx
set_option maxHeartbeats 8000000
set_option maxRecDepth 20000
end Go.Proofs.Ytpmmbjcgabnloaa
namespace Go.Proofs.Ytpmmbjcgabnloaa
set_option linter.unusedSimpArgs false
set_option linter.unusedVariables false
open Go.Sx
set_option maxHeartbeats 8000000
set_option maxRecDepth 20000
end Go.Proofs.Ytpmmbjcgabnloaa
namespace Go.Proofs.Ytpmmbjcgabnloaa
set_option linter.unusedSimpArgs false
set_option linter.unusedVariables false
open Go.Sx
set_option maxHeartbeats 8000000
set_option maxRecDepth 20000
end Go.Proofs.Ytpmmbjcgabnloaa
namespace Go.Proofs.Ytpmmbjcgabnloaa
set_option linter.unusedSimpArgs false
set_option linter.unusedVariables false
open Go.Sx
set_option maxHeartbeats 8000000
set_option maxRecDepth 20000
end Go.Proofs.Ytpmmbjcgabnloaa
namespace Go.Proofs.Ytpmmbjcgabnloaa
set_option linter.unusedSimpArgs false
set_option linter.unusedVariables false
open Go.Sx
set_option maxHeartbeats 8000000
set_option maxRecDepth 20000
theorem rgt_cases {m : Int} {o : Op} (h : rgtO (kns m) o = true) : (m = 1 ∧ (o.kd = 0 ∨ o.kd = 1)) ∨ (m = 2 ∧ (o.kd = 0 ∨ o.kd = 1)) ∨ (m = 3 ∧ (o.kd = 0 ∨ o.kd = 1)) ∨ (m = 4 ∧ (o.kd = 0 ∨ o.kd = 1 ∨ o.kd = 2)) := by
  simp only [rgtO, Bool.and_eq_true, decide_eq_true_eq] at h
  obtain ⟨⟨⟨⟨⟨_, h1⟩, h2⟩, _⟩, _⟩, _⟩ := h
  rw [kns] at h2
  by_cases h3 : m = 1 ∨ m = 2 ∨ m = 3
  · rw [if_pos h3] at h2
    omega
  · rw [if_neg h3] at h2
    by_cases h4 : m = 4
    · rw [if_pos h4] at h2; omega
    · rw [if_neg h4] at h2; omega
end Go.Proofs.Ytpmmbjcgabnloaa
namespace Go.Proofs.Ytpmmbjcgabnloaa
set_option linter.unusedSimpArgs false
set_option linter.unusedVariables false
open Go.Sx
set_option maxHeartbeats 8000000
set_option maxRecDepth 20000
structure Mk where
  st : Int
  th : Int
  v : VT
def rMk : Rp Mk where
  size := 5
  e G x cs := ∃ sl, cs = [.int .i64 x.st, .int .i64 x.th, .int .i64 x.v.k, .int .i64 x.v.n, sl] ∧ x.v.rep G sl ∧ tsz x.v ≤ 1048576 ∧ isI64 x.st ∧ isI64 x.th
  mono hl h := by obtain ⟨sl, h1, h2, h3⟩ := h; exact ⟨sl, h1, VT.rep_mono hl h2, h3⟩
  len h := by obtain ⟨sl, rfl, _⟩ := h; rfl
  one h u hu := by
    obtain ⟨sl, rfl, h2, _⟩ := h
    obtain ⟨_, _, rfl⟩ := VT.rep_slice h2
    simp at hu
    rcases hu with rfl | rfl | rfl | rfl | rfl <;> rfl
theorem rMk_at {G : Hp} {l : List Mk} {ad : Option Addr} {n cap : Nat} (h : rMk.S G l (.slice ad n cap)) {i : Nat} (hi : i < l.length) : ∃ b off sl, ad = some ⟨b, off, none⟩ ∧ At G b (off + i * 5) [.int .i64 l[i].st, .int .i64 l[i].th, .int .i64 l[i].v.k, .int .i64 l[i].v.n, sl] ∧ l[i].v.rep G sl ∧ tsz l[i].v ≤ 1048576 ∧ isI64 l[i].st ∧ isI64 l[i].th := by
  obtain ⟨b, off, cap', c, hv, hat, sl, rfl, h1, h2⟩ := Rp.S_get h hi
  cases hv
  exact ⟨b, off, sl, rfl, by simpa [rMk] using hat, h1, h2⟩
theorem kEq (k n : Int) (l : List VT) : (VT.mk k n l).k = k := rfl
theorem nEq (k n : Int) (l : List VT) : (VT.mk k n l).n = n := rfl
theorem lEq (k n : Int) (l : List VT) : (VT.mk k n l).l = l := rfl
def sdP (v : VT) : Option (Int × VT) := match v.l with
  | [a, b] => if v.k = 3 ∧ vld v = true ∧ a.k = 2 ∧ 0 ≤ a.n then some (a.n, b) else none
  | _ => none
theorem sd_no {v : VT} (h : v.k = 3 → vld v = true → False) : sdP v = none := by
  rw [sdP]
  split
  · rw [if_neg]; rintro ⟨h1, h2, _⟩; exact h h1 h2
  · rfl
theorem sd_pair {v : VT} (hk : v.k = 3) (hv : vld v = true) : ∃ a b, v.l = [a, b] ∧ sdP v = if a.k = 2 ∧ 0 ≤ a.n then some (a.n, b) else none := by
  have h2 := vld_pair hv (by rw [hk]; rfl)
  obtain ⟨a, b, hl⟩ : ∃ a b, v.l = [a, b] := by
    rcases hl : v.l with _ | ⟨a, _ | ⟨b, _ | _⟩⟩ <;> rw [hl] at h2 <;> simp at h2
    exact ⟨a, b, rfl⟩
  refine ⟨a, b, hl, ?_⟩
  rw [sdP, hl]
  simp only
  by_cases h : a.k = 2 ∧ 0 ≤ a.n
  · rw [if_pos h, if_pos ⟨hk, hv, h⟩]
  · rw [if_neg h, if_neg]; rintro ⟨_, _, h'⟩; exact h h'
def dntOp (x : Mk) (n : Int) (y : VT) : Op := if n % 2 = 1 then ⟨x.th, n / 2, noneV, y, 0, x.st, true⟩ else ⟨x.th, n / 2, y, noneV, x.st, 0, false⟩
def dnRet (x : Mk) (v : Value) (G : Hp) : Prop := match sdP x.v with
  | none => v = .tuple #[.agg #[.int .i64 0, .int .i64 0, .int .i64 0, .int .i64 0, .slice none 0 0, .int .i64 0, .int .i64 0, .slice none 0 0, .int .i64 0, .int .i64 0, .bool false, .bool false], .bool false]
  | some (n, y) => ∃ sa sr, v = .tuple #[.agg (opL (dntOp x n y) sa sr ++ [Value.bool (n % 2 == 1)]).toArray, .bool true] ∧ (dntOp x n y).rep G sa sr
theorem tmod_nn {n : Int} (h : 0 ≤ n) : n.tmod 2 = n % 2 := by rw [Int.tmod_eq_emod_of_nonneg h]
theorem tdiv_nn {n : Int} (h : 0 ≤ n) : n.tdiv 2 = n / 2 := by rw [Int.tdiv_eq_ediv_of_nonneg h]
theorem quo2 {n : Int} (h : 0 ≤ n) (h2 : n ≤ 9223372036854775807) : binConst .quo .i64 .i64 n 2 = some (.int .i64 (n / 2)) := by
  simp only [binConst]
  rw [if_pos trivial, if_neg (by decide), tdiv_nn h, wr (by omega) (by omega)]
theorem denoted_ok (x : Mk) (sl : Value) (G : Hp) (hx : x.v.rep G sl) (hb : tsz x.v ≤ 1048576) (hst : isI64 x.st) (hth : isI64 x.th) :
    Pure Try.prog 37 [.agg #[.int .i64 x.st, .int .i64 x.th, .int .i64 x.v.k, .int .i64 x.v.n, sl]] G (dnRet x) := by
  obtain ⟨st, th, v⟩ := x
  simp only at hx hb hst hth
  obtain ⟨ad, cap, rfl⟩ := VT.rep_slice hx
  refine enterX ty tyok Try.func37 rfl Try.ntmps37 [.a [.v (.int .i64 st), .v (.int .i64 th), .v (.int .i64 v.k), .v (.int .i64 v.n), .v (.slice ad v.l.length cap)]] (by simp) ?_
  intro C hP hQ hnt hty hmb hmh hro; have hQp := qp_body hQ; refine st_ ?_
  refine rn_ ?_; intros
  rename_i b0 b1
  have hnone : sdP v = none → dnRet ⟨st, th, v⟩ (.tuple #[.agg #[.int .i64 0, .int .i64 0, .int .i64 0, .int .i64 0, .slice none 0 0, .int .i64 0, .int .i64 0, .slice none 0 0, .int .i64 0, .int .i64 0, .bool false, .bool false], .bool false]) G := fun h => by
    rw [dnRet]
    simp only [h]
  by_cases hk : v.k = 3
  rotate_left
  · have h1 : (v.k != 3) = true := by rw [bne_iff_ne]; exact hk
    simp only [h1]
    repeat (first | (refine go_gsplit rfl rfl (fun hc => absurd hc (by first | decide +kernel | (simp; first | done | fail))) (fun _ => ?_); refine st_ ?_; (refine rn_ ?_; intros)) | (refine go_gsplit rfl rfl (fun _ => ?_) (fun hc => absurd hc (by first | decide +kernel | (simp; first | done | fail))); refine st_ ?_; (refine rn_ ?_; intros)) | (refine x_split rfl rfl rfl (fun hc => absurd hc (by first | decide +kernel | (simp; first | done | fail))) (fun _ => ?_); refine st_ ?_; (refine ru_ ?_; intros)) | (refine x_split rfl rfl rfl (fun _ => ?_) (fun hc => absurd hc (by first | decide +kernel | (simp; first | done | fail))); refine st_ ?_; (refine ru_ ?_; intros)))
    repeat (refine go_gundef rfl (by rw [hnt]; rfl) rfl ?_; (refine st_ ?_; (refine rn_ ?_; intros)))
    refine rn_ ?_; intros
    refine x_retc rfl hQ hmb rfl (by rw [hty]; simp only [so, sq, zy, zz, tyE, SO', SQ', opQ, opStore, opAlloc, ev, putS, dOk, cv, SV.cs, SV.one, SV.bool?, eqB, Value.oneCell', ldOwn, binInt, binConst, binBool, binStr, isC, TK.agg, rv, rv1, ldV, resOne, resV, Nat.reduceAdd, Nat.reduceMul, Nat.reduceSub, Nat.reduceLT, Nat.reduceLeDiff, Nat.reduceEqDiff, Nat.reduceBEq, reduceIte, reduceCtorEq, eq_self]; try rfl) rfl ?_; simp only [SV.den, resV, dens]
    exact hnone (sd_no fun h _ => hk h)
  have h1 : (v.k != 3) = false := by rw [bne_eq_false_iff_eq]; exact hk
  simp only [h1]
  repeat (first | (refine go_gsplit rfl rfl (fun hc => absurd hc (by first | decide +kernel | (simp; first | done | fail))) (fun _ => ?_); refine st_ ?_; (refine rn_ ?_; intros)) | (refine go_gsplit rfl rfl (fun _ => ?_) (fun hc => absurd hc (by first | decide +kernel | (simp; first | done | fail))); refine st_ ?_; (refine rn_ ?_; intros)) | (refine x_split rfl rfl rfl (fun hc => absurd hc (by first | decide +kernel | (simp; first | done | fail))) (fun _ => ?_); refine st_ ?_; (refine ru_ ?_; intros)) | (refine x_split rfl rfl rfl (fun _ => ?_) (fun hc => absurd hc (by first | decide +kernel | (simp; first | done | fail))); refine st_ ?_; (refine ru_ ?_; intros)))
  refine go_callf (by rw [hnt]; rfl) (by rw [hP]; kernel_rfl) rfl (hP ▸ check_ok v _ G hx) ?_; refine rn_ ?_; intros
  rw [chk_ne0]
  cases hv : vld v
  · (refine x_split rfl rfl rfl (fun _ => ?_) (fun hc => absurd hc (by first | decide +kernel | (simp; first | done | fail))); refine st_ ?_; (refine ru_ ?_; intros))
    refine rn_ ?_; intros
    refine x_retc rfl hQ hmb rfl (by rw [hty]; simp only [so, sq, zy, zz, tyE, SO', SQ', opQ, opStore, opAlloc, ev, putS, dOk, cv, SV.cs, SV.one, SV.bool?, eqB, Value.oneCell', ldOwn, binInt, binConst, binBool, binStr, isC, TK.agg, rv, rv1, ldV, resOne, resV, Nat.reduceAdd, Nat.reduceMul, Nat.reduceSub, Nat.reduceLT, Nat.reduceLeDiff, Nat.reduceEqDiff, Nat.reduceBEq, reduceIte, reduceCtorEq, eq_self]; try rfl) rfl ?_; simp only [SV.den, resV, dens]
    exact hnone (sd_no fun _ h => by rw [hv] at h; cases h)
  (refine x_split rfl rfl rfl (fun hc => absurd hc (by first | decide +kernel | (simp; first | done | fail))) (fun _ => ?_); refine st_ ?_; (refine ru_ ?_; intros))
  refine rn_ ?_; intros
  obtain ⟨a, y, hl, hsd⟩ := sd_pair hk hv
  obtain ⟨k, n, l⟩ := v
  simp only [kEq, nEq, lEq] at *
  subst hl
  have hxr := hx
  rw [rep_iff] at hx
  obtain ⟨_, _, _, ad', cap', hc, hr⟩ := hx
  cases hc
  rcases hr with hr | ⟨b, off, cs, rfl, hat, hrV⟩
  · cases hr
  obtain ⟨ada, capa, hata, hra⟩ := At_get hat hrV (i := 0) (by simp)
  obtain ⟨ady, capy, haty, hry⟩ := At_get hat hrV (i := 1) (by simp)
  simp only [List.getElem_cons_zero, List.getElem_cons_succ, Nat.zero_mul, Nat.one_mul, Nat.add_zero] at hata hra haty hry
  have hby : tsz y ≤ 1048576 := by simp only [tsz, tszL] at hb; omega
  simp only [List.length_cons, List.length_nil, Nat.zero_add, Nat.reduceAdd]
  refine go_q (by rw [hnt]; rfl) (quiet_index (by rw [hty]; rfl) (by rw [hty]; rfl) rfl rfl rfl (by omega) (by omega)) ?_
  refine rn_ ?_; intros
  refine go_q (v := .agg #[.int .i64 a.k, .int .i64 a.n, .slice ada a.l.length capa]) (by rw [hnt]; rfl) ((quiet_load (by rw [hty]; rfl) rfl (fun q => by cases q) (by simpa using hata) rfl).cast (by simp only [ldV]; rfl)) ?_
  refine rn_ ?_; intros
  rename_i b2
  by_cases hak : a.k = 2
  rotate_left
  · have h1 : (a.k != 2) = true := by rw [bne_iff_ne]; exact hak
    simp only [h1]
    repeat (first | (refine go_gsplit rfl rfl (fun hc => absurd hc (by first | decide +kernel | (simp; first | done | fail))) (fun _ => ?_); refine st_ ?_; (refine rn_ ?_; intros)) | (refine go_gsplit rfl rfl (fun _ => ?_) (fun hc => absurd hc (by first | decide +kernel | (simp; first | done | fail))); refine st_ ?_; (refine rn_ ?_; intros)) | (refine x_split rfl rfl rfl (fun hc => absurd hc (by first | decide +kernel | (simp; first | done | fail))) (fun _ => ?_); refine st_ ?_; (refine ru_ ?_; intros)) | (refine x_split rfl rfl rfl (fun _ => ?_) (fun hc => absurd hc (by first | decide +kernel | (simp; first | done | fail))); refine st_ ?_; (refine ru_ ?_; intros)))
    repeat (refine go_gundef rfl (by rw [hnt]; rfl) rfl ?_; (refine st_ ?_; (refine rn_ ?_; intros)))
    refine rn_ ?_; intros
    refine x_retc rfl hQ hmb rfl (by rw [hty]; simp only [so, sq, zy, zz, tyE, SO', SQ', opQ, opStore, opAlloc, ev, putS, dOk, cv, SV.cs, SV.one, SV.bool?, eqB, Value.oneCell', ldOwn, binInt, binConst, binBool, binStr, isC, TK.agg, rv, rv1, ldV, resOne, resV, Nat.reduceAdd, Nat.reduceMul, Nat.reduceSub, Nat.reduceLT, Nat.reduceLeDiff, Nat.reduceEqDiff, Nat.reduceBEq, reduceIte, reduceCtorEq, eq_self]; try rfl) rfl ?_; simp only [SV.den, resV, dens]
    exact hnone (by rw [hsd, if_neg (fun h => hak h.1)])
  have h1 : (a.k != 2) = false := by rw [bne_eq_false_iff_eq]; exact hak
  simp only [h1]
  repeat (first | (refine go_gsplit rfl rfl (fun hc => absurd hc (by first | decide +kernel | (simp; first | done | fail))) (fun _ => ?_); refine st_ ?_; (refine rn_ ?_; intros)) | (refine go_gsplit rfl rfl (fun _ => ?_) (fun hc => absurd hc (by first | decide +kernel | (simp; first | done | fail))); refine st_ ?_; (refine rn_ ?_; intros)) | (refine x_split rfl rfl rfl (fun hc => absurd hc (by first | decide +kernel | (simp; first | done | fail))) (fun _ => ?_); refine st_ ?_; (refine ru_ ?_; intros)) | (refine x_split rfl rfl rfl (fun _ => ?_) (fun hc => absurd hc (by first | decide +kernel | (simp; first | done | fail))); refine st_ ?_; (refine ru_ ?_; intros)))
  by_cases han : 0 ≤ a.n
  rotate_left
  · (refine x_split rfl rfl rfl (fun _ => ?_) (fun hc => absurd hc (by simp; omega)); refine st_ ?_; (refine ru_ ?_; intros))
    refine rn_ ?_; intros
    refine x_retc rfl hQ hmb rfl (by rw [hty]; simp only [so, sq, zy, zz, tyE, SO', SQ', opQ, opStore, opAlloc, ev, putS, dOk, cv, SV.cs, SV.one, SV.bool?, eqB, Value.oneCell', ldOwn, binInt, binConst, binBool, binStr, isC, TK.agg, rv, rv1, ldV, resOne, resV, Nat.reduceAdd, Nat.reduceMul, Nat.reduceSub, Nat.reduceLT, Nat.reduceLeDiff, Nat.reduceEqDiff, Nat.reduceBEq, reduceIte, reduceCtorEq, eq_self]; try rfl) rfl ?_; simp only [SV.den, resV, dens]
    exact hnone (by rw [hsd, if_neg (fun h => han h.2)])
  (refine x_split rfl rfl rfl (fun hc => absurd hc (by simpa using han)) (fun _ => ?_); simp only [so, sq, zy, zz, tyE, SO', SQ', opQ, opStore, opAlloc, ev, putS, dOk, cv, SV.cs, SV.one, SV.bool?, eqB, Value.oneCell', ldOwn, binInt, binConst, binBool, binStr, isC, TK.agg, rv, rv1, ldV, resOne, resV, Nat.reduceAdd, Nat.reduceMul, Nat.reduceSub, Nat.reduceLT, Nat.reduceLeDiff, Nat.reduceEqDiff, Nat.reduceBEq, Int.reduceEq, reduceIte, reduceCtorEq, eq_self]; (repeat (first | refine x_seq rfl ?_ | refine go_ops ?_ | refine go_blk ?_ | refine x_skip rfl ?_ | refine x_blk rfl rfl ?_ | refine x_exit rfl rfl rfl ?_ | refine x_ift rfl rfl rfl ?_ | refine x_iff rfl rfl rfl ?_ | refine x_label rfl ?_ | ((first | refine x_reg rfl rfl ?_ | (refine go_newx hty hnt hmh rfl rfl ?_; intro _)); refine runo0 400 hty hnt hmh ?_; simp only [so, sq, zy, zz, tyE, SO', SQ', opQ, opStore, opAlloc, ev, putS, dOk, cv, SV.cs, SV.one, SV.bool?, eqB, Value.oneCell', ldOwn, binInt, binConst, binBool, binStr, isC, TK.agg, rv, rv1, ldV, resOne, resV, Nat.reduceAdd, Nat.reduceMul, Nat.reduceSub, Nat.reduceLT, Nat.reduceLeDiff, Nat.reduceEqDiff, Nat.reduceBEq, Int.reduceEq, reduceIte, reduceCtorEq, eq_self]))))
  rename_i b3
  rw [if_pos ⟨hak, han⟩] at hsd
  have hQ2 : dnRet ⟨st, th, .mk k n [a, y]⟩ = fun v G => ∃ sa sr, v = .tuple #[.agg (opL (dntOp ⟨st, th, .mk k n [a, y]⟩ a.n y) sa sr ++ [Value.bool (a.n % 2 == 1)]).toArray, .bool true] ∧ (dntOp ⟨st, th, .mk k n [a, y]⟩ a.n y).rep G sa sr := by
    funext v G
    rw [dnRet]
    simp only [hsd]
  rw [hQ2] at hQ
  clear hQ2 hnone
  have h64 : isI64 a.n := (VT.rep_k hra).2
  simp only [isI64] at h64 hst hth
  simp only [tmod_nn han]
  refine go_keep [1, 2, 4, 5] [0, 1, 2, 3] ?_
  refine st_ ?_
  refine rn_ ?_; intros
  refine x_held [(0, b0, .c 30 [.v (.int .i64 st), .v (.int .i64 th), .v (.int .i64 k), .v (.int .i64 n), .v (.slice (some ⟨b, off, none⟩) 2 cap)]), (2, b2, .c 28 [.v (.int .i64 a.k), .v (.int .i64 a.n), .v (.slice ada a.l.length capa)])] rfl (by rw [hP]; kernel_rfl) rfl rfl rfl ?_; refine st_ ?_
  refine h_take 0 rfl (by kernel_rfl) (by kernel_rfl) (by kernel_rfl) hQp (by rw [hnt]; rfl) (allIn (by repeat (first | exact trivial | refine ⟨rfl, ?_⟩))) (by first | exact Le.refl _ | assumption) (quiet_op (by rw [hty]; first | rfl | (refine st_ ?_; rfl))) ?_; refine st_ ?_
  refine h_take 1 rfl (by kernel_rfl) (by kernel_rfl) (by kernel_rfl) hQp (by rw [hnt]; rfl) (allIn (by repeat (first | exact trivial | refine ⟨rfl, ?_⟩))) (by first | exact Le.refl _ | assumption) (quiet_op (by rw [hty]; first | rfl | (refine st_ ?_; rfl))) ?_; refine st_ ?_
  refine h_take 2 rfl (by kernel_rfl) (by kernel_rfl) (by kernel_rfl) hQp (by rw [hnt]; rfl) (allIn (by repeat (first | exact trivial | refine ⟨rfl, ?_⟩))) (by first | exact Le.refl _ | assumption) (quiet_op (by rw [hty]; first | rfl | (refine st_ ?_; rfl))) ?_; refine st_ ?_
  refine h_take 3 rfl (by kernel_rfl) (by kernel_rfl) (by kernel_rfl) hQp (by rw [hnt]; rfl) (allIn (by repeat (first | exact trivial | refine ⟨rfl, ?_⟩))) (by first | exact Le.refl _ | assumption) (quiet_op (by rw [hty]; first | rfl | (refine st_ ?_; rfl))) ?_; refine st_ ?_
  refine h_take 4 rfl (by kernel_rfl) (by kernel_rfl) (by kernel_rfl) hQp (by rw [hnt]; rfl) (allIn (by repeat (first | exact trivial | refine ⟨rfl, ?_⟩))) (by first | exact Le.refl _ | assumption) (x := .v (.int .i64 (a.n / 2))) ((quiet_bin rfl rfl rfl rfl (quo2 han (by omega))).cast rfl) ?_
  refine st_ ?_
  refine h_take 5 rfl (by kernel_rfl) (by kernel_rfl) (by kernel_rfl) hQp (by rw [hnt]; rfl) (allIn (by repeat (first | exact trivial | refine ⟨rfl, ?_⟩))) (by first | exact Le.refl _ | assumption) (quiet_op (by rw [hty]; first | rfl | (refine st_ ?_; rfl))) ?_; refine st_ ?_
  refine h_take 6 rfl (by kernel_rfl) (by kernel_rfl) (by kernel_rfl) hQp (by rw [hnt]; rfl) (allIn (by repeat (first | exact trivial | refine ⟨rfl, ?_⟩))) (by first | exact Le.refl _ | assumption) (quiet_op (by rw [hty]; first | rfl | (refine st_ ?_; rfl))) ?_; refine st_ ?_
  refine h_one 7 rfl (by kernel_rfl) ?_
  refine rn_ ?_; intros
  refine h_hs (allIn (by repeat (first | exact trivial | refine ⟨rfl, ?_⟩))) (by first | exact Le.refl _ | assumption) ?_
  refine h_take 8 rfl (by kernel_rfl) (by kernel_rfl) (by kernel_rfl) hQp (by rw [hnt]; rfl) (allIn (by repeat (first | exact trivial | refine ⟨rfl, ?_⟩))) (by first | exact Le.refl _ | assumption) (quiet_op (by rw [hty]; first | rfl | (refine st_ ?_; rfl))) ?_; refine st_ ?_
  refine h_take 9 rfl (by kernel_rfl) (by kernel_rfl) (by kernel_rfl) hQp (by rw [hnt]; rfl) (allIn (by repeat (first | exact trivial | refine ⟨rfl, ?_⟩))) (by first | exact Le.refl _ | assumption) (quiet_op (by rw [hty]; first | rfl | (refine st_ ?_; rfl))) ?_; refine st_ ?_
  refine h_one 10 rfl (by kernel_rfl) ?_
  refine rn_ ?_; intros
  refine h_hs (allIn (by repeat (first | exact trivial | refine ⟨rfl, ?_⟩))) (by first | exact Le.refl _ | assumption) ?_
  refine h_end (by kernel_rfl) ?_
  refine rn_ ?_; intros
  have hsy : sml y = true := by
    have h2 := vld_sml hv
    simp only [sml, decide_eq_true_eq] at h2 ⊢
    rw [cnt_eq _ 0 (by omega)] at h2 ⊢
    simp only [tsz, tszL] at h2
    omega
  cases hodd : a.n % 2 == 1
  · have ho : ¬ a.n % 2 = 1 := by simpa using hodd
    rw [hodd] at hQ
    (refine x_split rfl rfl rfl (fun hc => absurd hc (by first | decide +kernel | (simp; first | done | fail))) (fun _ => ?_); refine st_ ?_; (refine ru_ ?_; intros))
    refine rn_ ?_; intros
    refine x_held [(0, b0, .c 30 [.v (.int .i64 st), .v (.int .i64 th), .v (.int .i64 k), .v (.int .i64 n), .v (.slice (some ⟨b, off, none⟩) 2 cap)])] rfl (by rw [hP]; kernel_rfl) rfl rfl rfl ?_; refine st_ ?_
    refine h_take 0 rfl (by kernel_rfl) (by kernel_rfl) (by kernel_rfl) hQp (by rw [hnt]; rfl) (allIn (by repeat (first | exact trivial | refine ⟨rfl, ?_⟩))) (by first | exact Le.refl _ | assumption) (quiet_op (by rw [hty]; first | rfl | (refine st_ ?_; rfl))) ?_; refine st_ ?_
    refine h_take 1 rfl (by kernel_rfl) (by kernel_rfl) (by kernel_rfl) hQp (by rw [hnt]; rfl) (allIn (by repeat (first | exact trivial | refine ⟨rfl, ?_⟩))) (by first | exact Le.refl _ | assumption) (quiet_op (by rw [hty]; first | rfl | (refine st_ ?_; rfl))) ?_; refine st_ ?_
    refine h_take 2 rfl (by kernel_rfl) (by kernel_rfl) (by kernel_rfl) hQp (by rw [hnt]; rfl) (allIn (by repeat (first | exact trivial | refine ⟨rfl, ?_⟩))) (by first | exact Le.refl _ | assumption) (quiet_op (by rw [hty]; first | rfl | (refine st_ ?_; rfl))) ?_; refine st_ ?_
    refine h_take 3 rfl (by kernel_rfl) (by kernel_rfl) (by kernel_rfl) hQp (by rw [hnt]; rfl) (allIn (by repeat (first | exact trivial | refine ⟨rfl, ?_⟩))) (by first | exact Le.refl _ | assumption) (x := .v (.pointer (some ⟨b, off + 3, none⟩))) ((quiet_index (k := .i64) (n := 1) (by rw [hty]; rfl) (by rw [hty]; rfl) rfl rfl rfl (by omega) (by omega)).cast (by simp [SV.den])) ?_
    refine st_ ?_
    refine h_take 4 rfl (by kernel_rfl) (by kernel_rfl) (by kernel_rfl) hQp (by rw [hnt]; rfl) (allIn (by repeat (first | exact trivial | refine ⟨rfl, ?_⟩))) (by first | exact Le.refl _ | assumption) (x := .a [.v (.int .i64 y.k), .v (.int .i64 y.n), .v (.slice ady y.l.length capy)]) ((quiet_load (by rw [hty]; rfl) rfl (fun q => by cases q) haty rfl).cast (by simp only [ldV, SV.den, dens]; rfl)) ?_
    refine st_ ?_
    refine h_take 6 rfl (by kernel_rfl) (by kernel_rfl) (by kernel_rfl) hQp (by rw [hnt]; rfl) (allIn (by repeat (first | exact trivial | refine ⟨rfl, ?_⟩))) (by first | exact Le.refl _ | assumption) (quiet_op (by rw [hty]; first | rfl | (refine st_ ?_; rfl))) ?_; refine st_ ?_
    refine h_take 7 rfl (by kernel_rfl) (by kernel_rfl) (by kernel_rfl) hQp (by rw [hnt]; rfl) (allIn (by repeat (first | exact trivial | refine ⟨rfl, ?_⟩))) (by first | exact Le.refl _ | assumption) (quiet_op (by rw [hty]; first | rfl | (refine st_ ?_; rfl))) ?_; refine st_ ?_
    refine h_one 5 rfl (by kernel_rfl) ?_
    refine go_call (by rw [hnt]; rfl) (by rw [hP]; kernel_rfl) rfl (hP ▸ copy_ok y _ _ hry (by omega)) ?_
    rintro v G2 (hle2 : Le G G2) hv0
    obtain ⟨_, hv0⟩ | ⟨hsm, _⟩ := hv0
    rotate_left
    · rw [hsy] at hsm; cases hsm
    obtain ⟨sl2, rfl, hr2⟩ := copied_cells hv0
    clear hv0
    obtain ⟨asl2, csl2, rfl⟩ := VT.rep_slice hr2
    refine rn_ ?_; intros
    refine h_hs (allIn (by repeat (first | exact trivial | refine ⟨rfl, ?_⟩))) (by first | exact Le.refl _ | assumption) ?_
    refine h_take 8 rfl (by kernel_rfl) (by kernel_rfl) (by kernel_rfl) hQp (by rw [hnt]; rfl) (allIn (by repeat (first | exact trivial | refine ⟨rfl, ?_⟩))) (by first | exact Le.refl _ | assumption) (quiet_op (by rw [hty]; first | rfl | (refine st_ ?_; rfl))) ?_; refine st_ ?_
    refine h_take 9 rfl (by kernel_rfl) (by kernel_rfl) (by kernel_rfl) hQp (by rw [hnt]; rfl) (allIn (by repeat (first | exact trivial | refine ⟨rfl, ?_⟩))) (by first | exact Le.refl _ | assumption) (quiet_op (by rw [hty]; first | rfl | (refine st_ ?_; rfl))) ?_; refine st_ ?_
    refine h_one 10 rfl (by kernel_rfl) ?_
    refine rn_ ?_; intros
    refine h_hs (allIn (by repeat (first | exact trivial | refine ⟨rfl, ?_⟩))) (by first | exact Le.refl _ | assumption) ?_
    refine h_take 11 rfl (by kernel_rfl) (by kernel_rfl) (by kernel_rfl) hQp (by rw [hnt]; rfl) (allIn (by repeat (first | exact trivial | refine ⟨rfl, ?_⟩))) (by first | exact Le.refl _ | assumption) (quiet_op (by rw [hty]; first | rfl | (refine st_ ?_; rfl))) ?_; refine st_ ?_
    refine h_take 12 rfl (by kernel_rfl) (by kernel_rfl) (by kernel_rfl) hQp (by rw [hnt]; rfl) (allIn (by repeat (first | exact trivial | refine ⟨rfl, ?_⟩))) (by first | exact Le.refl _ | assumption) (quiet_op (by rw [hty]; first | rfl | (refine st_ ?_; rfl))) ?_; refine st_ ?_
    refine h_one 13 rfl (by kernel_rfl) ?_
    refine rn_ ?_; intros
    refine h_hs (allIn (by repeat (first | exact trivial | refine ⟨rfl, ?_⟩))) (by first | exact Le.refl _ | assumption) ?_
    refine h_end (by kernel_rfl) ?_
    refine rn_ ?_; intros
    refine x_retc rfl hQ hmb rfl (by rw [hty]; simp only [so, sq, zy, zz, tyE, SO', SQ', opQ, opStore, opAlloc, ev, putS, dOk, cv, SV.cs, SV.one, SV.bool?, eqB, Value.oneCell', ldOwn, binInt, binConst, binBool, binStr, isC, TK.agg, rv, rv1, ldV, resOne, resV, Nat.reduceAdd, Nat.reduceMul, Nat.reduceSub, Nat.reduceLT, Nat.reduceLeDiff, Nat.reduceEqDiff, Nat.reduceBEq, reduceIte, reduceCtorEq, eq_self]; try rfl) rfl ?_; simp only [SV.den, resV, dens]
    rw [dntOp, if_neg ho]
    exact ⟨_, .slice none 0 0, rfl, ⟨by simp only [isI64]; omega, by simp only [isI64]; omega, by simp only [isI64]; omega, by simp only [isI64]; omega, hby, by simp [noneV, tsz, tszL]⟩, hr2, rep_leaf _ 0 0 (by simp [isI64]) (by simp [isI64])⟩
  · have ho : a.n % 2 = 1 := by simpa using hodd
    rw [hodd] at hQ
    (refine x_split rfl rfl rfl (fun _ => ?_) (fun hc => absurd hc (by first | decide +kernel | (simp; first | done | fail))); refine st_ ?_; (refine ru_ ?_; intros))
    refine rn_ ?_; intros
    refine x_held [(0, b0, .c 30 [.v (.int .i64 st), .v (.int .i64 th), .v (.int .i64 k), .v (.int .i64 n), .v (.slice (some ⟨b, off, none⟩) 2 cap)])] rfl (by rw [hP]; kernel_rfl) rfl rfl rfl ?_; refine st_ ?_
    refine h_take 0 rfl (by kernel_rfl) (by kernel_rfl) (by kernel_rfl) hQp (by rw [hnt]; rfl) (allIn (by repeat (first | exact trivial | refine ⟨rfl, ?_⟩))) (by first | exact Le.refl _ | assumption) (quiet_op (by rw [hty]; first | rfl | (refine st_ ?_; rfl))) ?_; refine st_ ?_
    refine h_take 1 rfl (by kernel_rfl) (by kernel_rfl) (by kernel_rfl) hQp (by rw [hnt]; rfl) (allIn (by repeat (first | exact trivial | refine ⟨rfl, ?_⟩))) (by first | exact Le.refl _ | assumption) (quiet_op (by rw [hty]; first | rfl | (refine st_ ?_; rfl))) ?_; refine st_ ?_
    refine h_take 2 rfl (by kernel_rfl) (by kernel_rfl) (by kernel_rfl) hQp (by rw [hnt]; rfl) (allIn (by repeat (first | exact trivial | refine ⟨rfl, ?_⟩))) (by first | exact Le.refl _ | assumption) (quiet_op (by rw [hty]; first | rfl | (refine st_ ?_; rfl))) ?_; refine st_ ?_
    refine h_take 3 rfl (by kernel_rfl) (by kernel_rfl) (by kernel_rfl) hQp (by rw [hnt]; rfl) (allIn (by repeat (first | exact trivial | refine ⟨rfl, ?_⟩))) (by first | exact Le.refl _ | assumption) (x := .v (.pointer (some ⟨b, off + 3, none⟩))) ((quiet_index (k := .i64) (n := 1) (by rw [hty]; rfl) (by rw [hty]; rfl) rfl rfl rfl (by omega) (by omega)).cast (by simp [SV.den])) ?_
    refine st_ ?_
    refine h_take 4 rfl (by kernel_rfl) (by kernel_rfl) (by kernel_rfl) hQp (by rw [hnt]; rfl) (allIn (by repeat (first | exact trivial | refine ⟨rfl, ?_⟩))) (by first | exact Le.refl _ | assumption) (x := .a [.v (.int .i64 y.k), .v (.int .i64 y.n), .v (.slice ady y.l.length capy)]) ((quiet_load (by rw [hty]; rfl) rfl (fun q => by cases q) haty rfl).cast (by simp only [ldV, SV.den, dens]; rfl)) ?_
    refine st_ ?_
    refine h_take 6 rfl (by kernel_rfl) (by kernel_rfl) (by kernel_rfl) hQp (by rw [hnt]; rfl) (allIn (by repeat (first | exact trivial | refine ⟨rfl, ?_⟩))) (by first | exact Le.refl _ | assumption) (quiet_op (by rw [hty]; first | rfl | (refine st_ ?_; rfl))) ?_; refine st_ ?_
    refine h_take 7 rfl (by kernel_rfl) (by kernel_rfl) (by kernel_rfl) hQp (by rw [hnt]; rfl) (allIn (by repeat (first | exact trivial | refine ⟨rfl, ?_⟩))) (by first | exact Le.refl _ | assumption) (quiet_op (by rw [hty]; first | rfl | (refine st_ ?_; rfl))) ?_; refine st_ ?_
    refine h_one 5 rfl (by kernel_rfl) ?_
    refine go_call (by rw [hnt]; rfl) (by rw [hP]; kernel_rfl) rfl (hP ▸ copy_ok y _ _ hry (by omega)) ?_
    rintro v G2 (hle2 : Le G G2) hv0
    obtain ⟨_, hv0⟩ | ⟨hsm, _⟩ := hv0
    rotate_left
    · rw [hsy] at hsm; cases hsm
    obtain ⟨sl2, rfl, hr2⟩ := copied_cells hv0
    clear hv0
    obtain ⟨asl2, csl2, rfl⟩ := VT.rep_slice hr2
    refine rn_ ?_; intros
    refine h_hs (allIn (by repeat (first | exact trivial | refine ⟨rfl, ?_⟩))) (by first | exact Le.refl _ | assumption) ?_
    refine h_take 8 rfl (by kernel_rfl) (by kernel_rfl) (by kernel_rfl) hQp (by rw [hnt]; rfl) (allIn (by repeat (first | exact trivial | refine ⟨rfl, ?_⟩))) (by first | exact Le.refl _ | assumption) (quiet_op (by rw [hty]; first | rfl | (refine st_ ?_; rfl))) ?_; refine st_ ?_
    refine h_take 9 rfl (by kernel_rfl) (by kernel_rfl) (by kernel_rfl) hQp (by rw [hnt]; rfl) (allIn (by repeat (first | exact trivial | refine ⟨rfl, ?_⟩))) (by first | exact Le.refl _ | assumption) (quiet_op (by rw [hty]; first | rfl | (refine st_ ?_; rfl))) ?_; refine st_ ?_
    refine h_one 10 rfl (by kernel_rfl) ?_
    refine rn_ ?_; intros
    refine h_hs (allIn (by repeat (first | exact trivial | refine ⟨rfl, ?_⟩))) (by first | exact Le.refl _ | assumption) ?_
    refine h_take 11 rfl (by kernel_rfl) (by kernel_rfl) (by kernel_rfl) hQp (by rw [hnt]; rfl) (allIn (by repeat (first | exact trivial | refine ⟨rfl, ?_⟩))) (by first | exact Le.refl _ | assumption) (quiet_op (by rw [hty]; first | rfl | (refine st_ ?_; rfl))) ?_; refine st_ ?_
    refine h_take 12 rfl (by kernel_rfl) (by kernel_rfl) (by kernel_rfl) hQp (by rw [hnt]; rfl) (allIn (by repeat (first | exact trivial | refine ⟨rfl, ?_⟩))) (by first | exact Le.refl _ | assumption) (quiet_op (by rw [hty]; first | rfl | (refine st_ ?_; rfl))) ?_; refine st_ ?_
    refine h_one 13 rfl (by kernel_rfl) ?_
    refine rn_ ?_; intros
    refine h_hs (allIn (by repeat (first | exact trivial | refine ⟨rfl, ?_⟩))) (by first | exact Le.refl _ | assumption) ?_
    refine h_take 14 rfl (by kernel_rfl) (by kernel_rfl) (by kernel_rfl) hQp (by rw [hnt]; rfl) (allIn (by repeat (first | exact trivial | refine ⟨rfl, ?_⟩))) (by first | exact Le.refl _ | assumption) (quiet_op (by rw [hty]; first | rfl | (refine st_ ?_; rfl))) ?_; refine st_ ?_
    refine h_take 15 rfl (by kernel_rfl) (by kernel_rfl) (by kernel_rfl) hQp (by rw [hnt]; rfl) (allIn (by repeat (first | exact trivial | refine ⟨rfl, ?_⟩))) (by first | exact Le.refl _ | assumption) (quiet_op (by rw [hty]; first | rfl | (refine st_ ?_; rfl))) ?_; refine st_ ?_
    refine h_one 16 rfl (by kernel_rfl) ?_
    refine rn_ ?_; intros
    refine h_hs (allIn (by repeat (first | exact trivial | refine ⟨rfl, ?_⟩))) (by first | exact Le.refl _ | assumption) ?_
    refine h_end (by kernel_rfl) ?_
    refine rn_ ?_; intros
    refine x_retc rfl hQ hmb rfl (by rw [hty]; simp only [so, sq, zy, zz, tyE, SO', SQ', opQ, opStore, opAlloc, ev, putS, dOk, cv, SV.cs, SV.one, SV.bool?, eqB, Value.oneCell', ldOwn, binInt, binConst, binBool, binStr, isC, TK.agg, rv, rv1, ldV, resOne, resV, Nat.reduceAdd, Nat.reduceMul, Nat.reduceSub, Nat.reduceLT, Nat.reduceLeDiff, Nat.reduceEqDiff, Nat.reduceBEq, reduceIte, reduceCtorEq, eq_self]; try rfl) rfl ?_; simp only [SV.den, resV, dens]
    rw [dntOp, if_pos ho]
    exact ⟨.slice none 0 0, _, rfl, ⟨by simp only [isI64]; omega, by simp only [isI64]; omega, by simp only [isI64]; omega, by simp only [isI64]; omega, by simp [noneV, tsz, tszL], hby⟩, rep_leaf _ 0 0 (by simp [isI64]) (by simp [isI64]), hr2⟩
end Go.Proofs.Ytpmmbjcgabnloaa
namespace Go.Proofs.Ytpmmbjcgabnloaa
set_option linter.unusedSimpArgs false
set_option linter.unusedVariables false
open Go.Sx
set_option maxHeartbeats 8000000
set_option maxRecDepth 20000
end Go.Proofs.Ytpmmbjcgabnloaa
namespace Go.Sx
set_option linter.unusedSimpArgs false
set_option linter.unusedVariables false
open Go.RowKit
def mdel (k : Int) : MEs → MEs
  | [] => []
  | x :: l => if x.1 = k then l else x :: mdel k l
theorem mdel_none {k : Int} : ∀ {l : MEs}, mget k l = none → mdel k l = l
  | [], _ => rfl
  | x :: l, h => by
    simp only [mget] at h
    split at h
    · cases h
    · rename_i hne; rw [mdel, if_neg hne, mdel_none h]
theorem findNow_del {q kd : IntKind} {k : Int} {v : Value} : ∀ {l : MEs} (i : Nat), mget k l = some v → ∃ j, Instr.findNow (.int q) (.int kd k) (l.map (mEnt kd)) i = some (some (i + j, v)) ∧ mdel k l = l.eraseIdx j
  | [], i, h => by simp [mget] at h
  | x :: l, i, h => by
    simp only [mget] at h
    split at h
    · rename_i he
      cases h
      refine ⟨0, ?_, ?_⟩
      · have : (k == x.1) = true := by simp [he]
        simp only [List.map_cons, Instr.findNow, mEnt, Instr.sameNow, if_true, this, Nat.add_zero]
      · simp [mdel, he]
    · rename_i hne
      obtain ⟨j, h1, h2⟩ := findNow_del (l := l) (q := q) (kd := kd) (i + 1) h
      refine ⟨j + 1, ?_, ?_⟩
      · have : (k == x.1) = false := by simp; omega
        simp only [List.map_cons, Instr.findNow, mEnt, Instr.sameNow, if_true, this]
        rw [show i + (j + 1) = i + 1 + j by omega]
        exact h1
      · simp [mdel, hne, h2]
theorem map_er {α β : Type} (f : α → β) : ∀ (l : List α) (j : Nat), (l.eraseIdx j).map f = (l.map f).eraseIdx j
  | [], _ => rfl
  | x :: l, 0 => rfl
  | x :: l, j + 1 => by simp [map_er f l j]
def mUq (l : MEs) : Prop := (l.map (·.1)).Nodup
theorem mget_mem {k : Int} : ∀ {l : MEs}, (mget k l).isSome = true ↔ k ∈ l.map (·.1)
  | [] => by simp [mget]
  | x :: l => by
    simp only [mget, List.map_cons, List.mem_cons]
    split
    · rename_i h; simp [h]
    · rename_i h; rw [mget_mem]; simp [Ne.symm h]
theorem mget_del {k k' : Int} : ∀ {l : MEs}, mUq l → mget k' (mdel k l) = if k' = k then none else mget k' l
  | [], _ => by simp [mdel, mget]
  | x :: l, h => by
    simp only [mUq, List.map_cons, List.nodup_cons] at h
    by_cases hx : x.1 = k
    · rw [mdel, if_pos hx]
      by_cases hk : k' = k
      · rw [if_pos hk]
        cases hm : mget k' l with
        | none => rfl
        | some v =>
          have : k' ∈ l.map (·.1) := mget_mem.1 (by rw [hm]; rfl)
          rw [hk, ← hx] at this
          exact absurd this h.1
      · rw [if_neg hk, mget, if_neg (by omega)]
    · rw [mdel, if_neg hx]
      simp only [mget]
      by_cases hk : k' = k
      · rw [if_pos hk, if_neg (by omega), mget_del h.2, if_pos hk]
      · rw [if_neg hk, mget_del h.2, if_neg hk]
theorem mdel_sub {k : Int} : ∀ {l : MEs} {y : Int}, y ∈ (mdel k l).map (·.1) → y ∈ l.map (·.1)
  | [], y, h => h
  | x :: l, y, h => by
    rw [mdel] at h
    split at h
    · exact List.mem_cons_of_mem _ h
    · simp only [List.map_cons, List.mem_cons] at h ⊢
      exact h.imp id fun q => mdel_sub q
theorem mUq_del {k : Int} : ∀ {l : MEs}, mUq l → mUq (mdel k l)
  | [], h => h
  | x :: l, h => by
    simp only [mUq, List.map_cons, List.nodup_cons] at h
    rw [mdel]
    split
    · exact h.2
    · simp only [mUq, List.map_cons, List.nodup_cons]
      exact ⟨fun q => h.1 (mdel_sub q), mUq_del h.2⟩
theorem mget_put {k k' : Int} {v : Value} {c : Nat} : ∀ {l : MEs}, mget k' (mput k v c l) = if k' = k then some v else mget k' l
  | [] => by
    simp only [mput, mget]
    by_cases h : k = k'
    · rw [if_pos h, if_pos h.symm]
    · rw [if_neg h, if_neg (fun q => h q.symm)]
  | x :: l => by
    rw [mput]
    split
    · rename_i hx
      simp only [mget]
      by_cases h : k' = k
      · rw [if_pos h.symm, if_pos h]
      · rw [if_neg (fun q => h q.symm), if_neg h, if_neg (by omega)]
    · rename_i hx
      simp only [mget, mget_put]
      by_cases h : k' = k
      · rw [if_pos h, if_neg (by omega), if_pos h]
      · rw [if_neg h, if_neg h]
theorem mUq_put {k : Int} {v : Value} {c : Nat} : ∀ {l : MEs}, mUq l → mUq (mput k v c l)
  | [], _ => by simp [mput, mUq]
  | x :: l, h => by
    simp only [mUq, List.map_cons, List.nodup_cons] at h
    rw [mput]
    split
    · rename_i hx
      simp only [mUq, List.map_cons, List.nodup_cons]
      rw [← hx]; exact h
    · rename_i hx
      simp only [mUq, List.map_cons, List.nodup_cons]
      refine ⟨fun q => ?_, mUq_put h.2⟩
      have : (mget x.1 (mput k v c l)).isSome = true := mget_mem.2 q
      rw [mget_put, if_neg hx] at this
      exact h.1 (mget_mem.1 this)
section
variable {P : Program} {w : World} {q kd : IntKind} {K E T : TypeId} {b c : Nat} {l : MEs} {z : Value} {k : Int}
theorem run_mdelete (hT : P.underlying T = some (.map K E)) (hK : P.underlying K = some (.int q)) (hb : w.heap[b]? = some (mObj kd l c)) (k : Int) (t : TypeId) :
    (Builtin.delete_ #[T, K] t #[.map (some b), .int kd k]).run P w = .ok (.tuple #[]) (setBlk w b (mObj kd (mdel k l) c)) := by
  have hb' : w.heap[b]? = some (.map (l.map (mEnt kd)).toArray c) := hb
  have e0 : (#[T, K] : Array TypeId)[0]? = some T := rfl
  have e1 : (#[Value.map (some b), Value.int kd k] : Array Value)[0]? = some (.map (some b)) := rfl
  have e2 : (#[Value.map (some b), Value.int kd k] : Array Value)[1]? = some (.int kd k) := rfl
  simp only [Builtin.delete_, e0, e1, e2, Sem.run_bind, run_und w hT, Result.andThen_ok, Go.MapKept.run_getObj_map hb', run_checkKey hK, Instr.findKey, run_und w hK]
  cases hm : mget k l with
  | none =>
    simp only [findNow_none (q := q) (kd := kd) 0 hm, Sem.run_pure, Sem.run_bind, Result.andThen_ok, Go.MapKept.run_setObj_map _ hb', mdel_none hm]
    rfl
  | some v0 =>
    obtain ⟨j, h1, h2⟩ := findNow_del (q := q) (kd := kd) 0 hm
    have he : ((l.map (mEnt kd)).toArray.eraseIdxIfInBounds j) = ((l.eraseIdx j).map (mEnt kd)).toArray := by
      apply Array.ext'
      rw [map_er]
      simp
    simp only [h1, Sem.run_pure, Sem.run_bind, Result.andThen_ok, h2, Nat.zero_add, he, Go.MapKept.run_setObj_map _ hb']
    rfl
end
section
variable {C : Ctx} {K : List KI} {s : St} {R : Array Oper} {l : List Oper} {d : Option Tmp} {t : TypeId} {pos : String} {aft : Array Edge} {sz by' sz2 by2 : Nat} {ze ze2 : List Value} {fl fl2 : List (Nat × Nat × Bool)} {q kd : IntKind} {T KT E : TypeId} {x i : Operand} {b c : Nat} {es : MEs} {n : Int}
theorem go_mdel (k : Nat) (hd : dOk C.nt d = true) (hT : C.ty T = some ⟨.map KT E, sz, by', ze, fl⟩) (hK : C.ty KT = some ⟨.int q, sz2, by2, ze2, fl2⟩) (hx : ev s.sl x = some (.v (.map (some b)))) (hi : ev s.sl i = some (.v (.int kd n))) (hk : lk k s.own = some (b, .o (mObj kd es c)))
    (h : SGo C (.ops R l :: K) ⟨putS d (.v (.tuple #[])) s.sl, stk k (b, .o (mObj kd (mdel n es) c)) s.own, s.G, s.df⟩) : SGo C (.ops R (⟨d, .call ⟨.builtin .delete, #[x, i], #[T, KT]⟩, t, pos, aft, none⟩ :: l) :: K) s := by
  intro a w hS
  have hxv := ev_ok hS.sl hx
  have hiv := ev_ok hS.sl hi
  simp only [SV.den] at hxv hiv
  have h1 := (C.tyok _ _ hT).k
  have h2 := (C.tyok _ _ hK).k
  simp only [TK.fits] at h1 h2
  have hb := (hS.mem.own _ _ _ hk).1
  simp only [OO.holds] at hb
  have hrun : (execOp a.eval ⟨d, .call ⟨.builtin .delete, #[x, i], #[T, KT]⟩, t, pos, aft, none⟩).run C.P w = .ok (.value (.tuple #[])) (setBlk w b (mObj kd (mdel n es) c)) := by
    simp [execOp, resolve, hxv, hiv, Deferred.ofValue, invoke, builtin, run_mdelete h1 h2 hb]
  refine K_value rfl hrun ?_
  have hlt := lt_of_heap hb
  have hm : Mem C (stk k (b, .o (mObj kd (mdel n es) c)) s.own) s.G (setBlk w b (mObj kd (mdel n es) c)) :=
    hS.mem.put hk rfl rfl rfl (by rw [setBlk_size]; exact Nat.le_refl _) (fun j _ hj => setBlk_ne (fun e => hj e) _) (setBlk_same hlt _) (fun g => ⟨.inl, .inl⟩)
  have hS' := hS.put hd (.v (.tuple #[])) hm
  simp only [SV.den] at hS'
  exact h _ _ hS'
end
end Go.Sx
namespace Go.Proofs.Ytpmmbjcgabnloaa
set_option linter.unusedSimpArgs false
set_option linter.unusedVariables false
open Go.Sx
def opnK (out : List Op) (th : Int) : Nat → Option Nat
  | 0 => none
  | k + 1 => match out[k]? with
    | some o => if o.th = th ∧ o.dn = false then some k else opnK out th k
    | none => opnK out th k
def opn (out : List Op) (th : Int) : Option Nat := opnK out th out.length
theorem opnK_some {out : List Op} {th : Int} : ∀ {k j : Nat}, opnK out th k = some j → j < k ∧ ∃ o, out[j]? = some o ∧ o.th = th ∧ o.dn = false
  | 0, j, h => by cases h
  | k + 1, j, h => by
    rw [opnK] at h
    split at h
    · rename_i o ho
      split at h
      · rename_i hc; cases h; exact ⟨by omega, o, ho, hc⟩
      · obtain ⟨h1, h2⟩ := opnK_some h; exact ⟨by omega, h2⟩
    · obtain ⟨h1, h2⟩ := opnK_some h; exact ⟨by omega, h2⟩
theorem opnK_none {out : List Op} {th : Int} : ∀ {k : Nat}, opnK out th k = none → ∀ {j : Nat} {o : Op}, j < k → out[j]? = some o → ¬ (o.th = th ∧ o.dn = false)
  | 0, _, j, o, hj, _ => by omega
  | k + 1, h, j, o, hj, ho => by
    rw [opnK] at h
    by_cases hjk : j = k
    · subst hjk
      rw [ho] at h
      simp only at h
      split at h
      · cases h
      · rename_i hc; exact hc
    · split at h
      · split at h
        · cases h
        · exact opnK_none h (by omega) ho
      · exact opnK_none h (by omega) ho
def Uq (out : List Op) : Prop := ∀ (i j : Nat) (a b : Op), out[i]? = some a → out[j]? = some b → a.dn = false → b.dn = false → a.th = b.th → i = j
theorem opn_eq {out : List Op} {th : Int} (hu : Uq out) {j : Nat} {o : Op} (ho : out[j]? = some o) (ht : o.th = th) (hd : o.dn = false) : opn out th = some j := by
  have hj : j < out.length := (List.getElem?_eq_some_iff.1 ho).1
  rw [opn]
  cases h : opnK out th out.length with
  | none => exact absurd ⟨ht, hd⟩ (opnK_none h hj ho)
  | some i =>
    obtain ⟨_, a, ha, h1, h2⟩ := opnK_some h
    rw [hu i j a o ha ho h2 hd (h1.trans ht.symm)]
theorem opn_no {out : List Op} {th : Int} (h : ∀ (j : Nat) (o : Op), out[j]? = some o → o.th = th → o.dn = false → False) : opn out th = none := by
  rw [opn]
  cases hk : opnK out th out.length with
  | none => rfl
  | some i =>
    obtain ⟨_, a, ha, h1, h2⟩ := opnK_some hk
    exact (h i a ha h1 h2).elim
theorem opn_some {out : List Op} {th : Int} {j : Nat} (h : opn out th = some j) : ∃ hj : j < out.length, out[j].th = th ∧ out[j].dn = false := by
  obtain ⟨h1, o, h2, h3, h4⟩ := opnK_some h
  obtain ⟨hj, rfl⟩ := List.getElem?_eq_some_iff.1 h2
  exact ⟨hj, h3, h4⟩
theorem opn_free {out : List Op} {th : Int} (h : opn out th = none) {j : Nat} {o : Op} (ho : out[j]? = some o) (ht : o.th = th) (hd : o.dn = false) : False :=
  opnK_none h (List.getElem?_eq_some_iff.1 ho).1 ho ⟨ht, hd⟩
theorem uq_add {out : List Op} {x : Op} (hu : Uq out) (hn : opn out x.th = none) : Uq (out ++ [x]) := by
  intro i j a b ha hb h1 h2 h3
  have hs : ∀ {i : Nat} {a : Op}, (out ++ [x])[i]? = some a → out[i]? = some a ∨ (i = out.length ∧ a = x) := fun {i a} h => by
    rcases Nat.lt_or_ge i out.length with q | q
    · rw [List.getElem?_append_left q] at h; exact .inl h
    · rw [List.getElem?_append_right q] at h
      rcases Nat.eq_zero_or_pos (i - out.length) with z | z
      · rw [z] at h; simp at h; exact .inr ⟨by omega, h.symm⟩
      · rw [List.getElem?_eq_none (by simp; omega)] at h; cases h
  rcases hs ha with qa | ⟨qa, ea⟩ <;> rcases hs hb with qb | ⟨qb, eb⟩
  · exact hu i j a b qa qb h1 h2 h3
  · rw [eb] at h3; exact (opn_free hn qa h3 h1).elim
  · rw [ea] at h3; exact (opn_free hn qb h3.symm h2).elim
  · omega
theorem opn_add {out : List Op} {x : Op} (hu : Uq out) (hn : opn out x.th = none) (hx : x.dn = false) (th : Int) : opn (out ++ [x]) th = if th = x.th then some out.length else opn out th := by
  have hu2 := uq_add hu hn
  split
  · rename_i h
    exact opn_eq hu2 (o := x) (by simp) h.symm hx
  · rename_i h
    cases ho : opn out th with
    | none =>
      refine opn_no fun j o hj ht hd => ?_
      rcases Nat.lt_or_ge j out.length with q | q
      · rw [List.getElem?_append_left q] at hj; exact opn_free ho hj ht hd
      · rw [List.getElem?_append_right q] at hj
        rcases Nat.eq_zero_or_pos (j - out.length) with z | z
        · rw [z] at hj; simp at hj; subst hj; exact h ht.symm
        · rw [List.getElem?_eq_none (by simp; omega)] at hj; cases hj
    | some j =>
      obtain ⟨hj, h1, h2⟩ := opn_some ho
      exact opn_eq hu2 (o := out[j]) (by rw [List.getElem?_append_left hj, List.getElem?_eq_getElem hj]) h1 h2
theorem uq_set {out : List Op} {k : Nat} {y : Op} (hu : Uq out) (hy : y.dn = true) : Uq (out.set k y) := by
  intro i j a b ha hb h1 h2 h3
  have hs : ∀ {i : Nat} {a : Op}, (out.set k y)[i]? = some a → a.dn = false → out[i]? = some a := fun {i a} h hd => by
    rw [List.getElem?_set] at h
    split at h
    · split at h
      · cases h; rw [hy] at hd; cases hd
      · cases h
    · exact h
  exact hu i j a b (hs ha h1) (hs hb h2) h1 h2 h3
theorem opn_set {out : List Op} {k : Nat} {y : Op} (hu : Uq out) (hy : y.dn = true) {t0 : Int} (hk : opn out t0 = some k) (th : Int) : opn (out.set k y) th = if th = t0 then none else opn out th := by
  have hu2 := uq_set (k := k) hu hy
  obtain ⟨hkl, hk1, hk2⟩ := opn_some hk
  have hs : ∀ {i : Nat} {a : Op}, (out.set k y)[i]? = some a → a.dn = false → out[i]? = some a ∧ i ≠ k := fun {i a} h hd => by
    rw [List.getElem?_set] at h
    by_cases q : k = i
    · rw [if_pos q, if_pos hkl] at h
      cases h; rw [hy] at hd; cases hd
    · rw [if_neg q] at h; exact ⟨h, fun e => q e.symm⟩
  split
  · rename_i h
    refine opn_no fun j o hj ht hd => ?_
    obtain ⟨h1, h2⟩ := hs hj hd
    exact h2 (hu j k o out[k] h1 (List.getElem?_eq_getElem hkl) hd hk2 (by rw [ht, hk1, h]))
  · rename_i h
    cases ho : opn out th with
    | none => exact opn_no fun j o hj ht hd => opn_free ho (hs hj hd).1 ht hd
    | some j =>
      obtain ⟨hj, h1, h2⟩ := opn_some ho
      have hne : k ≠ j := fun q => by subst q; exact h (h1.symm.trans hk1)
      exact opn_eq hu2 (o := out[j]) (by rw [List.getElem?_set_ne hne, List.getElem?_eq_getElem hj]) h1 h2
def retOp (o : Op) (y : VT) (st : Int) : Op := ⟨o.th, o.kd, o.arg, y, o.fr, st, true⟩
def ofStep (last : Int) (out : List Op) (x : Mk) : Option (List Op) :=
  if x.th < 0 ∨ x.st < last then none else
  match sdP x.v with
  | none => some out
  | some (n, y) =>
    if n % 2 = 1 then (match opn out x.th with
      | none => none
      | some k => match out[k]? with
        | none => none
        | some o => if o.kd = n / 2 then some (out.set k (retOp o y x.st)) else none)
    else (match opn out x.th with
      | none => some (out ++ [dntOp x n y])
      | some _ => none)
def ofP : List Mk → Int → List Op → Option (List Op)
  | [], _, out => some out
  | x :: r, last, out => match ofStep last out x with
    | none => none
    | some out' => ofP r x.st out'
def ofRet (r : Option (List Op)) (v : Value) (G : Hp) : Prop := match r with
  | none => v = .tuple #[.slice none 0 0, .int .i64 290]
  | some out => ∃ sl, v = .tuple #[sl, .int .i64 0] ∧ rO.S G out sl
theorem ofP_step {l : List Mk} {k : Nat} {last : Int} {out : List Op} (hk : k < l.length) : ofP (l.drop k) last out = match ofStep last out l[k] with
    | none => none
    | some out' => ofP (l.drop (k + 1)) l[k].st out' := by
  rw [List.drop_eq_getElem_cons hk, ofP]
end Go.Proofs.Ytpmmbjcgabnloaa
namespace Go.Proofs.Ytpmmbjcgabnloaa
set_option linter.unusedSimpArgs false
set_option linter.unusedVariables false
open Go.Sx
set_option maxHeartbeats 8000000
set_option maxRecDepth 20000
theorem cut1 {xs c : List Value} {m i : Nat} {v : Value} (h : (xs.drop m).take 11 = c) (hv : c[i]? = some v) (hi : i < 11) : (xs.drop (m + i)).take 1 = [v] := by
  have h1 : xs[m + i]? = some v := by
    have := congrArg (fun l => l[i]?) h
    simp only [List.getElem?_take, List.getElem?_drop] at this
    rw [if_pos hi] at this
    rw [this, hv]
  obtain ⟨hl, rfl⟩ := List.getElem?_eq_some_iff.1 h1
  rw [List.drop_eq_getElem_cons hl]
  rfl
theorem layA (A B : List Value) (c0 c1 c2 c3 c4 c5 c6 c7 c8 c9 c10 n0 n1 n2 : Value) : lay (A ++ [c0, c1, c2, c3, c4, c5, c6, c7, c8, c9, c10] ++ B) (A.length + 5) [n0, n1, n2] = some (A ++ [c0, c1, c2, c3, c4, n0, n1, n2, c8, c9, c10] ++ B) := by
  have := lay_at (A ++ [c0, c1, c2, c3, c4]) [c5, c6, c7] [n0, n1, n2] ([c8, c9, c10] ++ B) rfl
  simpa using this
theorem layB (A B : List Value) (c0 c1 c2 c3 c4 c5 c6 c7 c8 c9 c10 n0 : Value) : lay (A ++ [c0, c1, c2, c3, c4, c5, c6, c7, c8, c9, c10] ++ B) (A.length + 9) [n0] = some (A ++ [c0, c1, c2, c3, c4, c5, c6, c7, c8, n0, c10] ++ B) := by
  have := lay_at (A ++ [c0, c1, c2, c3, c4, c5, c6, c7, c8]) [c9] [n0] ([c10] ++ B) rfl
  simpa using this
theorem layC (A B : List Value) (c0 c1 c2 c3 c4 c5 c6 c7 c8 c9 c10 n0 : Value) : lay (A ++ [c0, c1, c2, c3, c4, c5, c6, c7, c8, c9, c10] ++ B) (A.length + 10) [n0] = some (A ++ [c0, c1, c2, c3, c4, c5, c6, c7, c8, c9, n0] ++ B) := by
  have := lay_at (A ++ [c0, c1, c2, c3, c4, c5, c6, c7, c8, c9]) [c10] [n0] B rfl
  simpa using this
end Go.Proofs.Ytpmmbjcgabnloaa
namespace Go.Sx
set_option linter.unusedSimpArgs false
set_option linter.unusedVariables false
open Go.RowKit
section
variable {C : Ctx} {K : List KI} {s : St} {R : Array Oper} {l : List Oper} {d : Option Tmp} {t : TypeId} {pos : String} {aft : Array Edge}
theorem h_takeGD (i : Nat) {own0 : List (Nat × Nat × OO)} {G0 : Hp} {n j g : Nat} {want : Bool} {listed : Array Bool} {op : Op} {x : SV} (hi : R[i]? = some ⟨d, op, t, pos, aft, some (j, want)⟩) (hj : (R[j]?).bind (·.dst) = some g) (hg : lk g s.sl = some (.b want)) (hs : Region.noSelect R = true) (hf : Region.free .any R listed i = true)
    (hr : (Region.ready .any R listed).contains i = true) (hQ : QPd C d) (hd : dOk C.nt d = true) (ho : ∀ j y, lk j own0 = some y → lk j s.own = some y) (hG : Le G0 s.G)
    (hq : Quiet C s.sl own0 G0 op x.den) (h : SGo C (.h (Hold C own0 G0) R n (listed.setIfInBounds i true) :: K) ⟨putS d x s.sl, s.own, s.G, s.df⟩) :
    SGo C (.h (Hold C own0 G0) R (n + 1) listed :: K) s := by
  intro a w hS
  have hhold : Hold C own0 G0 w := ⟨fun k b o e => (hS.mem.own k b o (ho _ _ e)).1, fun b o e => hS.mem.has b o (hG b o e)⟩
  have := h _ _ (hS.put hd x hS.mem)
  have hy : yielded R a.tmps j = some want := yielded_ok hS hj ⟨_, hg, rfl⟩
  simp only [wpK] at this ⊢
  refine wpAnyHI_take (i := i) (v := x.den) hi hs hf hr ?_ (.inl ⟨by simp [Region.wanted, hy], fun w' hw' => hq a w' d t pos aft (some (j, want)) hS.sl hw'⟩) hhold this
  intro c a' w' hp
  exact wpK_panic c d x.den (fun a w => hQ c a w x.den) K a' w' hp
theorem h_takeUD (i : Nat) {own0 : List (Nat × Nat × OO)} {G0 : Hp} {n j g : Nat} {want u : Bool} {listed : Array Bool} {op : Op} (hi : R[i]? = some ⟨d, op, t, pos, aft, some (j, want)⟩) (hj : (R[j]?).bind (·.dst) = some g) (hg : lk g s.sl = some (.b u)) (hu : eqB u want = false) (hs : Region.noSelect R = true) (hf : Region.free .any R listed i = true)
    (hr : (Region.ready .any R listed).contains i = true) (hQ : QPd C d) (hd : dOk C.nt d = true) (ho : ∀ j y, lk j own0 = some y → lk j s.own = some y) (hG : Le G0 s.G)
    (h : SGo C (.h (Hold C own0 G0) R n (listed.setIfInBounds i true) :: K) ⟨putS d (.v undef) s.sl, s.own, s.G, s.df⟩) :
    SGo C (.h (Hold C own0 G0) R (n + 1) listed :: K) s := by
  intro a w hS
  have hhold : Hold C own0 G0 w := ⟨fun k b o e => (hS.mem.own k b o (ho _ _ e)).1, fun b o e => hS.mem.has b o (hG b o e)⟩
  have := h _ _ (hS.put hd (.v undef) hS.mem)
  have hy : yielded R a.tmps j = some u := yielded_ok hS hj ⟨_, hg, rfl⟩
  have hne : u ≠ want := fun e => by rw [e, eqB_self] at hu; cases hu
  simp only [wpK] at this ⊢
  refine wpAnyHI_take (i := i) (v := undef) hi hs hf hr ?_ (.inr ⟨by simp [Region.wanted, hy, hne], rfl⟩) hhold this
  intro c a' w' hp
  exact wpK_panic c d undef (fun a w => hQ c a w undef) K a' w' hp
end
end Go.Sx
namespace Go.Proofs.Ytpmmbjcgabnloaa
set_option linter.unusedSimpArgs false
set_option linter.unusedVariables false
open Go.Sx
set_option maxHeartbeats 8000000
set_option maxRecDepth 20000
def ofC (be bo : Nat) (e : Int) (ov : Value) : Lds := [eC be e, (bo, .c 31 [.v ov])]
def ofCap (be bo : Nat) : List Value := [.pointer (some ⟨be, 0, none⟩), .pointer (some ⟨bo, 0, none⟩)]
theorem ofClo_idle (be bo : Nat) (ov : Value) (G : Hp) : CloD Try.prog 34 (ofCap be bo) G (ofC be bo 0 ov) .returning (fun u' _ ow => settle u' = .returning ∧ ow = ofC be bo 0 ov) := by
  refine enterClo2 ty tyok Try.func34 rfl Try.ntmps34 (by omega) [.p 0 be 0, .p 1 bo 0] (by simp) (mh := 2) rfl (.inl ⟨rfl, rfl, rfl⟩) ?_
  intro C hP hQ hnt hty hmb hmh hro hG0 hmub; have hQp := qp_body hQ; refine st_ ?_
  simp only [enumO, ofC, eC]
  refine go_callW [0] (by rw [hnt]; rfl) (by rw [hP]; kernel_rfl) rfl rfl rfl (.inr (by rw [hmh]; decide)) (by rw [hP]; exact catch_nil be _ _) ?_
  rintro v G1 ow1 (hle1 : Le G G1) rfl
  simp only [setO]
  refine st_ ?_
  refine rn_ ?_; intros
  (refine x_split rfl rfl rfl (fun hc => absurd hc (by first | decide +kernel | (simp; first | done | fail))) (fun _ => ?_); refine st_ ?_; (refine ru_ ?_; intros))
  refine rn_ ?_; intros
  refine x_endW hQ hmb hmh hG0 hmub rfl rfl rfl rfl (by simp only [enumO]; exact (by repeat (first | exact plain_nil | refine plain_cons (fun _ h => h) ?_))) ?_
  intro _
  exact ⟨rfl, rfl⟩
theorem ofClo_catch (be bo : Nat) (ov : Value) (e0 e : Int) (he : e ≠ 0) (G : Hp) : CloD Try.prog 34 (ofCap be bo) G (ofC be bo e0 ov) (.panicking [pE (faultV e)]) (fun u' _ ow => settle u' = .returning ∧ ow = ofC be bo e (.slice none 0 0)) := by
  refine enterClo2 ty tyok Try.func34 rfl Try.ntmps34 (by omega) [.p 0 be 0, .p 1 bo 0] (by simp) (mh := 2) rfl (.inr ⟨rfl, rfl⟩) ?_
  intro C hP hQ hnt hty hmb hmh hro hG0 hmub; have hQp := qp_body hQ; refine st_ ?_
  simp only [enumO, ofC, eC]
  refine go_callW [0] (by rw [hnt]; rfl) (by rw [hP]; kernel_rfl) rfl rfl rfl (.inr (by rw [hmh]; decide)) (by rw [hP]; exact catch_f be _ _ _) ?_
  rintro v G1 ow1 (hle1 : Le G G1) rfl
  simp only [setO]
  refine st_ ?_
  refine rn_ ?_; intros
  (refine x_split rfl rfl rfl (fun _ => ?_) (fun hc => absurd hc (by simpa using he)); refine st_ ?_; (refine ru_ ?_; intros))
  refine rn_ ?_; intros
  refine x_endW hQ hmb hmh hG0 hmub rfl rfl rfl rfl (by simp only [enumO]; exact (by repeat (first | exact plain_nil | refine plain_cons (fun _ h => h) ?_))) ?_
  intro _
  exact ⟨rfl, rfl⟩
theorem ofRes {sl : List (Nat × SV)} {own : List (Nat × Nat × OO)} {be bo : Nat} {ov : Value} {e : Int} {T : TypeId → Option TI} (hT : T = ty) (h2 : lk 2 sl = some (.p 0 bo 0)) (h3 : lk 3 sl = some (.p 1 be 0))
    (o0 : lk 1 own = some (be, .c 32 [.v (.int .i64 e)])) (o1 : lk 0 own = some (bo, .c 31 [.v ov])) :
    resAll sl T own Try.f11.results.toList = some [.v ov, .v (.int .i64 e)] := by
  have e : Try.f11.results.toList = [.cell 2 31, .cell 3 32] := rfl
  subst hT
  rw [e]
  simp only [resAll, resOne, h2, h3, o0, o1, if_true]
  refine st_ ?_
  simp only [o0, o1, if_true]
  rfl
theorem ofRes2 (tmps : Array Value) (v : Value) (d : Nat) (h : d < 2 ∨ 3 < d) : results Try.f11 (tmps.setIfInBounds d v) = results Try.f11 tmps := by
  have e : Try.f11.results = #[.cell 2 31, .cell 3 32] := rfl
  simp only [results, e]
  have h2 : d ≠ 2 := by omega
  have h3 : d ≠ 3 := by omega
  simp [Array.getElem?_setIfInBounds, h2, h3]
theorem hOf_ok (l : List Mk) (sl : Value) (G : Hp) (hl : rMk.S G l sl) (hn : l.length ≤ 1000) : Pure Try.prog 11 [sl] G (ofRet (ofP l 0 [])) := by
  obtain ⟨adl, capl, rfl⟩ := Rp.S_slice hl
  refine enterDf ty tyok Try.func11 rfl Try.ntmps11 [.v (.slice adl l.length capl)] (by simp) ?_
  intro C hP hQ hnt hty hmb hmh hro; refine st_ ?_
  refine rn_ ?_; intros
  refine go_defer hro (by rw [hnt]; rfl) rfl rfl ?_
  refine rn_ ?_; intros
  rename_i bo be
  have hQD : ∀ d, d < 2 ∨ 3 < d → QPd C (some d) := fun d h => qpd_bodyD hQ fun tmps v => ofRes2 tmps v d h
  refine go_mkmap 40 .i64 (by rw [hnt]; rfl) rfl (by omega) ?_
  intro bm
  refine rn_ ?_; intros
  refine go_nilrow 41 40 11 rfl (by omega) ?_
  refine go_keep [2, 3, 4, 5, 14, 15, 16] [0, 1, 40, 41] ?_
  refine st_ ?_
  refine x_loop rfl (fun q st => ∃ (k : Nat) (G' : Hp) (last : Int) (out : List Op) (xs : List Value) (ado : Option Addr) (capo : Nat) (es : MEs) (cm : Nat), k ≤ l.length ∧ q = l.length - k ∧ Le G G' ∧ ofP l 0 [] = ofP (l.drop k) last out ∧ out.length ≤ k ∧ rO.L G' out xs ∧ Uq out ∧ mUq es ∧ (∀ th, mget th es = (opn out th).map fun j : Nat => .int .i64 j) ∧
    st = ⟨[(2, .p 0 bo 0), (3, .p 1 be 0), (4, .v (.map (some bm))), (5, .v (.int .i64 last)), (14, .v (.slice adl l.length capl)), (15, .v (.int .i64 l.length)), (16, .v (.int .i64 k))],
      [(0, bo, .c 31 [.v (.slice ado out.length capo)]), (1, be, .c 32 [.v (.int .i64 0)]), (40, bm, .o (mObj .i64 es cm)), (41, 0, .row (.slice ado out.length capo) 40 11 out.length xs)], G', [dfn 34 (ofCap be bo)]⟩) ⟨0, G, 0, [], [], none, 0, [], 0, by omega, rfl, Le.refl _, rfl, by simp, rfl, fun i j a b h => by simp at h, by simp [mUq], fun th => rfl, rfl⟩ ?_
  rintro q st ⟨k, G1, last, out, xs, ado, capo, es, cm, hk, hq, hle1, hof, hol, hL, hu, hmu, hmg, rfl⟩ ih
  refine rn_ ?_; intros
  refine x_if rfl rfl rfl rfl (fun hjl => ?_) (fun hjl => ?_)
  · have hlt : k < l.length := by simp at hjl; omega
    rw [ofP_step hlt] at hof
    obtain ⟨c1, o1, slv, rfl, hat, hrv, hbv, hst, hth⟩ := rMk_at hl hlt
    obtain ⟨asv, csv, rfl⟩ := VT.rep_slice hrv
    refine rn_ ?_; intros
    refine go_q (by rw [hnt]; rfl) (quiet_index (by rw [hty]; rfl) (by rw [hty]; rfl) rfl rfl rfl (by omega) (by omega)) ?_
    refine rn_ ?_; intros
    refine go_q (v := .agg #[.int .i64 l[k].st, .int .i64 l[k].th, .int .i64 l[k].v.k, .int .i64 l[k].v.n, .slice asv l[k].v.l.length csv]) (by rw [hnt]; rfl) ((quiet_load (by rw [hty]; rfl) rfl (fun q => by cases q) (by simpa only [Int.toNat_natCast] using hat.mono hle1) rfl).cast (by simp only [ldV]; rfl)) ?_
    refine rn_ ?_; intros
    rename_i b7
    have hbad : (l[k].th < 0 ∨ l[k].st < last) → ofP l 0 [] = none := fun h => by
      rw [hof, ofStep, if_pos h]
    by_cases ht0 : l[k].th < 0
    · (refine go_gsplit rfl rfl (fun hc => absurd hc (by simp; omega)) (fun _ => ?_); refine st_ ?_; (refine rn_ ?_; intros))
      repeat (refine go_gundef rfl (by rw [hnt]; rfl) rfl ?_; (refine st_ ?_; (refine rn_ ?_; intros)))
      refine rn_ ?_; intros
      refine go_callWP [] (ow := []) (by rw [hnt]; rfl) rfl (by rw [hP]; kernel_rfl) rfl rfl rfl (.inl (by intro k hk; cases hk)) (hP ▸ need_ok false 290 G1) ?_ ?_
      · rintro v G' ow' _ ⟨h, _⟩
        cases h
      rintro v ⟨rfl, _⟩
      refine x_panD hQ hmb rfl (by rw [hP]; kernel_rfl) (ks := [1, 0]) (ow := ofC be bo 0 _) rfl rfl (.inl (by intro k hk; omega)) (hP ▸ ofClo_catch be bo _ 0 290 (by omega) _) ?_
      rintro u' G' ow' _ ⟨hs', rfl⟩
      refine ⟨hs', _, ofRes hty rfl rfl rfl rfl, ?_⟩
      rw [hbad (.inl ht0)]
      rfl
    (refine go_gsplit rfl rfl (fun _ => ?_) (fun hc => absurd hc (by simp; omega)); refine st_ ?_; (refine rn_ ?_; intros))
    by_cases hs0 : l[k].st < last
    · refine go_callWP [] (ow := []) (by rw [hnt]; rfl) rfl (by rw [hP]; kernel_rfl) rfl rfl rfl (.inl (by intro k hk; cases hk)) (hP ▸ need_ok _ 290 G1) ?_ ?_
      · rintro v G' ow' _ ⟨h, _⟩
        rw [decide_eq_true_eq] at h; omega
      rintro v ⟨rfl, _⟩
      refine x_panD hQ hmb rfl (by rw [hP]; kernel_rfl) (ks := [1, 0]) (ow := ofC be bo 0 _) rfl rfl (.inl (by intro k hk; omega)) (hP ▸ ofClo_catch be bo _ 0 290 (by omega) _) ?_
      rintro u' G' ow' _ ⟨hs', rfl⟩
      refine ⟨hs', _, ofRes hty rfl rfl rfl rfl, ?_⟩
      rw [hbad (.inr hs0)]
      rfl
    refine go_callWP [] (ow := []) (by rw [hnt]; rfl) rfl (by rw [hP]; kernel_rfl) rfl rfl rfl (.inl (by intro k hk; cases hk)) (hP ▸ need_ok _ 290 G1) ?_ ?_
    rotate_left
    · rintro v ⟨_, h⟩
      rw [decide_eq_false_iff_not] at h; omega
    rintro v G2 ow' (hle2 : Le G1 G2) ⟨_, rfl⟩
    simp only [setO]
    refine go_keep [2, 3, 4, 5, 7, 14, 15, 16] [0, 1, 40, 41, 42] ?_
    refine st_ ?_
    clear v
    refine rn_ ?_; intros
    have hsn : ofStep last out l[k] = match sdP l[k].v with
        | none => some out
        | some (n, y) => if n % 2 = 1 then (match opn out l[k].th with
            | none => none
            | some j => match out[j]? with
              | none => none
              | some o => if o.kd = n / 2 then some (out.set j (retOp o y l[k].st)) else none) else (match opn out l[k].th with
            | none => some (out ++ [dntOp l[k] n y])
            | some _ => none) := by rw [ofStep, if_neg (by omega)]; try rfl
    have hnx : ∀ out', ofStep last out l[k] = some out' → ofP l 0 [] = ofP (l.drop (k + 1)) l[k].st out' := fun out' h => by rw [hof, h]
    have hbd : ofStep last out l[k] = none → ofP l 0 [] = none := fun h => by rw [hof, h]
    have hle02 := hle1.trans hle2
    refine go_call (by rw [hnt]; rfl) (by rw [hP]; kernel_rfl) rfl (hP ▸ denoted_ok l[k] _ G2 (VT.rep_mono hle02 hrv) hbv hst hth) ?_
    rintro v G3 (hle3 : Le G2 G3) hv
    rw [dnRet] at hv
    have hle03 := hle02.trans hle3
    have hL3 := Rp.L_mono (hle2.trans hle3) hL
    rcases hsd : sdP l[k].v with _ | ⟨n, y⟩
    · rw [hsd] at hv hsn
      simp only at hsn hv
      subst hv
      refine rn_ ?_; intros
      (refine x_split rfl rfl rfl (fun _ => ?_) (fun hc => absurd hc (by first | decide +kernel | (simp; first | done | fail))); refine st_ ?_; (refine ru_ ?_; intros))
      refine rn_ ?_; intros
      rw [wr (n := (k : Int) + 1) (by omega) (by omega)]
      refine go_keep [2, 3, 4, 5, 14, 15, 16] [0, 1, 40, 41] ?_
      refine st_ ?_
      exact ih (l.length - (k + 1)) _ (by omega) ⟨k + 1, G3, l[k].st, out, _, ado, capo, es, cm, by omega, rfl, hle03, hnx out hsn, by omega, hL3, hu, hmu, hmg, rfl⟩
    rw [hsd] at hv hsn
    simp only at hsn hv
    obtain ⟨sa, sr, rfl, hrd⟩ := hv
    obtain ⟨asa, csa, rfl⟩ := VT.rep_slice hrd.a
    obtain ⟨asr, csr, rfl⟩ := VT.rep_slice hrd.r
    have hmk : mget l[k].th es = (opn out l[k].th).map fun j : Nat => .int .i64 j := hmg _
    by_cases ho : n % 2 = 1
    rotate_left
    · have hdt : dntOp l[k] n y = ⟨l[k].th, n / 2, y, noneV, l[k].st, 0, false⟩ := by rw [dntOp, if_neg ho]
      have hpar : (n % 2 == 1) = false := by simpa using ho
      rw [if_neg ho] at hsn
      simp only [hdt, hpar] at hrd hsn ⊢
      simp only [opL, noneV, kEq, nEq, lEq, List.length_nil]
      refine rn_ ?_; intros
      (refine x_split rfl rfl rfl (fun hc => absurd hc (by first | decide +kernel | (simp; first | done | fail))) (fun _ => ?_); refine st_ ?_; (refine ru_ ?_; intros))
      refine rn_ ?_; intros
      rename_i b8
      rcases hop : opn out l[k].th with _ | j
      · rw [hop] at hsn hmk
        simp only [Option.map_none] at hsn hmk
        refine go_q (v := .tuple #[.int .i64 0, .bool false]) (by rw [hnt]; rfl) ((quiet_lookup 40 (ok := true) (z := .int .i64 0) (by rw [hty]; rfl) (by rw [hty]; rfl) (by rw [hP]; exact ⟨_, (by kernel_rfl : Try.prog.info? 3 = some Try.t3), rfl⟩) rfl rfl rfl).cast (by rw [hmk]; rfl)) ?_
        refine rn_ ?_; intros
        (refine x_split rfl rfl rfl (fun _ => ?_) (fun hc => absurd hc (by first | decide +kernel | (simp; first | done | fail))); refine st_ ?_; (refine ru_ ?_; intros))
        refine rn_ ?_; intros
        refine go_callWP [] (ow := []) (by rw [hnt]; rfl) rfl (by rw [hP]; kernel_rfl) rfl rfl rfl (.inl (by intro k hk; cases hk)) (hP ▸ need_ok true 290 G3) ?_ ?_
        rotate_left
        · rintro v ⟨_, h⟩
          cases h
        rintro v G4 ow' (hle4 : Le G3 G4) ⟨_, rfl⟩
        simp only [setO]
        refine go_keep [2, 3, 4, 5, 8, 14, 15, 16] [0, 1, 40, 41, 43] ?_
        refine st_ ?_
        clear v
        refine rn_ ?_; intros
        refine go_mupd 40 (.inl rfl) (by rw [hnt]; rfl) (by rw [hty]; rfl) (by rw [hty]; rfl) rfl rfl rfl rfl ?_
        refine st_ ?_
        refine rn_ ?_; intros
        refine go_append 41 (by rw [hnt]; rfl) (by rw [hty]; rfl) (by rw [hty]; rfl) (by decide) rfl rfl rfl (by omega) rfl (src_own 11 rfl rfl) rfl (by simp [dens, SV.den, Value.oneCell']) (by omega) (by simp only []; omega) ?_
        intro v'
        refine go_rowS 41 rfl ?_
        rintro ad4 cap4 rfl
        refine rn_ ?_; intros
        have hle04 := hle03.trans hle4
        have hL4 := Rp.L_append (Rp.L_mono hle4 hL3) (Rp.L_single ⟨_, _, rfl, hrd.mono hle4⟩)
        have hxo : (⟨l[k].th, n / 2, y, noneV, l[k].st, 0, false⟩ : Op).th = l[k].th := rfl
        have hu4 := uq_add (x := ⟨l[k].th, n / 2, y, noneV, l[k].st, 0, false⟩) hu hop
        rw [wr (n := (k : Int) + 1) (by omega) (by omega)]
        refine go_keep [2, 3, 4, 5, 14, 15, 16] [0, 1, 40, 41] ?_
        refine st_ ?_
        refine ih (l.length - (k + 1)) _ (by omega) ⟨k + 1, G4, l[k].st, out ++ [⟨l[k].th, n / 2, y, noneV, l[k].st, 0, false⟩], _, ad4, cap4, mput l[k].th (.int .i64 out.length) cm es, mclk l[k].th cm es, by omega, rfl, hle04, hnx _ hsn, by simp; omega, hL4, hu4, mUq_put hmu, fun th => ?_, ?_⟩
        · rw [mget_put, opn_add hu hop rfl, hmg]
          simp only
          split <;> rfl
        · rw [List.length_append]
          rfl
      · rw [hop] at hsn hmk
        simp only [Option.map_some] at hsn hmk
        refine go_q (v := .tuple #[.int .i64 (j : Nat), .bool true]) (by rw [hnt]; rfl) ((quiet_lookup 40 (ok := true) (z := .int .i64 0) (by rw [hty]; rfl) (by rw [hty]; rfl) (by rw [hP]; exact ⟨_, (by kernel_rfl : Try.prog.info? 3 = some Try.t3), rfl⟩) rfl rfl rfl).cast (by rw [hmk]; rfl)) ?_
        refine rn_ ?_; intros
        (refine x_split rfl rfl rfl (fun _ => ?_) (fun hc => absurd hc (by first | decide +kernel | (simp; first | done | fail))); refine st_ ?_; (refine ru_ ?_; intros))
        refine rn_ ?_; intros
        refine go_callWP [] (ow := []) (by rw [hnt]; rfl) rfl (by rw [hP]; kernel_rfl) rfl rfl rfl (.inl (by intro k hk; cases hk)) (hP ▸ need_ok false 290 G3) ?_ ?_
        · rintro v G' ow' _ ⟨h, _⟩
          cases h
        rintro v ⟨rfl, _⟩
        refine x_panD hQ hmb rfl (by rw [hP]; kernel_rfl) (ks := [1, 0]) (ow := ofC be bo 0 _) rfl rfl (.inl (by intro k hk; omega)) (hP ▸ ofClo_catch be bo _ 0 290 (by omega) _) ?_
        rintro u' G' ow' _ ⟨hs', rfl⟩
        refine ⟨hs', _, ofRes hty rfl rfl rfl rfl, ?_⟩
        rw [hbd hsn]
        rfl
    have hdt : dntOp l[k] n y = ⟨l[k].th, n / 2, noneV, y, 0, l[k].st, true⟩ := by rw [dntOp, if_pos ho]
    have hpar : (n % 2 == 1) = true := by simpa using ho
    rw [if_pos ho] at hsn
    simp only [hdt, hpar] at hrd hsn ⊢
    simp only [opL, noneV, kEq, nEq, lEq, List.length_nil]
    refine rn_ ?_; intros
    rename_i b8
    (refine x_split rfl rfl rfl (fun hc => absurd hc (by first | decide +kernel | (simp; first | done | fail))) (fun _ => ?_); refine st_ ?_; (refine ru_ ?_; intros))
    refine rn_ ?_; intros
    rcases hop : opn out l[k].th with _ | j
    · rw [hop] at hsn hmk
      simp only [Option.map_none] at hsn hmk
      refine go_q (v := .tuple #[.int .i64 0, .bool false]) (by rw [hnt]; rfl) ((quiet_lookup 40 (ok := true) (z := .int .i64 0) (by rw [hty]; rfl) (by rw [hty]; rfl) (by rw [hP]; exact ⟨_, (by kernel_rfl : Try.prog.info? 3 = some Try.t3), rfl⟩) rfl rfl rfl).cast (by rw [hmk]; rfl)) ?_
      refine rn_ ?_; intros
      (refine x_split rfl rfl rfl (fun hc => absurd hc (by first | decide +kernel | (simp; first | done | fail))) (fun _ => ?_); refine st_ ?_; (refine ru_ ?_; intros))
      refine rn_ ?_; intros
      refine go_keep [2, 3, 4, 5, 8, 10, 11, 14, 15, 16] [0, 1, 40, 41, 43] ?_
      refine st_ ?_
      refine rn_ ?_; intros
      refine x_held [ ] rfl (by rw [hP]; kernel_rfl) rfl rfl rfl ?_; refine st_ ?_
      refine h_takeD 0 rfl (by kernel_rfl) (by kernel_rfl) (by kernel_rfl) (hQD _ (by decide)) (by rw [hnt]; rfl) (allIn (by repeat (first | exact trivial | refine ⟨rfl, ?_⟩))) (by first | exact Le.refl _ | assumption) (quiet_op (by rw [hty]; first | rfl | (refine st_ ?_; rfl))) ?_; refine st_ ?_
      refine h_takeD 1 rfl (by kernel_rfl) (by kernel_rfl) (by kernel_rfl) (hQD _ (by decide)) (by rw [hnt]; rfl) (allIn (by repeat (first | exact trivial | refine ⟨rfl, ?_⟩))) (by first | exact Le.refl _ | assumption) (quiet_op (by rw [hty]; first | rfl | (refine st_ ?_; rfl))) ?_; refine st_ ?_
      refine go_slot 65 (.b false) rfl rfl ?_
      refine st_ ?_
      refine h_takeUD 2 rfl rfl rfl rfl (by kernel_rfl) (by kernel_rfl) (by kernel_rfl) (hQD _ (by decide)) (by rw [hnt]; rfl) (allIn (by repeat (first | exact trivial | refine ⟨rfl, ?_⟩))) (by first | exact Le.refl _ | assumption) ?_; refine st_ ?_
      refine h_takeUD 3 rfl rfl rfl rfl (by kernel_rfl) (by kernel_rfl) (by kernel_rfl) (hQD _ (by decide)) (by rw [hnt]; rfl) (allIn (by repeat (first | exact trivial | refine ⟨rfl, ?_⟩))) (by first | exact Le.refl _ | assumption) ?_; refine st_ ?_
      refine h_takeUD 4 rfl rfl rfl rfl (by kernel_rfl) (by kernel_rfl) (by kernel_rfl) (hQD _ (by decide)) (by rw [hnt]; rfl) (allIn (by repeat (first | exact trivial | refine ⟨rfl, ?_⟩))) (by first | exact Le.refl _ | assumption) ?_; refine st_ ?_
      refine h_takeUD 5 rfl rfl rfl rfl (by kernel_rfl) (by kernel_rfl) (by kernel_rfl) (hQD _ (by decide)) (by rw [hnt]; rfl) (allIn (by repeat (first | exact trivial | refine ⟨rfl, ?_⟩))) (by first | exact Le.refl _ | assumption) ?_; refine st_ ?_
      refine h_takeUD 6 rfl rfl rfl rfl (by kernel_rfl) (by kernel_rfl) (by kernel_rfl) (hQD _ (by decide)) (by rw [hnt]; rfl) (allIn (by repeat (first | exact trivial | refine ⟨rfl, ?_⟩))) (by first | exact Le.refl _ | assumption) ?_; refine st_ ?_
      refine h_takeUD 7 rfl rfl rfl rfl (by kernel_rfl) (by kernel_rfl) (by kernel_rfl) (hQD _ (by decide)) (by rw [hnt]; rfl) (allIn (by repeat (first | exact trivial | refine ⟨rfl, ?_⟩))) (by first | exact Le.refl _ | assumption) ?_; refine st_ ?_
      refine h_takeUD 8 rfl rfl rfl rfl (by kernel_rfl) (by kernel_rfl) (by kernel_rfl) (hQD _ (by decide)) (by rw [hnt]; rfl) (allIn (by repeat (first | exact trivial | refine ⟨rfl, ?_⟩))) (by first | exact Le.refl _ | assumption) ?_; refine st_ ?_
      refine h_takeUD 9 rfl rfl rfl rfl (by kernel_rfl) (by kernel_rfl) (by kernel_rfl) (hQD _ (by decide)) (by rw [hnt]; rfl) (allIn (by repeat (first | exact trivial | refine ⟨rfl, ?_⟩))) (by first | exact Le.refl _ | assumption) ?_; refine st_ ?_
      refine h_takeUD 10 rfl rfl rfl rfl (by kernel_rfl) (by kernel_rfl) (by kernel_rfl) (hQD _ (by decide)) (by rw [hnt]; rfl) (allIn (by repeat (first | exact trivial | refine ⟨rfl, ?_⟩))) (by first | exact Le.refl _ | assumption) ?_; refine st_ ?_
      refine h_takeD 11 rfl (by kernel_rfl) (by kernel_rfl) (by kernel_rfl) (hQD _ (by decide)) (by rw [hnt]; rfl) (allIn (by repeat (first | exact trivial | refine ⟨rfl, ?_⟩))) (by first | exact Le.refl _ | assumption) (quiet_op (by rw [hty]; first | rfl | (refine st_ ?_; rfl))) ?_; refine st_ ?_
      refine h_one 12 rfl (by kernel_rfl) ?_
      refine go_callWP [] (ow := []) (by rw [hnt]; rfl) rfl (by rw [hP]; kernel_rfl) rfl rfl rfl (.inl (by intro k hk; cases hk)) (hP ▸ need_ok false 290 G3) ?_ ?_
      · rintro v G' ow' _ ⟨h, _⟩
        cases h
      rintro v ⟨rfl, _⟩
      refine x_panD hQ hmb rfl (by rw [hP]; kernel_rfl) (ks := [1, 0]) (ow := ofC be bo 0 _) rfl rfl (.inl (by intro k hk; omega)) (hP ▸ ofClo_catch be bo _ 0 290 (by omega) _) ?_
      rintro u' G' ow' _ ⟨hs', rfl⟩
      refine ⟨hs', _, ofRes hty rfl rfl rfl rfl, ?_⟩
      rw [hbd hsn]
      rfl
    · rw [hop] at hsn hmk
      simp only [Option.map_some] at hsn hmk
      refine go_q (v := .tuple #[.int .i64 (j : Nat), .bool true]) (by rw [hnt]; rfl) ((quiet_lookup 40 (ok := true) (z := .int .i64 0) (by rw [hty]; rfl) (by rw [hty]; rfl) (by rw [hP]; exact ⟨_, (by kernel_rfl : Try.prog.info? 3 = some Try.t3), rfl⟩) rfl rfl rfl).cast (by rw [hmk]; rfl)) ?_
      refine rn_ ?_; intros
      (refine x_split rfl rfl rfl (fun hc => absurd hc (by first | decide +kernel | (simp; first | done | fail))) (fun _ => ?_); refine st_ ?_; (refine ru_ ?_; intros))
      refine rn_ ?_; intros
      obtain ⟨hjl, hjt, hjd⟩ := opn_some hop
      rw [List.getElem?_eq_getElem hjl] at hsn
      simp only at hsn
      refine go_rowE2 41 rfl ?_
      rintro adr capr hcc hcr hpos
      cases hcc
      obtain ⟨c, hc1, sa0, sr0, rfl, hor⟩ := Rp.L_get hL3 hjl
      have h11 : rO.size = 11 := rfl
      rw [h11] at hc1
      have hxl := Rp.L_len hL3
      rw [h11] at hxl
      obtain ⟨g, rfl⟩ : ∃ g, ado = some ⟨g, 0, none⟩ := by
        rcases hpos with ⟨h0, _⟩ | h0
        · rw [h0] at hxl; simp at hxl; omega
        · exact h0
      have hd1 := cut1 (i := 1) hc1 rfl (by omega)
      refine go_keep [2, 3, 4, 5, 8, 10, 11, 14, 15, 16] [0, 1, 40, 41, 43] ?_
      refine st_ ?_
      refine rn_ ?_; intros
      refine x_held [(0, bo, .c 31 [.v (.slice (some ⟨g, 0, none⟩) out.length capo)]), (41, 0, .row (.slice (some ⟨g, 0, none⟩) out.length capo) 40 11 out.length xs), (43, b8, .c 81 [.v (.int .i64 l[k].th), .v (.int .i64 (n / 2)), .v (.int .i64 0), .v (.int .i64 0), .v (.slice asa 0 csa), .v (.int .i64 y.k), .v (.int .i64 y.n), .v (.slice asr y.l.length csr), .v (.int .i64 0), .v (.int .i64 l[k].st), .v (.bool true), .v (.bool true)])] rfl (by rw [hP]; kernel_rfl) rfl rfl rfl ?_; refine st_ ?_
      refine h_takeD 0 rfl (by kernel_rfl) (by kernel_rfl) (by kernel_rfl) (hQD _ (by decide)) (by rw [hnt]; rfl) (allIn (by repeat (first | exact trivial | refine ⟨rfl, ?_⟩))) (by first | exact Le.refl _ | assumption) (quiet_op (by rw [hty]; first | rfl | (refine st_ ?_; rfl))) ?_; refine st_ ?_
      refine h_takeD 1 rfl (by kernel_rfl) (by kernel_rfl) (by kernel_rfl) (hQD _ (by decide)) (by rw [hnt]; rfl) (allIn (by repeat (first | exact trivial | refine ⟨rfl, ?_⟩))) (by first | exact Le.refl _ | assumption) (quiet_op (by rw [hty]; first | rfl | (refine st_ ?_; rfl))) ?_; refine st_ ?_
      refine go_slot 65 (.b true) rfl rfl ?_
      refine st_ ?_
      refine h_takeGD 2 rfl rfl rfl (by kernel_rfl) (by kernel_rfl) (by kernel_rfl) (hQD _ (by decide)) (by rw [hnt]; rfl) (allIn (by repeat (first | exact trivial | refine ⟨rfl, ?_⟩))) (by first | exact Le.refl _ | assumption) (quiet_op (by rw [hty]; first | rfl | (refine st_ ?_; rfl))) ?_; refine st_ ?_
      refine h_takeGD 3 rfl rfl rfl (by kernel_rfl) (by kernel_rfl) (by kernel_rfl) (hQD _ (by decide)) (by rw [hnt]; rfl) (allIn (by repeat (first | exact trivial | refine ⟨rfl, ?_⟩))) (by first | exact Le.refl _ | assumption) (quiet_op (by rw [hty]; first | rfl | (refine st_ ?_; rfl))) ?_; refine st_ ?_
      refine h_takeGD 4 rfl rfl rfl (by kernel_rfl) (by kernel_rfl) (by kernel_rfl) (hQD _ (by decide)) (by rw [hnt]; rfl) (allIn (by repeat (first | exact trivial | refine ⟨rfl, ?_⟩))) (by first | exact Le.refl _ | assumption) (x := .v (.pointer (some ⟨g, j * 11, none⟩))) ((quiet_index (by rw [hty]; rfl) (by rw [hty]; rfl) rfl rfl rfl (by omega) (by omega)).cast (by simp [SV.den])) ?_
      refine st_ ?_
      refine h_takeGD 5 rfl rfl rfl (by kernel_rfl) (by kernel_rfl) (by kernel_rfl) (hQD _ (by decide)) (by rw [hnt]; rfl) (allIn (by repeat (first | exact trivial | refine ⟨rfl, ?_⟩))) (by first | exact Le.refl _ | assumption) (quiet_op (by rw [hty]; first | rfl | (refine st_ ?_; rfl))) ?_; refine st_ ?_
      refine h_takeGD 6 rfl rfl rfl (by kernel_rfl) (by kernel_rfl) (by kernel_rfl) (hQD _ (by decide)) (by rw [hnt]; rfl) (allIn (by repeat (first | exact trivial | refine ⟨rfl, ?_⟩))) (by first | exact Le.refl _ | assumption) (x := .v (.int .i64 out[j].kd)) ((quiet_loadR (k := 41) (by rw [hty]; rfl) rfl (by simp [TK.agg]) rfl (by simp; omega)).cast (by simp only [ldV, SV.den]; rw [hd1]; rfl)) ?_
      refine st_ ?_
      refine h_takeGD 7 rfl rfl rfl (by kernel_rfl) (by kernel_rfl) (by kernel_rfl) (hQD _ (by decide)) (by rw [hnt]; rfl) (allIn (by repeat (first | exact trivial | refine ⟨rfl, ?_⟩))) (by first | exact Le.refl _ | assumption) (quiet_op (by rw [hty]; first | rfl | (refine st_ ?_; rfl))) ?_; refine st_ ?_
      refine h_takeGD 8 rfl rfl rfl (by kernel_rfl) (by kernel_rfl) (by kernel_rfl) (hQD _ (by decide)) (by rw [hnt]; rfl) (allIn (by repeat (first | exact trivial | refine ⟨rfl, ?_⟩))) (by first | exact Le.refl _ | assumption) (quiet_op (by rw [hty]; first | rfl | (refine st_ ?_; rfl))) ?_; refine st_ ?_
      refine h_takeGD 9 rfl rfl rfl (by kernel_rfl) (by kernel_rfl) (by kernel_rfl) (hQD _ (by decide)) (by rw [hnt]; rfl) (allIn (by repeat (first | exact trivial | refine ⟨rfl, ?_⟩))) (by first | exact Le.refl _ | assumption) (quiet_op (by rw [hty]; first | rfl | (refine st_ ?_; rfl))) ?_; refine st_ ?_
      refine h_takeGD 10 rfl rfl rfl (by kernel_rfl) (by kernel_rfl) (by kernel_rfl) (hQD _ (by decide)) (by rw [hnt]; rfl) (allIn (by repeat (first | exact trivial | refine ⟨rfl, ?_⟩))) (by first | exact Le.refl _ | assumption) (quiet_op (by rw [hty]; first | rfl | (refine st_ ?_; rfl))) ?_; refine st_ ?_
      refine h_takeD 11 rfl (by kernel_rfl) (by kernel_rfl) (by kernel_rfl) (hQD _ (by decide)) (by rw [hnt]; rfl) (allIn (by repeat (first | exact trivial | refine ⟨rfl, ?_⟩))) (by first | exact Le.refl _ | assumption) (quiet_op (by rw [hty]; first | rfl | (refine st_ ?_; rfl))) ?_; refine st_ ?_
      refine h_one 12 rfl (by kernel_rfl) ?_
      by_cases hkd : out[j].kd = n / 2
      rotate_left
      · rw [if_neg hkd] at hsn
        refine go_callWP [] (ow := []) (by rw [hnt]; rfl) rfl (by rw [hP]; kernel_rfl) rfl rfl rfl (.inl (by intro k hk; cases hk)) (hP ▸ need_ok _ 290 G3) ?_ ?_
        · rintro v G' ow' _ ⟨h, _⟩
          exact absurd (by simpa using h) hkd
        rintro v ⟨rfl, _⟩
        refine x_panD hQ hmb rfl (by rw [hP]; kernel_rfl) (ks := [1, 0]) (ow := ofC be bo 0 _) rfl rfl (.inl (by intro k hk; omega)) (hP ▸ ofClo_catch be bo _ 0 290 (by omega) _) ?_
        rintro u' G' ow' _ ⟨hs', rfl⟩
        refine ⟨hs', _, ofRes hty rfl rfl rfl rfl, ?_⟩
        rw [hbd hsn]
        rfl
      rw [if_pos hkd] at hsn
      refine go_callWP [] (ow := []) (by rw [hnt]; rfl) rfl (by rw [hP]; kernel_rfl) rfl rfl rfl (.inl (by intro k hk; cases hk)) (hP ▸ need_ok _ 290 G3) ?_ ?_
      rotate_left
      · rintro v ⟨_, h⟩
        exact absurd hkd (by simpa using h)
      rintro v G4 ow' (hle4 : Le G3 G4) ⟨_, rfl⟩
      simp only [setO]
      refine go_keep [2, 3, 4, 5, 8, 10, 14, 15, 16] [0, 1, 40, 41, 43] ?_
      refine st_ ?_
      clear v
      refine rn_ ?_; intros
      refine h_hs (allIn (by repeat (first | exact trivial | refine ⟨rfl, ?_⟩))) (by first | exact Le.refl _ | assumption) ?_
      refine h_end (by kernel_rfl) ?_
      refine rn_ ?_; intros
      have hL4 := Rp.L_mono hle4 hL3
      have hrd4 := hrd.mono hle4
      have hor4 := hor.mono hle4
      refine x_held [(0, bo, .c 31 [.v (.slice (some ⟨g, 0, none⟩) out.length capo)]), (43, b8, .c 81 [.v (.int .i64 l[k].th), .v (.int .i64 (n / 2)), .v (.int .i64 0), .v (.int .i64 0), .v (.slice asa 0 csa), .v (.int .i64 y.k), .v (.int .i64 y.n), .v (.slice asr y.l.length csr), .v (.int .i64 0), .v (.int .i64 l[k].st), .v (.bool true), .v (.bool true)])] rfl (by rw [hP]; kernel_rfl) rfl rfl rfl ?_; refine st_ ?_
      refine h_takeD 0 rfl (by kernel_rfl) (by kernel_rfl) (by kernel_rfl) (hQD _ (by decide)) (by rw [hnt]; rfl) (allIn (by repeat (first | exact trivial | refine ⟨rfl, ?_⟩))) (by first | exact Le.refl _ | assumption) (quiet_op (by rw [hty]; first | rfl | (refine st_ ?_; rfl))) ?_; refine st_ ?_
      refine h_takeD 1 rfl (by kernel_rfl) (by kernel_rfl) (by kernel_rfl) (hQD _ (by decide)) (by rw [hnt]; rfl) (allIn (by repeat (first | exact trivial | refine ⟨rfl, ?_⟩))) (by first | exact Le.refl _ | assumption) (quiet_op (by rw [hty]; first | rfl | (refine st_ ?_; rfl))) ?_; refine st_ ?_
      refine h_takeD 2 rfl (by kernel_rfl) (by kernel_rfl) (by kernel_rfl) (hQD _ (by decide)) (by rw [hnt]; rfl) (allIn (by repeat (first | exact trivial | refine ⟨rfl, ?_⟩))) (by first | exact Le.refl _ | assumption) (quiet_op (by rw [hty]; first | rfl | (refine st_ ?_; rfl))) ?_; refine st_ ?_
      refine h_takeD 3 rfl (by kernel_rfl) (by kernel_rfl) (by kernel_rfl) (hQD _ (by decide)) (by rw [hnt]; rfl) (allIn (by repeat (first | exact trivial | refine ⟨rfl, ?_⟩))) (by first | exact Le.refl _ | assumption) (quiet_op (by rw [hty]; first | rfl | (refine st_ ?_; rfl))) ?_; refine st_ ?_
      refine h_takeD 4 rfl (by kernel_rfl) (by kernel_rfl) (by kernel_rfl) (hQD _ (by decide)) (by rw [hnt]; rfl) (allIn (by repeat (first | exact trivial | refine ⟨rfl, ?_⟩))) (by first | exact Le.refl _ | assumption) (quiet_op (by rw [hty]; first | rfl | (refine st_ ?_; rfl))) ?_; refine st_ ?_
      refine h_takeD 5 rfl (by kernel_rfl) (by kernel_rfl) (by kernel_rfl) (hQD _ (by decide)) (by rw [hnt]; rfl) (allIn (by repeat (first | exact trivial | refine ⟨rfl, ?_⟩))) (by first | exact Le.refl _ | assumption) (quiet_op (by rw [hty]; first | rfl | (refine st_ ?_; rfl))) ?_; refine st_ ?_
      refine h_takeD 6 rfl (by kernel_rfl) (by kernel_rfl) (by kernel_rfl) (hQD _ (by decide)) (by rw [hnt]; rfl) (allIn (by repeat (first | exact trivial | refine ⟨rfl, ?_⟩))) (by first | exact Le.refl _ | assumption) (quiet_op (by rw [hty]; first | rfl | (refine st_ ?_; rfl))) ?_; refine st_ ?_
      refine h_takeD 7 rfl (by kernel_rfl) (by kernel_rfl) (by kernel_rfl) (hQD _ (by decide)) (by rw [hnt]; rfl) (allIn (by repeat (first | exact trivial | refine ⟨rfl, ?_⟩))) (by first | exact Le.refl _ | assumption) (quiet_op (by rw [hty]; first | rfl | (refine st_ ?_; rfl))) ?_; refine st_ ?_
      refine h_takeD 8 rfl (by kernel_rfl) (by kernel_rfl) (by kernel_rfl) (hQD _ (by decide)) (by rw [hnt]; rfl) (allIn (by repeat (first | exact trivial | refine ⟨rfl, ?_⟩))) (by first | exact Le.refl _ | assumption) (quiet_op (by rw [hty]; first | rfl | (refine st_ ?_; rfl))) ?_; refine st_ ?_
      refine h_takeD 9 rfl (by kernel_rfl) (by kernel_rfl) (by kernel_rfl) (hQD _ (by decide)) (by rw [hnt]; rfl) (allIn (by repeat (first | exact trivial | refine ⟨rfl, ?_⟩))) (by first | exact Le.refl _ | assumption) (quiet_op (by rw [hty]; first | rfl | (refine st_ ?_; rfl))) ?_; refine st_ ?_
      refine h_takeD 10 rfl (by kernel_rfl) (by kernel_rfl) (by kernel_rfl) (hQD _ (by decide)) (by rw [hnt]; rfl) (allIn (by repeat (first | exact trivial | refine ⟨rfl, ?_⟩))) (by first | exact Le.refl _ | assumption) (quiet_op (by rw [hty]; first | rfl | (refine st_ ?_; rfl))) ?_; refine st_ ?_
      refine h_takeD 11 rfl (by kernel_rfl) (by kernel_rfl) (by kernel_rfl) (hQD _ (by decide)) (by rw [hnt]; rfl) (allIn (by repeat (first | exact trivial | refine ⟨rfl, ?_⟩))) (by first | exact Le.refl _ | assumption) (quiet_op (by rw [hty]; first | rfl | (refine st_ ?_; rfl))) ?_; refine st_ ?_
      refine h_takeD 12 rfl (by kernel_rfl) (by kernel_rfl) (by kernel_rfl) (hQD _ (by decide)) (by rw [hnt]; rfl) (allIn (by repeat (first | exact trivial | refine ⟨rfl, ?_⟩))) (by first | exact Le.refl _ | assumption) (x := .v (.pointer (some ⟨g, j * 11, none⟩))) ((quiet_index (by rw [hty]; rfl) (by rw [hty]; rfl) rfl rfl rfl (by omega) (by omega)).cast (by simp [SV.den])) ?_
      refine st_ ?_
      refine h_takeD 13 rfl (by kernel_rfl) (by kernel_rfl) (by kernel_rfl) (hQD _ (by decide)) (by rw [hnt]; rfl) (allIn (by repeat (first | exact trivial | refine ⟨rfl, ?_⟩))) (by first | exact Le.refl _ | assumption) (quiet_op (by rw [hty]; first | rfl | (refine st_ ?_; rfl))) ?_; refine st_ ?_
      simp only [isI64] at hst hth
      have hrt : (retOp out[j] y l[k].st).rep G4 sa0 (.slice asr y.l.length csr) :=
        ⟨⟨hor.ok.th, hor.ok.kd, hor.ok.fr, by simp only [retOp, isI64]; omega, hor.ok.ba, hrd.ok.br⟩, hor4.a, hrd4.r⟩
      have hLs := Rp.L_set (r := rO) (c := opL (retOp out[j] y l[k].st) sa0 (.slice asr y.l.length csr)) hL4 ⟨_, _, rfl, hrt⟩ hjl
      rw [h11] at hLs
      have hAl : (xs.take (j * 11)).length = j * 11 := by simp; omega
      have hxs : xs = xs.take (j * 11) ++ opL out[j] sa0 sr0 ++ xs.drop (j * 11 + 11) := by
        rw [← hc1, List.append_assoc, ← List.drop_drop, List.take_append_drop, List.take_append_drop]
      generalize xs.take (j * 11) = A at hLs hAl hxs
      generalize xs.drop (j * 11 + 11) = B at hLs hxs
      subst hxs
      simp only [opL, retOp] at hLs ⊢
      refine h_one 14 rfl (by kernel_rfl) ?_
      refine go_storeR 41 (by rw [hnt]; rfl) (by rw [hty]; rfl) rfl rfl rfl rfl rfl rfl (by rw [← hAl]; exact layA A B _ _ _ _ _ _ _ _ _ _ _ _ _ _) ?_
      refine rn_ ?_; intros
      refine h_hs (allIn (by repeat (first | exact trivial | refine ⟨rfl, ?_⟩))) (by first | exact Le.refl _ | assumption) ?_
      refine h_takeD 15 rfl (by kernel_rfl) (by kernel_rfl) (by kernel_rfl) (hQD _ (by decide)) (by rw [hnt]; rfl) (allIn (by repeat (first | exact trivial | refine ⟨rfl, ?_⟩))) (by first | exact Le.refl _ | assumption) (x := .v (.pointer (some ⟨g, j * 11, none⟩))) ((quiet_index (by rw [hty]; rfl) (by rw [hty]; rfl) rfl rfl rfl (by omega) (by omega)).cast (by simp [SV.den])) ?_
      refine st_ ?_
      refine h_takeD 16 rfl (by kernel_rfl) (by kernel_rfl) (by kernel_rfl) (hQD _ (by decide)) (by rw [hnt]; rfl) (allIn (by repeat (first | exact trivial | refine ⟨rfl, ?_⟩))) (by first | exact Le.refl _ | assumption) (quiet_op (by rw [hty]; first | rfl | (refine st_ ?_; rfl))) ?_; refine st_ ?_
      refine h_one 17 rfl (by kernel_rfl) ?_
      refine go_storeR 41 (by rw [hnt]; rfl) (by rw [hty]; rfl) rfl rfl rfl rfl rfl rfl (by rw [← hAl]; exact layB A B _ _ _ _ _ _ _ _ _ _ _ _) ?_
      refine rn_ ?_; intros
      refine h_hs (allIn (by repeat (first | exact trivial | refine ⟨rfl, ?_⟩))) (by first | exact Le.refl _ | assumption) ?_
      refine h_takeD 18 rfl (by kernel_rfl) (by kernel_rfl) (by kernel_rfl) (hQD _ (by decide)) (by rw [hnt]; rfl) (allIn (by repeat (first | exact trivial | refine ⟨rfl, ?_⟩))) (by first | exact Le.refl _ | assumption) (x := .v (.pointer (some ⟨g, j * 11, none⟩))) ((quiet_index (by rw [hty]; rfl) (by rw [hty]; rfl) rfl rfl rfl (by omega) (by omega)).cast (by simp [SV.den])) ?_
      refine st_ ?_
      refine h_takeD 19 rfl (by kernel_rfl) (by kernel_rfl) (by kernel_rfl) (hQD _ (by decide)) (by rw [hnt]; rfl) (allIn (by repeat (first | exact trivial | refine ⟨rfl, ?_⟩))) (by first | exact Le.refl _ | assumption) (quiet_op (by rw [hty]; first | rfl | (refine st_ ?_; rfl))) ?_; refine st_ ?_
      refine h_one 20 rfl (by kernel_rfl) ?_
      refine go_storeR 41 (by rw [hnt]; rfl) (by rw [hty]; rfl) rfl rfl rfl rfl rfl rfl (by rw [← hAl]; exact layC A B _ _ _ _ _ _ _ _ _ _ _ _) ?_
      refine rn_ ?_; intros
      refine h_hs (allIn (by repeat (first | exact trivial | refine ⟨rfl, ?_⟩))) (by first | exact Le.refl _ | assumption) ?_
      refine h_end (by kernel_rfl) ?_
      refine rn_ ?_; intros
      refine go_mdel 40 (by rw [hnt]; rfl) (by rw [hty]; rfl) (by rw [hty]; rfl) rfl rfl rfl ?_
      refine st_ ?_
      refine rn_ ?_; intros
      rw [wr (n := (k : Int) + 1) (by omega) (by omega)]
      refine go_keep [2, 3, 4, 5, 14, 15, 16] [0, 1, 40, 41] ?_
      refine st_ ?_
      refine ih (l.length - (k + 1)) _ (by omega) ⟨k + 1, G4, l[k].st, out.set j (retOp out[j] y l[k].st), _, some ⟨g, 0, none⟩, capo, mdel l[k].th es, cm, by omega, rfl, hle03.trans hle4, hnx _ hsn, by simp; omega, hLs, uq_set hu rfl, mUq_del hmu, fun th => ?_, ?_⟩
      · rw [mget_del hmu, opn_set hu rfl hop, hmg]
        split <;> rfl
      · rw [List.length_set]
        rfl
  · have hge : k = l.length := by simp at hjl; omega
    subst hge
    rw [List.drop_length, ofP] at hof
    rw [hof] at hQ
    refine go_pubL rO 41 rfl (by omega) rfl (by omega) hL ?_
    intro G6 ad6 cap6 (hle6 : Le G1 G6) he6 hS6
    rw [← he6] at hS6
    refine st_ ?_
    refine rn_ ?_; intros
    refine x_retD rfl hQ hmb rfl (by rw [hP]; kernel_rfl) (ks := [1, 0]) (ow := ofC be bo 0 _) rfl rfl (.inl (by intro k hk; omega)) (hP ▸ ofClo_idle be bo _ _) ?_
    rintro u' G' ow' (hle9 : Le G6 G') ⟨hs', rfl⟩
    refine ⟨hs', _, ofRes hty rfl rfl rfl rfl, ?_⟩
    exact ⟨_, rfl, Rp.S_mono hle9 hS6⟩
end Go.Proofs.Ytpmmbjcgabnloaa
namespace Go.Sx
set_option linter.unusedSimpArgs false
set_option linter.unusedVariables false
def msk (p : Nat → Bool) : Nat → Nat
  | 0 => 0
  | n + 1 => msk p n + if p n then 2 ^ n else 0
theorem msk_lt (p : Nat → Bool) : ∀ n, msk p n < 2 ^ n
  | 0 => by simp [msk]
  | n + 1 => by
    have := msk_lt p n
    rw [msk, Nat.pow_succ]
    split <;> omega
theorem msk_bit (p : Nat → Bool) : ∀ n i, (msk p n).testBit i = (decide (i < n) && p i)
  | 0, i => by simp [msk]
  | n + 1, i => by
    have h := msk_lt p n
    have ih := msk_bit p n
    rw [msk]
    by_cases hp : p n = true
    · have e : msk p n + 2 ^ n = 2 ^ n ||| msk p n := by
        have := Nat.two_pow_add_eq_or_of_lt h 1
        rw [Nat.mul_one] at this
        omega
      rw [if_pos hp, e, Nat.testBit_or, Nat.testBit_two_pow, ih]
      by_cases hi : i = n
      · subst hi; simp [hp]
      · by_cases h2 : i < n
        · simp [h2, show i < n + 1 by omega]; omega
        · simp [h2, show ¬ i < n + 1 by omega]; omega
    · rw [if_neg hp, Nat.add_zero, ih]
      by_cases hi : i = n
      · subst hi; simp at hp; simp [hp]
      · by_cases h2 : i < n
        · simp [h2, show i < n + 1 by omega]
        · simp [h2, show ¬ i < n + 1 by omega]
theorem msk_eq {p q : Nat → Bool} {n : Nat} : msk p n = msk q n ↔ ∀ i, i < n → p i = q i := by
  constructor
  · intro h i hi
    have := congrArg (fun x => Nat.testBit x i) h
    simpa [msk_bit, hi] using this
  · intro h
    apply Nat.eq_of_testBit_eq
    intro i
    rw [msk_bit, msk_bit]
    by_cases hi : i < n
    · rw [h i hi]
    · simp [hi]
theorem msk_and (p q : Nat → Bool) (n : Nat) : msk p n &&& msk q n = msk (fun i => p i && q i) n := by
  apply Nat.eq_of_testBit_eq
  intro i
  rw [Nat.testBit_and, msk_bit, msk_bit, msk_bit]
  cases decide (i < n) <;> simp
theorem msk_or (p q : Nat → Bool) (n : Nat) : msk p n ||| msk q n = msk (fun i => p i || q i) n := by
  apply Nat.eq_of_testBit_eq
  intro i
  rw [Nat.testBit_or, msk_bit, msk_bit, msk_bit]
  cases decide (i < n) <;> simp
theorem msk_one {j n : Nat} (h : j < n) : msk (fun i => i == j) n = 2 ^ j := by
  apply Nat.eq_of_testBit_eq
  intro i
  rw [msk_bit, Nat.testBit_two_pow]
  by_cases hi : i = j
  · subst hi; simp [h]
  · simp [hi, Ne.symm hi]
theorem msk_no (n : Nat) : msk (fun _ => false) n = 0 := by
  apply Nat.eq_of_testBit_eq
  intro i
  simp [msk_bit]
theorem msk_zero {p : Nat → Bool} {n : Nat} : msk p n = 0 ↔ ∀ i, i < n → p i = false := by
  rw [← msk_no n, msk_eq]
theorem u64w (a : Nat) (h : a < 2 ^ 64) : IntKind.u64.wrap (a : Int) = (a : Int) := by
  have e : ∀ n : Int, IntKind.u64.wrap n = n % 18446744073709551616 := by
    intro n
    simp [IntKind.wrap, IntKind.signed, IntKind.bits]
  rw [e]; omega
theorem u64or (a b : Nat) (ha : a < 2 ^ 64) (hb : b < 2 ^ 64) : IntKind.u64.wrap ((BitVec.ofInt IntKind.u64.bits (a : Int) ||| BitVec.ofInt IntKind.u64.bits (b : Int)).toNat : Int) = ((a ||| b : Nat) : Int) := by
  show IntKind.u64.wrap ((BitVec.ofInt 64 (a : Int) ||| BitVec.ofInt 64 (b : Int)).toNat : Int) = _
  have e : (BitVec.ofInt 64 (a : Int) ||| BitVec.ofInt 64 (b : Int)).toNat = a ||| b := by
    simp only [BitVec.toNat_or, BitVec.ofInt_natCast, BitVec.toNat_ofNat]
    rw [Nat.mod_eq_of_lt ha, Nat.mod_eq_of_lt hb]
  rw [e, u64w _ (Nat.or_lt_two_pow ha hb)]
theorem u64and (a b : Nat) (ha : a < 2 ^ 64) (hb : b < 2 ^ 64) : IntKind.u64.wrap ((BitVec.ofInt IntKind.u64.bits (a : Int) &&& BitVec.ofInt IntKind.u64.bits (b : Int)).toNat : Int) = ((a &&& b : Nat) : Int) := by
  show IntKind.u64.wrap ((BitVec.ofInt 64 (a : Int) &&& BitVec.ofInt 64 (b : Int)).toNat : Int) = _
  have e : (BitVec.ofInt 64 (a : Int) &&& BitVec.ofInt 64 (b : Int)).toNat = a &&& b := by
    simp only [BitVec.toNat_and, BitVec.ofInt_natCast, BitVec.toNat_ofNat]
    rw [Nat.mod_eq_of_lt ha, Nat.mod_eq_of_lt hb]
  rw [e, u64w _ (Nat.and_lt_two_pow _ hb)]
theorem u64shl (i : Nat) (h : i < 64) : IntKind.u64.wrap ((1 : Int) * 2 ^ (min (i : Int).toNat IntKind.u64.bits)) = ((2 ^ i : Nat) : Int) := by
  have e : min (i : Int).toNat IntKind.u64.bits = i := by
    show min (i : Int).toNat 64 = i
    omega
  rw [e, Int.one_mul]
  have e2 : ((2 : Int) ^ i) = ((2 ^ i : Nat) : Int) := by simp
  rw [e2, u64w _ (Nat.pow_lt_pow_right (by omega) h)]
theorem lt64 {a n : Nat} (h : a < 2 ^ n) (hn : n ≤ 64) : a < 2 ^ 64 := Nat.lt_of_lt_of_le h (Nat.pow_le_pow_right (by omega) hn)
end Go.Sx
namespace Go.Proofs.Ytpmmbjcgabnloaa
set_option linter.unusedSimpArgs false
set_option linter.unusedVariables false
open Go.Sx
def dnA (l : List Op) (i : Nat) : Bool := match l[i]? with
  | some o => o.dn
  | none => false
def ahA (l : List Op) (i k : Nat) : Bool := match l[k]?, l[i]? with
  | some a, some b => ahd a b
  | _, _ => false
def endsP (l : List Op) (S : List Nat) : Bool := (List.range l.length).all fun i => !dnA l i || S.contains i
def mayP (l : List Op) (S : List Nat) (i : Nat) : Bool := !S.contains i && (List.range l.length).all fun k => !ahA l i k || S.contains k
def tellP (m : Int) (s : MS) (o : Op) : Option MS := if (doP m s o).2.2 && (!o.dn || vsm (doP m s o).2.1 o.res) then some (doP m s o).1 else none
def nextP (m : Int) (l : List Op) (s : MS) (S : List Nat) (i : Nat) : Option MS := if mayP l S i then (match l[i]? with
  | some o => tellP m s o
  | none => none) else none
def srch (m : Int) (l : List Op) : Nat → MS → List Nat → Option (List Nat)
  | 0, _, S => if endsP l S then some [] else none
  | f + 1, s, S => if endsP l S then some [] else (List.range l.length).findSome? fun i => match nextP m l s S i with
    | none => none
    | some t => (srch m l f t (S ++ [i])).map (i :: ·)
def freeP (n : Nat) (S : List Nat) : Nat := (List.range n).countP fun i => !S.contains i
theorem countP_lt {α : Type} (p q : α → Bool) : ∀ (l : List α) (x : α), x ∈ l → (∀ y, q y = true → p y = true) → p x = true → q x = false → l.countP q < l.countP p
  | [], _, h, _, _, _ => by cases h
  | y :: l, x, h, hs, hp, hq => by
    have hle : ∀ l : List α, l.countP q ≤ l.countP p := fun l => List.countP_mono_left fun y _ => hs y
    rw [List.countP_cons, List.countP_cons]
    rcases List.mem_cons.1 h with rfl | h
    · have := hle l
      rw [hp, hq]; simp; omega
    · have := countP_lt p q l x h hs hp hq
      by_cases hy : q y = true
      · rw [hy, hs y hy]; omega
      · simp only [Bool.not_eq_true] at hy; rw [hy]; simp; omega
theorem free_lt {n i : Nat} {S : List Nat} (hi : i < n) (h : S.contains i = false) : freeP n (S ++ [i]) < freeP n S := by
  refine countP_lt _ _ _ i (by simp; exact hi) (fun y hy => ?_) (by simpa using h) (by simp)
  simp at hy ⊢
  exact hy.1
theorem free_zero {n : Nat} {S : List Nat} (h : freeP n S = 0) : ∀ i, i < n → S.contains i = true := by
  intro i hi
  have := List.countP_eq_zero.1 h i (by simp; exact hi)
  simpa using this
theorem ends_free {l : List Op} {S : List Nat} (h : freeP l.length S = 0) : endsP l S = true := by
  rw [endsP, List.all_eq_true]
  intro i hi
  rw [free_zero h i (by simpa using hi), Bool.or_true]
theorem may_not {l : List Op} {S : List Nat} {i : Nat} (h : mayP l S i = true) : S.contains i = false := by
  simp only [mayP, Bool.and_eq_true, Bool.not_eq_true'] at h
  exact h.1
theorem next_not {m : Int} {l : List Op} {s t : MS} {S : List Nat} {i : Nat} (h : nextP m l s S i = some t) : S.contains i = false := by
  rw [nextP] at h
  split at h
  · rename_i hm; exact may_not hm
  · cases h
theorem srch_step (m : Int) (l : List Op) {f : Nat} {s : MS} {S : List Nat} (hf : freeP l.length S ≤ f) : srch m l f s S = if endsP l S then some [] else (List.range l.length).findSome? fun i => match nextP m l s S i with
    | none => none
    | some t => (srch m l (f - 1) t (S ++ [i])).map (i :: ·) := by
  cases f with
  | zero => rw [srch, ends_free (by omega)]; simp
  | succ f => rw [srch]; simp
theorem ends_msk (l : List Op) (S : List Nat) : ((msk S.contains l.length &&& msk (dnA l) l.length) == msk (dnA l) l.length) = endsP l S := by
  rw [Bool.eq_iff_iff, beq_iff_eq, msk_and, msk_eq, endsP, List.all_eq_true]
  constructor
  · intro h i hi
    have := h i (by simpa using hi)
    cases hd : dnA l i
    · rfl
    · rw [hd] at this; simpa using this
  · intro h i hi
    have := h i (by simpa using hi)
    cases hd : dnA l i
    · simp
    · rw [hd] at this; simpa using this
theorem may_msk (l : List Op) (S : List Nat) (i : Nat) (hi : i < l.length) : (((msk S.contains l.length &&& 2 ^ i) != 0) || ((msk S.contains l.length &&& msk (ahA l i) l.length) != msk (ahA l i) l.length)) = !mayP l S i := by
  have h1 : ((msk S.contains l.length &&& 2 ^ i) != 0) = S.contains i := by
    rw [← msk_one hi, msk_and]
    cases hc : S.contains i
    · rw [bne_eq_false_iff_eq, msk_zero]
      intro j _
      by_cases hj : j = i
      · subst hj; rw [hc]; rfl
      · simp [hj]
    · rw [bne_iff_ne]
      intro h0
      have := msk_zero.1 h0 i hi
      rw [hc] at this; simp at this
  have h2 : ((msk S.contains l.length &&& msk (ahA l i) l.length) != msk (ahA l i) l.length) = !((List.range l.length).all fun k => !ahA l i k || S.contains k) := by
    rw [bne, Bool.not_eq_eq_eq_not, Bool.not_not, Bool.eq_iff_iff, beq_iff_eq, msk_and, msk_eq, List.all_eq_true]
    constructor
    · intro h k hk
      have := h k (by simpa using hk)
      cases hd : ahA l i k
      · rfl
      · rw [hd] at this; simpa using this
    · intro h k hk
      have := h k (by simpa using hk)
      cases hd : ahA l i k
      · simp
      · rw [hd] at this; simpa using this
  rw [h1, h2, mayP, Bool.not_and, Bool.not_not]
theorem msk_add (l : List Op) (S : List Nat) (i : Nat) (hi : i < l.length) : msk S.contains l.length ||| 2 ^ i = msk (S ++ [i]).contains l.length := by
  rw [← msk_one hi, msk_or, msk_eq]
  intro j _
  rw [Bool.eq_iff_iff]
  simp
end Go.Proofs.Ytpmmbjcgabnloaa
namespace Go.Proofs.Ytpmmbjcgabnloaa
set_option linter.unusedSimpArgs false
set_option linter.unusedVariables false
open Go.Sx
set_option maxHeartbeats 8000000
set_option maxRecDepth 20000
def lnC (be bo bi : Nat) (e : Int) (ov : Value) (is : Bool) : Lds := [eC be e, (bo, .c 57 [.v ov]), (bi, .c 4 [.v (.bool is)])]
def lnCap (be bo bi : Nat) : List Value := [.pointer (some ⟨be, 0, none⟩), .pointer (some ⟨bo, 0, none⟩), .pointer (some ⟨bi, 0, none⟩)]
theorem lnClo_idle (be bo bi : Nat) (ov : Value) (is : Bool) (G : Hp) : CloD Try.prog 49 (lnCap be bo bi) G (lnC be bo bi 0 ov is) .returning (fun u' _ ow => settle u' = .returning ∧ ow = lnC be bo bi 0 ov is) := by
  refine enterClo2 ty tyok Try.func49 rfl Try.ntmps49 (by omega) [.p 0 be 0, .p 1 bo 0, .p 2 bi 0] (by simp) (mh := 3) rfl (.inl ⟨rfl, rfl, rfl⟩) ?_
  intro C hP hQ hnt hty hmb hmh hro hG0 hmub; have hQp := qp_body hQ; refine st_ ?_
  simp only [enumO, lnC, eC]
  refine go_callW [0] (by rw [hnt]; rfl) (by rw [hP]; kernel_rfl) rfl rfl rfl (.inr (by rw [hmh]; decide)) (by rw [hP]; exact catch_nil be _ _) ?_
  rintro v G1 ow1 (hle1 : Le G G1) rfl
  simp only [setO]
  refine st_ ?_
  refine rn_ ?_; intros
  (refine x_split rfl rfl rfl (fun hc => absurd hc (by first | decide +kernel | (simp; first | done | fail))) (fun _ => ?_); refine st_ ?_; (refine ru_ ?_; intros))
  refine rn_ ?_; intros
  refine x_endW hQ hmb hmh hG0 hmub rfl rfl rfl rfl (by simp only [enumO]; exact (by repeat (first | exact plain_nil | refine plain_cons (fun _ h => h) ?_))) ?_
  intro _
  exact ⟨rfl, rfl⟩
theorem lnClo_catch (be bo bi : Nat) (ov : Value) (is : Bool) (e0 e : Int) (he : e ≠ 0) (G : Hp) : CloD Try.prog 49 (lnCap be bo bi) G (lnC be bo bi e0 ov is) (.panicking [pE (faultV e)]) (fun u' _ ow => settle u' = .returning ∧ ow = lnC be bo bi e (.slice none 0 0) false) := by
  refine enterClo2 ty tyok Try.func49 rfl Try.ntmps49 (by omega) [.p 0 be 0, .p 1 bo 0, .p 2 bi 0] (by simp) (mh := 3) rfl (.inr ⟨rfl, rfl⟩) ?_
  intro C hP hQ hnt hty hmb hmh hro hG0 hmub; have hQp := qp_body hQ; refine st_ ?_
  simp only [enumO, lnC, eC]
  refine go_callW [0] (by rw [hnt]; rfl) (by rw [hP]; kernel_rfl) rfl rfl rfl (.inr (by rw [hmh]; decide)) (by rw [hP]; exact catch_f be _ _ _) ?_
  rintro v G1 ow1 (hle1 : Le G G1) rfl
  simp only [setO]
  refine st_ ?_
  refine rn_ ?_; intros
  (refine x_split rfl rfl rfl (fun _ => ?_) (fun hc => absurd hc (by simpa using he)); refine st_ ?_; (refine ru_ ?_; intros))
  refine rn_ ?_; intros
  refine go_see 2 [.v (.bool false)] rfl rfl ?_
  refine st_ ?_
  refine x_endW hQ hmb hmh hG0 hmub rfl rfl rfl rfl (by simp only [enumO]; exact (by repeat (first | exact plain_nil | refine plain_cons (fun _ h => h) ?_))) ?_
  intro _
  exact ⟨rfl, rfl⟩
def plV (sv sp : Value) (set : Nat) : Value := .agg #[sv, sp, .int .u64 (set : Int)]
theorem after_ok (s : MS) (sv sp : Value) (set : Nat) (G : Hp) (hs : s.rep G sv sp) (hc : CapOk sv) (hlp : s.ps.length ≤ 100000) :
    PureR Try.prog 53 [plV sv sp set] G (fun v G' r e size n xs => ∃ ad, e = 55 ∧ size = 4 ∧ n = s.ps.length ∧ v = .agg #[.slice ad s.vals.length s.vals.length, r] ∧ rV.S G' s.vals (.slice ad s.vals.length s.vals.length) ∧ rPo.L G' s.ps xs) := by
  obtain ⟨ad1, cap1, rfl⟩ := Rp.S_slice hs.v
  obtain ⟨ad2, cap2, rfl⟩ := Rp.S_slice hs.p
  have hcap := hc _ _ _ rfl
  obtain ⟨cs, hcs, hsrc⟩ := Rp.srcS hs.p
  refine enterR ty tyok Try.func53 rfl Try.ntmps53 [.a [.v (.slice ad1 s.vals.length cap1), .v (.slice ad2 s.ps.length cap2), .v (.int .u64 set)]] (by simp) ?_
  intro C hP hQ hnt hty hmb hmh hro; have hQp := qp_body hQ; refine st_ ?_
  refine rn_ ?_; intros
  rename_i b0 b1
  refine x_held [(0, b0, .c 107 [.v (.slice ad1 s.vals.length cap1), .v (.slice ad2 s.ps.length cap2), .v (.int .u64 set)])] rfl (by rw [hP]; kernel_rfl) rfl rfl rfl ?_; refine st_ ?_
  refine h_take 0 rfl (by kernel_rfl) (by kernel_rfl) (by kernel_rfl) hQp (by rw [hnt]; rfl) (allIn (by repeat (first | exact trivial | refine ⟨rfl, ?_⟩))) (by first | exact Le.refl _ | assumption) (quiet_op (by rw [hty]; first | rfl | (refine st_ ?_; rfl))) ?_; refine st_ ?_
  refine h_take 1 rfl (by kernel_rfl) (by kernel_rfl) (by kernel_rfl) hQp (by rw [hnt]; rfl) (allIn (by repeat (first | exact trivial | refine ⟨rfl, ?_⟩))) (by first | exact Le.refl _ | assumption) (quiet_op (by rw [hty]; first | rfl | (refine st_ ?_; rfl))) ?_; refine st_ ?_
  refine h_take 2 rfl (by kernel_rfl) (by kernel_rfl) (by kernel_rfl) hQp (by rw [hnt]; rfl) (allIn (by repeat (first | exact trivial | refine ⟨rfl, ?_⟩))) (by first | exact Le.refl _ | assumption) (quiet_op (by rw [hty]; first | rfl | (refine st_ ?_; rfl))) ?_; refine st_ ?_
  refine h_take 3 rfl (by kernel_rfl) (by kernel_rfl) (by kernel_rfl) hQp (by rw [hnt]; rfl) (allIn (by repeat (first | exact trivial | refine ⟨rfl, ?_⟩))) (by first | exact Le.refl _ | assumption) (quiet_op (by rw [hty]; first | rfl | (refine st_ ?_; rfl))) ?_; refine st_ ?_
  refine h_take 4 rfl (by kernel_rfl) (by kernel_rfl) (by kernel_rfl) hQp (by rw [hnt]; rfl) (allIn (by repeat (first | exact trivial | refine ⟨rfl, ?_⟩))) (by first | exact Le.refl _ | assumption) (quiet_op (by rw [hty]; first | rfl | (refine st_ ?_; rfl))) ?_; refine st_ ?_
  refine h_take 5 rfl (by kernel_rfl) (by kernel_rfl) (by kernel_rfl) hQp (by rw [hnt]; rfl) (allIn (by repeat (first | exact trivial | refine ⟨rfl, ?_⟩))) (by first | exact Le.refl _ | assumption) (quiet_op (by rw [hty]; first | rfl | (refine st_ ?_; rfl))) ?_; refine st_ ?_
  refine h_take 6 rfl (by kernel_rfl) (by kernel_rfl) (by kernel_rfl) hQp (by rw [hnt]; rfl) (allIn (by repeat (first | exact trivial | refine ⟨rfl, ?_⟩))) (by first | exact Le.refl _ | assumption) (quiet_op (by rw [hty]; first | rfl | (refine st_ ?_; rfl))) ?_; refine st_ ?_
  refine h_take 7 rfl (by kernel_rfl) (by kernel_rfl) (by kernel_rfl) hQp (by rw [hnt]; rfl) (allIn (by repeat (first | exact trivial | refine ⟨rfl, ?_⟩))) (by first | exact Le.refl _ | assumption) (quiet_op (by rw [hty]; first | rfl | (refine st_ ?_; rfl))) ?_; refine st_ ?_
  refine h_take 8 rfl (by kernel_rfl) (by kernel_rfl) (by kernel_rfl) hQp (by rw [hnt]; rfl) (allIn (by repeat (first | exact trivial | refine ⟨rfl, ?_⟩))) (by first | exact Le.refl _ | assumption) (quiet_op (by rw [hty]; first | rfl | (refine st_ ?_; rfl))) ?_; refine st_ ?_
  refine h_take 9 rfl (by kernel_rfl) (by kernel_rfl) (by kernel_rfl) hQp (by rw [hnt]; rfl) (allIn (by repeat (first | exact trivial | refine ⟨rfl, ?_⟩))) (by first | exact Le.refl _ | assumption) (quiet_op (by rw [hty]; first | rfl | (refine st_ ?_; rfl))) ?_; refine st_ ?_
  refine h_take 10 rfl (by kernel_rfl) (by kernel_rfl) (by kernel_rfl) hQp (by rw [hnt]; rfl) (allIn (by repeat (first | exact trivial | refine ⟨rfl, ?_⟩))) (by first | exact Le.refl _ | assumption) (quiet_op (by rw [hty]; first | rfl | (refine st_ ?_; rfl))) ?_; refine st_ ?_
  refine h_take 11 rfl (by kernel_rfl) (by kernel_rfl) (by kernel_rfl) hQp (by rw [hnt]; rfl) (allIn (by repeat (first | exact trivial | refine ⟨rfl, ?_⟩))) (by first | exact Le.refl _ | assumption) (x := .v (.slice ad1 s.vals.length s.vals.length)) ((quiet_slice3 (by rw [hty]; rfl) (by rw [hty]; rfl) rfl rfl rfl rfl (by omega) (by omega)).cast (by
    have e2 : ad1.map (fun x => x.add 0) = ad1 := by cases ad1 <;> simp [Addr.add]
    simp only [Sx.sliced, SV.den, Int.toNat_natCast, Nat.sub_zero, Nat.zero_mul, e2, ite_self])) ?_
  refine st_ ?_
  refine h_take 12 rfl (by kernel_rfl) (by kernel_rfl) (by kernel_rfl) hQp (by rw [hnt]; rfl) (allIn (by repeat (first | exact trivial | refine ⟨rfl, ?_⟩))) (by first | exact Le.refl _ | assumption) (quiet_op (by rw [hty]; first | rfl | (refine st_ ?_; rfl))) ?_; refine st_ ?_
  refine h_take 13 rfl (by kernel_rfl) (by kernel_rfl) (by kernel_rfl) hQp (by rw [hnt]; rfl) (allIn (by repeat (first | exact trivial | refine ⟨rfl, ?_⟩))) (by first | exact Le.refl _ | assumption) (quiet_op (by rw [hty]; first | rfl | (refine st_ ?_; rfl))) ?_; refine st_ ?_
  refine h_take 14 rfl (by kernel_rfl) (by kernel_rfl) (by kernel_rfl) hQp (by rw [hnt]; rfl) (allIn (by repeat (first | exact trivial | refine ⟨rfl, ?_⟩))) (by first | exact Le.refl _ | assumption) (quiet_op (by rw [hty]; first | rfl | (refine st_ ?_; rfl))) ?_; refine st_ ?_
  refine h_one 15 rfl (by kernel_rfl) ?_
  refine go_nilrow 41 55 4 rfl (by omega) ?_
  refine go_append_any 41 (by rw [hnt]; rfl) (by rw [hty]; rfl) (by rw [hty]; rfl) (by decide) rfl rfl rfl (by omega) rfl (hsrc.imp id fun f => f _ _ rfl) (Rp.L_len hcs) (Rp.L_one hcs) (by omega) (by simp only []; omega) ?_
  intro v1
  refine go_rowS 41 rfl ?_
  rintro a3 c3 rfl
  refine rn_ ?_; intros
  refine h_hs (allIn (by repeat (first | exact trivial | refine ⟨rfl, ?_⟩))) (by first | exact Le.refl _ | assumption) ?_
  refine h_take 16 rfl (by kernel_rfl) (by kernel_rfl) (by kernel_rfl) hQp (by rw [hnt]; rfl) (allIn (by repeat (first | exact trivial | refine ⟨rfl, ?_⟩))) (by first | exact Le.refl _ | assumption) (quiet_op (by rw [hty]; first | rfl | (refine st_ ?_; rfl))) ?_; refine st_ ?_
  refine h_one 17 rfl (by kernel_rfl) ?_
  refine rn_ ?_; intros
  refine h_hs (allIn (by repeat (first | exact trivial | refine ⟨rfl, ?_⟩))) (by first | exact Le.refl _ | assumption) ?_
  refine h_end (by kernel_rfl) ?_
  refine rn_ ?_; intros
  refine x_retr 41 rfl hQ hmb hmh rfl (by rw [hty]; simp only [so, sq, zy, zz, tyE, SO', SQ', opQ, opStore, opAlloc, ev, putS, dOk, cv, SV.cs, SV.one, SV.bool?, eqB, Value.oneCell', ldOwn, binInt, binConst, binBool, binStr, isC, TK.agg, rv, rv1, ldV, resOne, resV, Nat.reduceAdd, Nat.reduceMul, Nat.reduceSub, Nat.reduceLT, Nat.reduceLeDiff, Nat.reduceEqDiff, Nat.reduceBEq, reduceIte, reduceCtorEq, eq_self]; try rfl) rfl rfl ?_
  refine ⟨ad1, rfl, rfl, by simp, by simp [resV, SV.den, dens], ?_, by simpa using hcs⟩
  obtain ⟨h1, ad, cap, h2, h3⟩ := hs.v
  cases h2
  exact ⟨h1, _, _, rfl, h3⟩
theorem ends_ok (l : List Op) (S : List Nat) (a1 a2 : Option Addr) (n1 c1 n2 c2 : Nat) (ba : Nat) (G : Hp) (hn : l.length ≤ 8) (hat : At G ba 0 [.int .u64 (msk (dnA l) l.length : Nat)]) :
    Pure Try.prog 51 [plV (.slice a1 n1 c1) (.slice a2 n2 c2) (msk S.contains l.length), .pointer (some ⟨ba, 0, none⟩)] G (fun v _ => v = .bool (endsP l S)) := by
  have h1 : msk S.contains l.length < 2 ^ 64 := lt64 (msk_lt _ _) (by omega)
  have h2 : msk (dnA l) l.length < 2 ^ 64 := lt64 (msk_lt _ _) (by omega)
  rw [← ends_msk]
  generalize msk S.contains l.length = x at *
  generalize msk (dnA l) l.length = y at *
  refine enterX ty tyok Try.func51 rfl Try.ntmps51 [.a [.v (.slice a1 n1 c1), .v (.slice a2 n2 c2), .v (.int .u64 (x : Nat))], .v (.pointer (some ⟨ba, 0, none⟩))] (by simp) ?_
  intro C hP hQ hnt hty hmb hmh hro; have hQp := qp_body hQ; refine st_ ?_
  refine rn_ ?_; intros
  refine go_q (v := .int .u64 (y : Nat)) (by rw [hnt]; rfl) ((quiet_load (by rw [hty]; rfl) rfl (by simp [TK.agg]) hat rfl).cast rfl) ?_
  refine rn_ ?_; intros
  refine go_q (v := .int .u64 (y : Nat)) (by rw [hnt]; rfl) ((quiet_load (by rw [hty]; rfl) rfl (by simp [TK.agg]) hat rfl).cast rfl) ?_
  refine rn_ ?_; intros
  refine x_retc rfl hQ hmb rfl (by rw [hty]; simp only [so, sq, zy, zz, tyE, SO', SQ', opQ, opStore, opAlloc, ev, putS, dOk, cv, SV.cs, SV.one, SV.bool?, eqB, Value.oneCell', ldOwn, binInt, binConst, binBool, binStr, isC, TK.agg, rv, rv1, ldV, resOne, resV, Nat.reduceAdd, Nat.reduceMul, Nat.reduceSub, Nat.reduceLT, Nat.reduceLeDiff, Nat.reduceEqDiff, Nat.reduceBEq, reduceIte, reduceCtorEq, eq_self]; try rfl) rfl ?_; simp only [SV.den, resV, dens]
  rw [u64and x y h1 h2]
  congr 1
  rw [Bool.eq_iff_iff, beq_iff_eq, beq_iff_eq]
  omega
end Go.Proofs.Ytpmmbjcgabnloaa
namespace Go.Proofs.Ytpmmbjcgabnloaa
set_option linter.unusedSimpArgs false
set_option linter.unusedVariables false
open Go.Sx
set_option maxHeartbeats 8000000
set_option maxRecDepth 20000
def nxRet (n : Nat) (S : List Nat) (i : Nat) (r : Option MS) (v : Value) (G : Hp) : Prop := match r with
  | none => v = .tuple #[.agg #[.slice none 0 0, .slice none 0 0, .int .u64 0], .bool false]
  | some t => ∃ v1 v2, v = .tuple #[plV v1 v2 (msk (S ++ [i]).contains n), .bool true] ∧ t.rep G v1 v2 ∧ CapOk v1
def ahRow (l : List Op) : List Value := (List.range 8).map fun i => .int .u64 (msk (ahA l i) l.length : Nat)
theorem next_ok (m : Int) (K mo : Int) (pt : Bool) (f : Nat) (he : EffOk m K mo pt f) (l : List Op) (sl : Value) (S : List Nat) (s : MS) (i : Nat) (sv sp : Value) (bh bf bl : Nat) (G : Hp) (hn : l.length ≤ 8) (hi : i < l.length)
    (hs : s.rep G sv sp) (hc : CapOk sv) (hl : s.vals.length ≤ 100) (hlp : s.ps.length ≤ 100) (hwf : s.wf) (hvd : s.vd) (hlr : rO.S G l sl) (hrg : ∀ o ∈ l, rgtO K o = true)
    (hah : At G bh 0 (ahRow l)) (hef : At G bf 0 [.int .i64 K, .int .i64 mo, .bool pt, .func (.func f) #[] #[]]) (hbl : At G bl 0 [sl]) :
    Pure Try.prog 52 [plV sv sp (msk S.contains l.length), .int .i64 i, .pointer (some ⟨bh, 0, none⟩), .pointer (some ⟨bf, 0, none⟩), .pointer (some ⟨bl, 0, none⟩)] G (nxRet l.length S i (nextP m l s S i)) := by
  obtain ⟨ad1, cap1, rfl⟩ := Rp.S_slice hs.v
  obtain ⟨ad2, cap2, rfl⟩ := Rp.S_slice hs.p
  have h1 : msk S.contains l.length < 2 ^ 64 := lt64 (msk_lt _ _) (by omega)
  have h2 : msk (ahA l i) l.length < 2 ^ 64 := lt64 (msk_lt _ _) (by omega)
  have h3 : 2 ^ i < 2 ^ 64 := Nat.pow_lt_pow_right (by omega) (by omega)
  obtain ⟨bl1, ol1, sa, sr, hsl, hato, hor⟩ : ∃ bl1 ol1 sa sr, (∃ cap, sl = .slice (some ⟨bl1, ol1, none⟩) l.length cap) ∧ At G bl1 (ol1 + i * 11) (opL l[i] sa sr) ∧ l[i].rep G sa sr := by
    obtain ⟨ad, cap, rfl⟩ := Rp.S_slice hlr
    obtain ⟨b, off, sa, sr, rfl, q1, q2⟩ := rO_at hlr hi
    exact ⟨b, off, sa, sr, ⟨cap, rfl⟩, q1, q2⟩
  obtain ⟨capl, rfl⟩ := hsl
  have hmay := may_msk l S i hi
  have hadd := msk_add l S i hi
  have hrow : At G bh i [.int .u64 (msk (ahA l i) l.length : Nat)] := by
    have := hah.sub i 1 (by simp [ahRow]; omega)
    rw [Nat.zero_add] at this
    have e : ((ahRow l).drop i).take 1 = [.int .u64 (msk (ahA l i) l.length : Nat)] := by
      rw [List.drop_eq_getElem_cons (by simp [ahRow]; omega)]
      simp [ahRow]
    rw [e] at this
    exact this
  refine enterX ty tyok Try.func52 rfl Try.ntmps52 [.a [.v (.slice ad1 s.vals.length cap1), .v (.slice ad2 s.ps.length cap2), .v (.int .u64 (msk S.contains l.length : Nat))], .v (.int .i64 i), .v (.pointer (some ⟨bh, 0, none⟩)), .v (.pointer (some ⟨bf, 0, none⟩)), .v (.pointer (some ⟨bl, 0, none⟩))] (by simp) ?_
  intro C hP hQ hnt hty hmb hmh hro; have hQp := qp_body hQ; refine st_ ?_
  refine rn_ ?_; intros
  rename_i b0 b1
  refine x_draw rfl (by rw [hP]; kernel_rfl) rfl (by kernel_rfl) ?_
  refine runq 400 hty hnt ?_; refine st_ ?_
  refine q_q (v := .int .u64 ((2 ^ i : Nat) : Int)) (by rw [hnt]; rfl) ((quiet_bin rfl rfl rfl rfl (shl_ok (by omega))).cast (by rw [u64shl i (by omega)])) ?_
  refine runq 400 hty hnt ?_; refine st_ ?_
  have hno : mayP l S i = false → nextP m l s S i = none := fun h => by rw [nextP, h]; rfl
  rw [u64and _ _ h1 h3]
  have hq1 : (((msk S.contains l.length &&& 2 ^ i : Nat) : Int) != 0) = ((msk S.contains l.length &&& 2 ^ i) != 0) := by
    rw [Bool.eq_iff_iff, bne_iff_ne, bne_iff_ne]
    omega
  rw [hq1]
  refine go_qsplit rfl rfl (fun hb1 => ?_) (fun hb1 => ?_) <;> (refine st_ ?_; (try (refine runq 400 hty hnt ?_; refine st_ ?_)))
  · rw [hb1, Bool.true_or] at hmay
    have e := hno (by simpa using hmay.symm)
    repeat (refine q_gundef rfl (by rw [hnt]; rfl) rfl ?_; (refine st_ ?_; (try (refine runq 400 hty hnt ?_; refine st_ ?_))))
    refine q_end ?_; refine rn_ ?_; intros
    refine rn_ ?_; intros
    refine x_retc rfl hQ hmb rfl (by rw [hty]; simp only [so, sq, zy, zz, tyE, SO', SQ', opQ, opStore, opAlloc, ev, putS, dOk, cv, SV.cs, SV.one, SV.bool?, eqB, Value.oneCell', ldOwn, binInt, binConst, binBool, binStr, isC, TK.agg, rv, rv1, ldV, resOne, resV, Nat.reduceAdd, Nat.reduceMul, Nat.reduceSub, Nat.reduceLT, Nat.reduceLeDiff, Nat.reduceEqDiff, Nat.reduceBEq, reduceIte, reduceCtorEq, eq_self]; try rfl) rfl ?_; simp only [SV.den, resV, dens]
    rw [e]
    rfl
  rw [hb1, Bool.false_or] at hmay
  refine q_q (v := .pointer (some ⟨bh, i, none⟩)) (by rw [hnt]; rfl) ((quiet_indexA (by rw [hty]; rfl) (by rw [hty]; rfl) rfl rfl rfl (by omega) (by omega)).cast (by simp)) ?_
  refine runq 400 hty hnt ?_; refine st_ ?_
  refine q_q (v := .int .u64 (msk (ahA l i) l.length : Nat)) (by rw [hnt]; rfl) ((quiet_load (vs := [.int .u64 (msk (ahA l i) l.length : Nat)]) (by rw [hty]; rfl) rfl (by simp [TK.agg]) hrow rfl).cast (by rfl)) ?_
  refine runq 400 hty hnt ?_; refine st_ ?_
  rw [u64and _ _ h1 h2]
  refine q_q (v := .pointer (some ⟨bh, i, none⟩)) (by rw [hnt]; rfl) ((quiet_indexA (by rw [hty]; rfl) (by rw [hty]; rfl) rfl rfl rfl (by omega) (by omega)).cast (by simp)) ?_
  refine runq 400 hty hnt ?_; refine st_ ?_
  refine q_q (v := .int .u64 (msk (ahA l i) l.length : Nat)) (by rw [hnt]; rfl) ((quiet_load (vs := [.int .u64 (msk (ahA l i) l.length : Nat)]) (by rw [hty]; rfl) rfl (by simp [TK.agg]) hrow rfl).cast (by rfl)) ?_
  refine runq 400 hty hnt ?_; refine st_ ?_
  have hq2 : (((msk S.contains l.length &&& msk (ahA l i) l.length : Nat) : Int) != ((msk (ahA l i) l.length : Nat) : Int)) = !mayP l S i := by
    rw [← hmay, Bool.eq_iff_iff, bne_iff_ne, bne_iff_ne]
    omega
  rw [hq2]
  refine q_end ?_; refine rn_ ?_; intros
  refine x_split rfl rfl rfl (fun hb2 => ?_) (fun hb2 => ?_) <;> (refine st_ ?_; (refine ru_ ?_; intros))
  · have e := hno (by simpa using hb2)
    refine rn_ ?_; intros
    refine x_retc rfl hQ hmb rfl (by rw [hty]; simp only [so, sq, zy, zz, tyE, SO', SQ', opQ, opStore, opAlloc, ev, putS, dOk, cv, SV.cs, SV.one, SV.bool?, eqB, Value.oneCell', ldOwn, binInt, binConst, binBool, binStr, isC, TK.agg, rv, rv1, ldV, resOne, resV, Nat.reduceAdd, Nat.reduceMul, Nat.reduceSub, Nat.reduceLT, Nat.reduceLeDiff, Nat.reduceEqDiff, Nat.reduceBEq, reduceIte, reduceCtorEq, eq_self]; try rfl) rfl ?_; simp only [SV.den, resV, dens]
    rw [e]
    rfl
  have hm : mayP l S i = true := by simpa using hb2
  have hnx : nextP m l s S i = tellP m s l[i] := by rw [nextP, if_pos hm, List.getElem?_eq_getElem hi]
  rw [hnx] at hQ
  refine go_keep [1, 3, 4, 5, 7, 8, 31] [0, 1] ?_
  refine st_ ?_
  refine rn_ ?_; intros
  refine go_callr 60 (by rw [hnt]; rfl) (by rw [hP]; kernel_rfl) rfl rfl (by omega) (hP ▸ after_ok s _ _ _ G hs hc (by omega)) ?_
  rintro v G1 r e size n xs (hle1 : Le G G1) ⟨ad, rfl, rfl, rfl, rfl, hSv, hL⟩
  refine go_rowS 60 rfl ?_
  rintro a2 c2 rfl
  refine rn_ ?_; intros
  rename_i b2
  refine go_qnew 70 rV (e := 28) (xs := s.vals) rfl (by omega) rfl hSv ?_
  intro Zv bz cs hcs
  refine go_keep [1, 3, 4, 5, 7, 8, 9] [0, 1, 60, 61, 70] ?_
  refine st_ ?_
  refine x_held [ ] rfl (by rw [hP]; kernel_rfl) rfl rfl rfl ?_; refine st_ ?_
  refine h_take 0 rfl (by kernel_rfl) (by kernel_rfl) (by kernel_rfl) hQp (by rw [hnt]; rfl) (allIn (by repeat (first | exact trivial | refine ⟨rfl, ?_⟩))) (by first | exact Le.refl _ | assumption) (quiet_op (by rw [hty]; first | rfl | (refine st_ ?_; rfl))) ?_; refine st_ ?_
  refine h_take 1 rfl (by kernel_rfl) (by kernel_rfl) (by kernel_rfl) hQp (by rw [hnt]; rfl) (allIn (by repeat (first | exact trivial | refine ⟨rfl, ?_⟩))) (by first | exact Le.refl _ | assumption) (x := .v (.func (.func f) #[] #[])) ((quiet_load (vs := [.func (.func f) #[] #[]]) (by rw [hty]; rfl) rfl (by simp [TK.agg]) ((hef.mono hle1).sub 3 1 (by simp)) rfl).cast (by rfl)) ?_
  refine st_ ?_
  refine h_take 2 rfl (by kernel_rfl) (by kernel_rfl) (by kernel_rfl) hQp (by rw [hnt]; rfl) (allIn (by repeat (first | exact trivial | refine ⟨rfl, ?_⟩))) (by first | exact Le.refl _ | assumption) (x := .v (.slice (some ⟨bl1, ol1, none⟩) l.length capl)) ((quiet_load (vs := [.slice (some ⟨bl1, ol1, none⟩) l.length capl]) (by rw [hty]; rfl) rfl (by simp [TK.agg]) (hbl.mono hle1) rfl).cast (by rfl)) ?_
  refine st_ ?_
  refine h_take 3 rfl (by kernel_rfl) (by kernel_rfl) (by kernel_rfl) hQp (by rw [hnt]; rfl) (allIn (by repeat (first | exact trivial | refine ⟨rfl, ?_⟩))) (by first | exact Le.refl _ | assumption) (quiet_op (by rw [hty]; first | rfl | (refine st_ ?_; rfl))) ?_; refine st_ ?_
  refine h_take 4 rfl (by kernel_rfl) (by kernel_rfl) (by kernel_rfl) hQp (by rw [hnt]; rfl) (allIn (by repeat (first | exact trivial | refine ⟨rfl, ?_⟩))) (by first | exact Le.refl _ | assumption) (x := .v (.pointer (some ⟨bl1, ol1 + i * 11, none⟩))) ((quiet_index (by rw [hty]; rfl) (by rw [hty]; rfl) rfl rfl rfl (by omega) (by omega)).cast (by simp [SV.den])) ?_
  refine st_ ?_
  refine h_take 5 rfl (by kernel_rfl) (by kernel_rfl) (by kernel_rfl) hQp (by rw [hnt]; rfl) (allIn (by repeat (first | exact trivial | refine ⟨rfl, ?_⟩))) (by first | exact Le.refl _ | assumption) (x := .a (opC l[i] sa sr)) ((quiet_load (by rw [hty]; rfl) rfl (fun q => by cases q) (hato.mono hle1) rfl).cast (by simp only [ldV, SV.den, dens]; rfl)) ?_
  simp only [opC]
  refine st_ ?_
  refine h_two 6 10 rfl rfl (by kernel_rfl) ?_ ?_
  · refine go_callWv [61, 70, 60] (f := f) (cap := []) (by rw [hnt]; rfl) (hP ▸ he.can) rfl rfl rfl rfl rfl (.inl (by intro k hk; omega)) (hP ▸ he.run s l[i] sa sr b2 _ G1 G1 (Le.refl _) ⟨_, _, bz, Zv, 0, cs, xs, rfl, hcs, hL, by omega, by omega⟩ (hor.mono hle1) (by omega) (by omega) hwf) ?_
    rintro v G2 ow' (hle2 : Le G1 G2) ⟨slr, rfl, hrr, hrb, vv, pv, bz2, Z2, bp2, xs2, ys2, rfl, hL2, hM2, hn1, hn2⟩
    simp only [setO]
    refine st_ ?_
    refine go_qval 70 rfl ?_
    rintro a3 c3 rfl hc3 _ _
    refine go_rowS 60 rfl ?_
    rintro a4 c4 rfl
    obtain ⟨asr, csr, rfl⟩ := VT.rep_slice hrr
    refine rn_ ?_; intros
    refine h_hs (allIn (by repeat (first | exact trivial | refine ⟨rfl, ?_⟩))) (by first | exact Le.refl _ | assumption) ?_
    refine h_take 7 rfl (by kernel_rfl) (by kernel_rfl) (by kernel_rfl) hQp (by rw [hnt]; rfl) (allIn (by repeat (first | exact trivial | refine ⟨rfl, ?_⟩))) (by first | exact Le.refl _ | assumption) (quiet_op (by rw [hty]; first | rfl | (refine st_ ?_; rfl))) ?_; refine st_ ?_
    refine h_take 8 rfl (by kernel_rfl) (by kernel_rfl) (by kernel_rfl) hQp (by rw [hnt]; rfl) (allIn (by repeat (first | exact trivial | refine ⟨rfl, ?_⟩))) (by first | exact Le.refl _ | assumption) (quiet_op (by rw [hty]; first | rfl | (refine st_ ?_; rfl))) ?_; refine st_ ?_
    refine h_take 9 rfl (by kernel_rfl) (by kernel_rfl) (by kernel_rfl) hQp (by rw [hnt]; rfl) (allIn (by repeat (first | exact trivial | refine ⟨rfl, ?_⟩))) (by first | exact Le.refl _ | assumption) (quiet_op (by rw [hty]; first | rfl | (refine st_ ?_; rfl))) ?_; refine st_ ?_
    refine h_one 10 rfl (by kernel_rfl) ?_
    refine rn_ ?_; intros
    refine h_hs (allIn (by repeat (first | exact trivial | refine ⟨rfl, ?_⟩))) (by first | exact Le.refl _ | assumption) ?_
    refine h_one 11 rfl (by kernel_rfl) ?_
    refine rn_ ?_; intros
    refine h_hs (allIn (by repeat (first | exact trivial | refine ⟨rfl, ?_⟩))) (by first | exact Le.refl _ | assumption) ?_
    refine h_one 12 rfl (by kernel_rfl) ?_
    refine rn_ ?_; intros
    refine h_hs (allIn (by repeat (first | exact trivial | refine ⟨rfl, ?_⟩))) (by first | exact Le.refl _ | assumption) ?_
    refine h_end (by kernel_rfl) ?_
    refine go_keep [1, 4, 5, 7, 8, 9, 10, 11] [0, 1, 60, 61, 70, 71] ?_
    refine st_ ?_
    generalize hrr0 : doP m s l[i] = r at *
    refine go_qpub rV 70 rfl hle2 (by omega) rfl (by omega) hL2 ?_
    intro G3 (hle3 : Le G2 G3) hS3
    refine st_ ?_
    refine go_pubL rPo 60 rfl (by omega) rfl (by omega) (Rp.L_mono hle3 hM2) ?_
    intro G4 ad4 cap4 (hle4 : Le G3 G4) he4 hS4
    rw [← he4] at hS4
    refine st_ ?_
    have hle04 : Le G G4 := hle1.trans (hle2.trans (hle3.trans hle4))
    rename_i bv
    refine rn_ ?_; intros
    refine x_draw rfl (by rw [hP]; kernel_rfl) rfl (by kernel_rfl) ?_
    refine runq 400 hty hnt ?_; refine st_ ?_
    have hT : tellP m s l[i] = if r.2.2 && (!l[i].dn || vsm r.2.1 l[i].res) then some r.1 else none := by rw [tellP, hrr0]
    rw [hT] at hQ
    cases hcan : r.2.2
    · rw [hcan] at hQ
      (refine go_qsplit rfl rfl (fun _ => ?_) (fun hc => absurd hc (by simp)); refine st_ ?_; (try (refine runq 400 hty hnt ?_; refine st_ ?_)))
      repeat (refine q_gundef rfl (by rw [hnt]; rfl) rfl ?_; (refine st_ ?_; (try (refine runq 400 hty hnt ?_; refine st_ ?_))))
      refine q_end ?_; refine rn_ ?_; intros
      refine rn_ ?_; intros
      refine x_retc rfl hQ hmb rfl (by rw [hty]; simp only [so, sq, zy, zz, tyE, SO', SQ', opQ, opStore, opAlloc, ev, putS, dOk, cv, SV.cs, SV.one, SV.bool?, eqB, Value.oneCell', ldOwn, binInt, binConst, binBool, binStr, isC, TK.agg, rv, rv1, ldV, resOne, resV, Nat.reduceAdd, Nat.reduceMul, Nat.reduceSub, Nat.reduceLT, Nat.reduceLeDiff, Nat.reduceEqDiff, Nat.reduceBEq, reduceIte, reduceCtorEq, eq_self]; try rfl) rfl ?_; simp only [SV.den, resV, dens]
      rfl
    rw [hcan, Bool.true_and] at hQ
    (refine go_qsplit rfl rfl (fun hc => absurd hc (by simp)) (fun _ => ?_); refine st_ ?_; (try (refine runq 400 hty hnt ?_; refine st_ ?_)))
    refine q_q (v := .slice (some ⟨bl1, ol1, none⟩) l.length capl) (by rw [hnt]; rfl) ((quiet_load (vs := [.slice (some ⟨bl1, ol1, none⟩) l.length capl]) (by rw [hty]; rfl) rfl (by simp [TK.agg]) (hbl.mono hle04) rfl).cast (by rfl)) ?_
    refine runq 400 hty hnt ?_; refine st_ ?_
    refine q_q (by rw [hnt]; rfl) (quiet_index (by rw [hty]; rfl) (by rw [hty]; rfl) rfl rfl rfl (by omega) (by omega)) ?_; refine runq 400 hty hnt ?_; refine st_ ?_
    refine q_q (v := .bool l[i].dn) (by rw [hnt]; rfl) ((quiet_load (vs := [.bool l[i].dn]) (by rw [hty]; rfl) rfl (by simp [TK.agg]) (by simpa [opL] using (hato.mono hle04).sub 10 1 (by simp [opL])) rfl).cast (by rfl)) ?_
    refine runq 400 hty hnt ?_; refine st_ ?_
    cases hdn : l[i].dn
    · rw [hdn, Bool.not_false, Bool.true_or, if_pos rfl] at hQ
      (refine go_qsplit rfl rfl (fun hc => absurd hc (by simp)) (fun _ => ?_); refine st_ ?_; (try (refine runq 400 hty hnt ?_; refine st_ ?_)))
      repeat (refine q_gundef rfl (by rw [hnt]; rfl) rfl ?_; (refine st_ ?_; (try (refine runq 400 hty hnt ?_; refine st_ ?_))))
      refine q_end ?_; refine rn_ ?_; intros
      refine go_keep [1, 5, 7, 8, 9, 61] [0, 1, 61] ?_
      refine st_ ?_
      refine rn_ ?_; intros
      refine x_held [(61, b2, .c 44 [.v (.slice a3 r.1.vals.length c3), .v (.slice a4 r.1.ps.length c4)]), (0, b0, .c 107 [.v (.slice ad1 s.vals.length cap1), .v (.slice ad2 s.ps.length cap2), .v (.int .u64 (msk S.contains l.length : Nat))])] rfl (by rw [hP]; kernel_rfl) rfl rfl rfl ?_; refine st_ ?_
      refine h_take 0 rfl (by kernel_rfl) (by kernel_rfl) (by kernel_rfl) hQp (by rw [hnt]; rfl) (allIn (by repeat (first | exact trivial | refine ⟨rfl, ?_⟩))) (by first | exact Le.refl _ | assumption) (quiet_op (by rw [hty]; first | rfl | (refine st_ ?_; rfl))) ?_; refine st_ ?_
      refine h_take 1 rfl (by kernel_rfl) (by kernel_rfl) (by kernel_rfl) hQp (by rw [hnt]; rfl) (allIn (by repeat (first | exact trivial | refine ⟨rfl, ?_⟩))) (by first | exact Le.refl _ | assumption) (quiet_op (by rw [hty]; first | rfl | (refine st_ ?_; rfl))) ?_; refine st_ ?_
      refine h_take 2 rfl (by kernel_rfl) (by kernel_rfl) (by kernel_rfl) hQp (by rw [hnt]; rfl) (allIn (by repeat (first | exact trivial | refine ⟨rfl, ?_⟩))) (by first | exact Le.refl _ | assumption) (quiet_op (by rw [hty]; first | rfl | (refine st_ ?_; rfl))) ?_; refine st_ ?_
      refine h_take 3 rfl (by kernel_rfl) (by kernel_rfl) (by kernel_rfl) hQp (by rw [hnt]; rfl) (allIn (by repeat (first | exact trivial | refine ⟨rfl, ?_⟩))) (by first | exact Le.refl _ | assumption) (quiet_op (by rw [hty]; first | rfl | (refine st_ ?_; rfl))) ?_; refine st_ ?_
      refine h_take 4 rfl (by kernel_rfl) (by kernel_rfl) (by kernel_rfl) hQp (by rw [hnt]; rfl) (allIn (by repeat (first | exact trivial | refine ⟨rfl, ?_⟩))) (by first | exact Le.refl _ | assumption) (x := .v (.int .u64 ((2 ^ i : Nat) : Int))) ((quiet_bin rfl rfl rfl rfl (shl_ok (by omega))).cast (by rw [u64shl i (by omega)]; rfl)) ?_
      refine st_ ?_
      refine h_take 5 rfl (by kernel_rfl) (by kernel_rfl) (by kernel_rfl) hQp (by rw [hnt]; rfl) (allIn (by repeat (first | exact trivial | refine ⟨rfl, ?_⟩))) (by first | exact Le.refl _ | assumption) (x := .v (.int .u64 (msk (S ++ [i]).contains l.length : Nat))) ((quiet_bin rfl rfl rfl rfl rfl).cast (by rw [u64or _ _ h1 h3, hadd]; rfl)) ?_
      refine st_ ?_
      refine h_take 6 rfl (by kernel_rfl) (by kernel_rfl) (by kernel_rfl) hQp (by rw [hnt]; rfl) (allIn (by repeat (first | exact trivial | refine ⟨rfl, ?_⟩))) (by first | exact Le.refl _ | assumption) (quiet_op (by rw [hty]; first | rfl | (refine st_ ?_; rfl))) ?_; refine st_ ?_
      refine h_one 7 rfl (by kernel_rfl) ?_
      refine rn_ ?_; intros
      refine h_hs (allIn (by repeat (first | exact trivial | refine ⟨rfl, ?_⟩))) (by first | exact Le.refl _ | assumption) ?_
      refine h_one 8 rfl (by kernel_rfl) ?_
      refine rn_ ?_; intros
      refine h_hs (allIn (by repeat (first | exact trivial | refine ⟨rfl, ?_⟩))) (by first | exact Le.refl _ | assumption) ?_
      refine h_end (by kernel_rfl) ?_
      refine rn_ ?_; intros
      refine x_retc rfl hQ hmb rfl (by rw [hty]; simp only [so, sq, zy, zz, tyE, SO', SQ', opQ, opStore, opAlloc, ev, putS, dOk, cv, SV.cs, SV.one, SV.bool?, eqB, Value.oneCell', ldOwn, binInt, binConst, binBool, binStr, isC, TK.agg, rv, rv1, ldV, resOne, resV, Nat.reduceAdd, Nat.reduceMul, Nat.reduceSub, Nat.reduceLT, Nat.reduceLeDiff, Nat.reduceEqDiff, Nat.reduceBEq, reduceIte, reduceCtorEq, eq_self]; try rfl) rfl ?_; simp only [SV.den, resV, dens]
      exact ⟨_, _, rfl, ⟨Rp.S_mono hle4 hS3, hS4⟩, fun ad n c h => by cases h; exact hc3⟩
    rw [hdn, Bool.not_true, Bool.false_or] at hQ
    (refine go_qsplit rfl rfl (fun _ => ?_) (fun hc => absurd hc (by simp)); refine st_ ?_; (try (refine runq 400 hty hnt ?_; refine st_ ?_)))
    refine q_q (v := .slice (some ⟨bl1, ol1, none⟩) l.length capl) (by rw [hnt]; rfl) ((quiet_load (vs := [.slice (some ⟨bl1, ol1, none⟩) l.length capl]) (by rw [hty]; rfl) rfl (by simp [TK.agg]) (hbl.mono hle04) rfl).cast (by rfl)) ?_
    refine runq 400 hty hnt ?_; refine st_ ?_
    refine q_q (by rw [hnt]; rfl) (quiet_index (by rw [hty]; rfl) (by rw [hty]; rfl) rfl rfl rfl (by omega) (by omega)) ?_; refine runq 400 hty hnt ?_; refine st_ ?_
    obtain ⟨asx, csx, rfl⟩ := VT.rep_slice hor.r
    refine q_q (v := .agg #[.int .i64 l[i].res.k, .int .i64 l[i].res.n, .slice asx l[i].res.l.length csx]) (by rw [hnt]; rfl) ((quiet_load (by rw [hty]; rfl) rfl (fun q => by cases q) (by simpa using opAt5 (hato.mono hle04)) rfl).cast (by simp only [ldV]; rfl)) ?_
    refine runq 400 hty hnt ?_; refine st_ ?_
    refine q_callf (by rw [hnt]; rfl) (by rw [hP]; kernel_rfl) rfl (hP ▸ same_ok r.2.1 l[i].res _ _ _ (VT.rep_mono (hle3.trans hle4) hrr) (VT.rep_mono hle04 hor.r)) ?_; refine runq 400 hty hnt ?_; refine st_ ?_
    refine q_end ?_; refine rn_ ?_; intros
    rw [show (sml r.2.1 && sml l[i].res && veq r.2.1 l[i].res) = vsm r.2.1 l[i].res from rfl]
    cases hsm : vsm r.2.1 l[i].res
    · rw [hsm] at hQ
      (refine x_split rfl rfl rfl (fun _ => ?_) (fun hc => absurd hc (by first | decide +kernel | (simp; first | done | fail))); refine st_ ?_; (refine ru_ ?_; intros))
      refine rn_ ?_; intros
      refine x_retc rfl hQ hmb rfl (by rw [hty]; simp only [so, sq, zy, zz, tyE, SO', SQ', opQ, opStore, opAlloc, ev, putS, dOk, cv, SV.cs, SV.one, SV.bool?, eqB, Value.oneCell', ldOwn, binInt, binConst, binBool, binStr, isC, TK.agg, rv, rv1, ldV, resOne, resV, Nat.reduceAdd, Nat.reduceMul, Nat.reduceSub, Nat.reduceLT, Nat.reduceLeDiff, Nat.reduceEqDiff, Nat.reduceBEq, reduceIte, reduceCtorEq, eq_self]; try rfl) rfl ?_; simp only [SV.den, resV, dens]
      rfl
    rw [hsm, if_pos rfl] at hQ
    (refine x_split rfl rfl rfl (fun hc => absurd hc (by first | decide +kernel | (simp; first | done | fail))) (fun _ => ?_); refine st_ ?_; (refine ru_ ?_; intros))
    refine go_keep [1, 5, 7, 8, 9, 61] [0, 1, 61] ?_
    refine st_ ?_
    refine rn_ ?_; intros
    refine x_held [(61, b2, .c 44 [.v (.slice a3 r.1.vals.length c3), .v (.slice a4 r.1.ps.length c4)]), (0, b0, .c 107 [.v (.slice ad1 s.vals.length cap1), .v (.slice ad2 s.ps.length cap2), .v (.int .u64 (msk S.contains l.length : Nat))])] rfl (by rw [hP]; kernel_rfl) rfl rfl rfl ?_; refine st_ ?_
    refine h_take 0 rfl (by kernel_rfl) (by kernel_rfl) (by kernel_rfl) hQp (by rw [hnt]; rfl) (allIn (by repeat (first | exact trivial | refine ⟨rfl, ?_⟩))) (by first | exact Le.refl _ | assumption) (quiet_op (by rw [hty]; first | rfl | (refine st_ ?_; rfl))) ?_; refine st_ ?_
    refine h_take 1 rfl (by kernel_rfl) (by kernel_rfl) (by kernel_rfl) hQp (by rw [hnt]; rfl) (allIn (by repeat (first | exact trivial | refine ⟨rfl, ?_⟩))) (by first | exact Le.refl _ | assumption) (quiet_op (by rw [hty]; first | rfl | (refine st_ ?_; rfl))) ?_; refine st_ ?_
    refine h_take 2 rfl (by kernel_rfl) (by kernel_rfl) (by kernel_rfl) hQp (by rw [hnt]; rfl) (allIn (by repeat (first | exact trivial | refine ⟨rfl, ?_⟩))) (by first | exact Le.refl _ | assumption) (quiet_op (by rw [hty]; first | rfl | (refine st_ ?_; rfl))) ?_; refine st_ ?_
    refine h_take 3 rfl (by kernel_rfl) (by kernel_rfl) (by kernel_rfl) hQp (by rw [hnt]; rfl) (allIn (by repeat (first | exact trivial | refine ⟨rfl, ?_⟩))) (by first | exact Le.refl _ | assumption) (quiet_op (by rw [hty]; first | rfl | (refine st_ ?_; rfl))) ?_; refine st_ ?_
    refine h_take 4 rfl (by kernel_rfl) (by kernel_rfl) (by kernel_rfl) hQp (by rw [hnt]; rfl) (allIn (by repeat (first | exact trivial | refine ⟨rfl, ?_⟩))) (by first | exact Le.refl _ | assumption) (x := .v (.int .u64 ((2 ^ i : Nat) : Int))) ((quiet_bin rfl rfl rfl rfl (shl_ok (by omega))).cast (by rw [u64shl i (by omega)]; rfl)) ?_
    refine st_ ?_
    refine h_take 5 rfl (by kernel_rfl) (by kernel_rfl) (by kernel_rfl) hQp (by rw [hnt]; rfl) (allIn (by repeat (first | exact trivial | refine ⟨rfl, ?_⟩))) (by first | exact Le.refl _ | assumption) (x := .v (.int .u64 (msk (S ++ [i]).contains l.length : Nat))) ((quiet_bin rfl rfl rfl rfl rfl).cast (by rw [u64or _ _ h1 h3, hadd]; rfl)) ?_
    refine st_ ?_
    refine h_take 6 rfl (by kernel_rfl) (by kernel_rfl) (by kernel_rfl) hQp (by rw [hnt]; rfl) (allIn (by repeat (first | exact trivial | refine ⟨rfl, ?_⟩))) (by first | exact Le.refl _ | assumption) (quiet_op (by rw [hty]; first | rfl | (refine st_ ?_; rfl))) ?_; refine st_ ?_
    refine h_one 7 rfl (by kernel_rfl) ?_
    refine rn_ ?_; intros
    refine h_hs (allIn (by repeat (first | exact trivial | refine ⟨rfl, ?_⟩))) (by first | exact Le.refl _ | assumption) ?_
    refine h_one 8 rfl (by kernel_rfl) ?_
    refine rn_ ?_; intros
    refine h_hs (allIn (by repeat (first | exact trivial | refine ⟨rfl, ?_⟩))) (by first | exact Le.refl _ | assumption) ?_
    refine h_end (by kernel_rfl) ?_
    refine rn_ ?_; intros
    refine x_retc rfl hQ hmb rfl (by rw [hty]; simp only [so, sq, zy, zz, tyE, SO', SQ', opQ, opStore, opAlloc, ev, putS, dOk, cv, SV.cs, SV.one, SV.bool?, eqB, Value.oneCell', ldOwn, binInt, binConst, binBool, binStr, isC, TK.agg, rv, rv1, ldV, resOne, resV, Nat.reduceAdd, Nat.reduceMul, Nat.reduceSub, Nat.reduceLT, Nat.reduceLeDiff, Nat.reduceEqDiff, Nat.reduceBEq, reduceIte, reduceCtorEq, eq_self]; try rfl) rfl ?_; simp only [SV.den, resV, dens]
    exact ⟨_, _, rfl, ⟨Rp.S_mono hle4 hS3, hS4⟩, fun ad n c h => by cases h; exact hc3⟩
  · refine rn_ ?_; intros
    refine h_hs (allIn (by repeat (first | exact trivial | refine ⟨rfl, ?_⟩))) (by first | exact Le.refl _ | assumption) ?_
    refine h_one 6 rfl (by kernel_rfl) ?_
    refine go_callWv [61, 70, 60] (f := f) (cap := []) (by rw [hnt]; rfl) (hP ▸ he.can) rfl rfl rfl rfl rfl (.inl (by intro k hk; omega)) (hP ▸ he.run s l[i] sa sr b2 _ G1 G1 (Le.refl _) ⟨_, _, bz, Zv, 0, cs, xs, rfl, hcs, hL, by omega, by omega⟩ (hor.mono hle1) (by omega) (by omega) hwf) ?_
    rintro v G2 ow' (hle2 : Le G1 G2) ⟨slr, rfl, hrr, hrb, vv, pv, bz2, Z2, bp2, xs2, ys2, rfl, hL2, hM2, hn1, hn2⟩
    simp only [setO]
    refine st_ ?_
    refine go_qval 70 rfl ?_
    rintro a3 c3 rfl hc3 _ _
    refine go_rowS 60 rfl ?_
    rintro a4 c4 rfl
    obtain ⟨asr, csr, rfl⟩ := VT.rep_slice hrr
    refine rn_ ?_; intros
    refine h_hs (allIn (by repeat (first | exact trivial | refine ⟨rfl, ?_⟩))) (by first | exact Le.refl _ | assumption) ?_
    refine h_take 7 rfl (by kernel_rfl) (by kernel_rfl) (by kernel_rfl) hQp (by rw [hnt]; rfl) (allIn (by repeat (first | exact trivial | refine ⟨rfl, ?_⟩))) (by first | exact Le.refl _ | assumption) (quiet_op (by rw [hty]; first | rfl | (refine st_ ?_; rfl))) ?_; refine st_ ?_
    refine h_take 8 rfl (by kernel_rfl) (by kernel_rfl) (by kernel_rfl) hQp (by rw [hnt]; rfl) (allIn (by repeat (first | exact trivial | refine ⟨rfl, ?_⟩))) (by first | exact Le.refl _ | assumption) (quiet_op (by rw [hty]; first | rfl | (refine st_ ?_; rfl))) ?_; refine st_ ?_
    refine h_take 9 rfl (by kernel_rfl) (by kernel_rfl) (by kernel_rfl) hQp (by rw [hnt]; rfl) (allIn (by repeat (first | exact trivial | refine ⟨rfl, ?_⟩))) (by first | exact Le.refl _ | assumption) (quiet_op (by rw [hty]; first | rfl | (refine st_ ?_; rfl))) ?_; refine st_ ?_
    refine h_one 11 rfl (by kernel_rfl) ?_
    refine rn_ ?_; intros
    refine h_hs (allIn (by repeat (first | exact trivial | refine ⟨rfl, ?_⟩))) (by first | exact Le.refl _ | assumption) ?_
    refine h_one 12 rfl (by kernel_rfl) ?_
    refine rn_ ?_; intros
    refine h_hs (allIn (by repeat (first | exact trivial | refine ⟨rfl, ?_⟩))) (by first | exact Le.refl _ | assumption) ?_
    refine h_end (by kernel_rfl) ?_
    refine go_keep [1, 4, 5, 7, 8, 9, 10, 11] [0, 1, 60, 61, 70, 71] ?_
    refine st_ ?_
    generalize hrr0 : doP m s l[i] = r at *
    refine go_qpub rV 70 rfl hle2 (by omega) rfl (by omega) hL2 ?_
    intro G3 (hle3 : Le G2 G3) hS3
    refine st_ ?_
    refine go_pubL rPo 60 rfl (by omega) rfl (by omega) (Rp.L_mono hle3 hM2) ?_
    intro G4 ad4 cap4 (hle4 : Le G3 G4) he4 hS4
    rw [← he4] at hS4
    refine st_ ?_
    have hle04 : Le G G4 := hle1.trans (hle2.trans (hle3.trans hle4))
    rename_i bv
    refine rn_ ?_; intros
    refine x_draw rfl (by rw [hP]; kernel_rfl) rfl (by kernel_rfl) ?_
    refine runq 400 hty hnt ?_; refine st_ ?_
    have hT : tellP m s l[i] = if r.2.2 && (!l[i].dn || vsm r.2.1 l[i].res) then some r.1 else none := by rw [tellP, hrr0]
    rw [hT] at hQ
    cases hcan : r.2.2
    · rw [hcan] at hQ
      (refine go_qsplit rfl rfl (fun _ => ?_) (fun hc => absurd hc (by simp)); refine st_ ?_; (try (refine runq 400 hty hnt ?_; refine st_ ?_)))
      repeat (refine q_gundef rfl (by rw [hnt]; rfl) rfl ?_; (refine st_ ?_; (try (refine runq 400 hty hnt ?_; refine st_ ?_))))
      refine q_end ?_; refine rn_ ?_; intros
      refine rn_ ?_; intros
      refine x_retc rfl hQ hmb rfl (by rw [hty]; simp only [so, sq, zy, zz, tyE, SO', SQ', opQ, opStore, opAlloc, ev, putS, dOk, cv, SV.cs, SV.one, SV.bool?, eqB, Value.oneCell', ldOwn, binInt, binConst, binBool, binStr, isC, TK.agg, rv, rv1, ldV, resOne, resV, Nat.reduceAdd, Nat.reduceMul, Nat.reduceSub, Nat.reduceLT, Nat.reduceLeDiff, Nat.reduceEqDiff, Nat.reduceBEq, reduceIte, reduceCtorEq, eq_self]; try rfl) rfl ?_; simp only [SV.den, resV, dens]
      rfl
    rw [hcan, Bool.true_and] at hQ
    (refine go_qsplit rfl rfl (fun hc => absurd hc (by simp)) (fun _ => ?_); refine st_ ?_; (try (refine runq 400 hty hnt ?_; refine st_ ?_)))
    refine q_q (v := .slice (some ⟨bl1, ol1, none⟩) l.length capl) (by rw [hnt]; rfl) ((quiet_load (vs := [.slice (some ⟨bl1, ol1, none⟩) l.length capl]) (by rw [hty]; rfl) rfl (by simp [TK.agg]) (hbl.mono hle04) rfl).cast (by rfl)) ?_
    refine runq 400 hty hnt ?_; refine st_ ?_
    refine q_q (by rw [hnt]; rfl) (quiet_index (by rw [hty]; rfl) (by rw [hty]; rfl) rfl rfl rfl (by omega) (by omega)) ?_; refine runq 400 hty hnt ?_; refine st_ ?_
    refine q_q (v := .bool l[i].dn) (by rw [hnt]; rfl) ((quiet_load (vs := [.bool l[i].dn]) (by rw [hty]; rfl) rfl (by simp [TK.agg]) (by simpa [opL] using (hato.mono hle04).sub 10 1 (by simp [opL])) rfl).cast (by rfl)) ?_
    refine runq 400 hty hnt ?_; refine st_ ?_
    cases hdn : l[i].dn
    · rw [hdn, Bool.not_false, Bool.true_or, if_pos rfl] at hQ
      (refine go_qsplit rfl rfl (fun hc => absurd hc (by simp)) (fun _ => ?_); refine st_ ?_; (try (refine runq 400 hty hnt ?_; refine st_ ?_)))
      repeat (refine q_gundef rfl (by rw [hnt]; rfl) rfl ?_; (refine st_ ?_; (try (refine runq 400 hty hnt ?_; refine st_ ?_))))
      refine q_end ?_; refine rn_ ?_; intros
      refine go_keep [1, 5, 7, 8, 9, 61] [0, 1, 61] ?_
      refine st_ ?_
      refine rn_ ?_; intros
      refine x_held [(61, b2, .c 44 [.v (.slice a3 r.1.vals.length c3), .v (.slice a4 r.1.ps.length c4)]), (0, b0, .c 107 [.v (.slice ad1 s.vals.length cap1), .v (.slice ad2 s.ps.length cap2), .v (.int .u64 (msk S.contains l.length : Nat))])] rfl (by rw [hP]; kernel_rfl) rfl rfl rfl ?_; refine st_ ?_
      refine h_take 0 rfl (by kernel_rfl) (by kernel_rfl) (by kernel_rfl) hQp (by rw [hnt]; rfl) (allIn (by repeat (first | exact trivial | refine ⟨rfl, ?_⟩))) (by first | exact Le.refl _ | assumption) (quiet_op (by rw [hty]; first | rfl | (refine st_ ?_; rfl))) ?_; refine st_ ?_
      refine h_take 1 rfl (by kernel_rfl) (by kernel_rfl) (by kernel_rfl) hQp (by rw [hnt]; rfl) (allIn (by repeat (first | exact trivial | refine ⟨rfl, ?_⟩))) (by first | exact Le.refl _ | assumption) (quiet_op (by rw [hty]; first | rfl | (refine st_ ?_; rfl))) ?_; refine st_ ?_
      refine h_take 2 rfl (by kernel_rfl) (by kernel_rfl) (by kernel_rfl) hQp (by rw [hnt]; rfl) (allIn (by repeat (first | exact trivial | refine ⟨rfl, ?_⟩))) (by first | exact Le.refl _ | assumption) (quiet_op (by rw [hty]; first | rfl | (refine st_ ?_; rfl))) ?_; refine st_ ?_
      refine h_take 3 rfl (by kernel_rfl) (by kernel_rfl) (by kernel_rfl) hQp (by rw [hnt]; rfl) (allIn (by repeat (first | exact trivial | refine ⟨rfl, ?_⟩))) (by first | exact Le.refl _ | assumption) (quiet_op (by rw [hty]; first | rfl | (refine st_ ?_; rfl))) ?_; refine st_ ?_
      refine h_take 4 rfl (by kernel_rfl) (by kernel_rfl) (by kernel_rfl) hQp (by rw [hnt]; rfl) (allIn (by repeat (first | exact trivial | refine ⟨rfl, ?_⟩))) (by first | exact Le.refl _ | assumption) (x := .v (.int .u64 ((2 ^ i : Nat) : Int))) ((quiet_bin rfl rfl rfl rfl (shl_ok (by omega))).cast (by rw [u64shl i (by omega)]; rfl)) ?_
      refine st_ ?_
      refine h_take 5 rfl (by kernel_rfl) (by kernel_rfl) (by kernel_rfl) hQp (by rw [hnt]; rfl) (allIn (by repeat (first | exact trivial | refine ⟨rfl, ?_⟩))) (by first | exact Le.refl _ | assumption) (x := .v (.int .u64 (msk (S ++ [i]).contains l.length : Nat))) ((quiet_bin rfl rfl rfl rfl rfl).cast (by rw [u64or _ _ h1 h3, hadd]; rfl)) ?_
      refine st_ ?_
      refine h_take 6 rfl (by kernel_rfl) (by kernel_rfl) (by kernel_rfl) hQp (by rw [hnt]; rfl) (allIn (by repeat (first | exact trivial | refine ⟨rfl, ?_⟩))) (by first | exact Le.refl _ | assumption) (quiet_op (by rw [hty]; first | rfl | (refine st_ ?_; rfl))) ?_; refine st_ ?_
      refine h_one 7 rfl (by kernel_rfl) ?_
      refine rn_ ?_; intros
      refine h_hs (allIn (by repeat (first | exact trivial | refine ⟨rfl, ?_⟩))) (by first | exact Le.refl _ | assumption) ?_
      refine h_one 8 rfl (by kernel_rfl) ?_
      refine rn_ ?_; intros
      refine h_hs (allIn (by repeat (first | exact trivial | refine ⟨rfl, ?_⟩))) (by first | exact Le.refl _ | assumption) ?_
      refine h_end (by kernel_rfl) ?_
      refine rn_ ?_; intros
      refine x_retc rfl hQ hmb rfl (by rw [hty]; simp only [so, sq, zy, zz, tyE, SO', SQ', opQ, opStore, opAlloc, ev, putS, dOk, cv, SV.cs, SV.one, SV.bool?, eqB, Value.oneCell', ldOwn, binInt, binConst, binBool, binStr, isC, TK.agg, rv, rv1, ldV, resOne, resV, Nat.reduceAdd, Nat.reduceMul, Nat.reduceSub, Nat.reduceLT, Nat.reduceLeDiff, Nat.reduceEqDiff, Nat.reduceBEq, reduceIte, reduceCtorEq, eq_self]; try rfl) rfl ?_; simp only [SV.den, resV, dens]
      exact ⟨_, _, rfl, ⟨Rp.S_mono hle4 hS3, hS4⟩, fun ad n c h => by cases h; exact hc3⟩
    rw [hdn, Bool.not_true, Bool.false_or] at hQ
    (refine go_qsplit rfl rfl (fun _ => ?_) (fun hc => absurd hc (by simp)); refine st_ ?_; (try (refine runq 400 hty hnt ?_; refine st_ ?_)))
    refine q_q (v := .slice (some ⟨bl1, ol1, none⟩) l.length capl) (by rw [hnt]; rfl) ((quiet_load (vs := [.slice (some ⟨bl1, ol1, none⟩) l.length capl]) (by rw [hty]; rfl) rfl (by simp [TK.agg]) (hbl.mono hle04) rfl).cast (by rfl)) ?_
    refine runq 400 hty hnt ?_; refine st_ ?_
    refine q_q (by rw [hnt]; rfl) (quiet_index (by rw [hty]; rfl) (by rw [hty]; rfl) rfl rfl rfl (by omega) (by omega)) ?_; refine runq 400 hty hnt ?_; refine st_ ?_
    obtain ⟨asx, csx, rfl⟩ := VT.rep_slice hor.r
    refine q_q (v := .agg #[.int .i64 l[i].res.k, .int .i64 l[i].res.n, .slice asx l[i].res.l.length csx]) (by rw [hnt]; rfl) ((quiet_load (by rw [hty]; rfl) rfl (fun q => by cases q) (by simpa using opAt5 (hato.mono hle04)) rfl).cast (by simp only [ldV]; rfl)) ?_
    refine runq 400 hty hnt ?_; refine st_ ?_
    refine q_callf (by rw [hnt]; rfl) (by rw [hP]; kernel_rfl) rfl (hP ▸ same_ok r.2.1 l[i].res _ _ _ (VT.rep_mono (hle3.trans hle4) hrr) (VT.rep_mono hle04 hor.r)) ?_; refine runq 400 hty hnt ?_; refine st_ ?_
    refine q_end ?_; refine rn_ ?_; intros
    rw [show (sml r.2.1 && sml l[i].res && veq r.2.1 l[i].res) = vsm r.2.1 l[i].res from rfl]
    cases hsm : vsm r.2.1 l[i].res
    · rw [hsm] at hQ
      (refine x_split rfl rfl rfl (fun _ => ?_) (fun hc => absurd hc (by first | decide +kernel | (simp; first | done | fail))); refine st_ ?_; (refine ru_ ?_; intros))
      refine rn_ ?_; intros
      refine x_retc rfl hQ hmb rfl (by rw [hty]; simp only [so, sq, zy, zz, tyE, SO', SQ', opQ, opStore, opAlloc, ev, putS, dOk, cv, SV.cs, SV.one, SV.bool?, eqB, Value.oneCell', ldOwn, binInt, binConst, binBool, binStr, isC, TK.agg, rv, rv1, ldV, resOne, resV, Nat.reduceAdd, Nat.reduceMul, Nat.reduceSub, Nat.reduceLT, Nat.reduceLeDiff, Nat.reduceEqDiff, Nat.reduceBEq, reduceIte, reduceCtorEq, eq_self]; try rfl) rfl ?_; simp only [SV.den, resV, dens]
      rfl
    rw [hsm, if_pos rfl] at hQ
    (refine x_split rfl rfl rfl (fun hc => absurd hc (by first | decide +kernel | (simp; first | done | fail))) (fun _ => ?_); refine st_ ?_; (refine ru_ ?_; intros))
    refine go_keep [1, 5, 7, 8, 9, 61] [0, 1, 61] ?_
    refine st_ ?_
    refine rn_ ?_; intros
    refine x_held [(61, b2, .c 44 [.v (.slice a3 r.1.vals.length c3), .v (.slice a4 r.1.ps.length c4)]), (0, b0, .c 107 [.v (.slice ad1 s.vals.length cap1), .v (.slice ad2 s.ps.length cap2), .v (.int .u64 (msk S.contains l.length : Nat))])] rfl (by rw [hP]; kernel_rfl) rfl rfl rfl ?_; refine st_ ?_
    refine h_take 0 rfl (by kernel_rfl) (by kernel_rfl) (by kernel_rfl) hQp (by rw [hnt]; rfl) (allIn (by repeat (first | exact trivial | refine ⟨rfl, ?_⟩))) (by first | exact Le.refl _ | assumption) (quiet_op (by rw [hty]; first | rfl | (refine st_ ?_; rfl))) ?_; refine st_ ?_
    refine h_take 1 rfl (by kernel_rfl) (by kernel_rfl) (by kernel_rfl) hQp (by rw [hnt]; rfl) (allIn (by repeat (first | exact trivial | refine ⟨rfl, ?_⟩))) (by first | exact Le.refl _ | assumption) (quiet_op (by rw [hty]; first | rfl | (refine st_ ?_; rfl))) ?_; refine st_ ?_
    refine h_take 2 rfl (by kernel_rfl) (by kernel_rfl) (by kernel_rfl) hQp (by rw [hnt]; rfl) (allIn (by repeat (first | exact trivial | refine ⟨rfl, ?_⟩))) (by first | exact Le.refl _ | assumption) (quiet_op (by rw [hty]; first | rfl | (refine st_ ?_; rfl))) ?_; refine st_ ?_
    refine h_take 3 rfl (by kernel_rfl) (by kernel_rfl) (by kernel_rfl) hQp (by rw [hnt]; rfl) (allIn (by repeat (first | exact trivial | refine ⟨rfl, ?_⟩))) (by first | exact Le.refl _ | assumption) (quiet_op (by rw [hty]; first | rfl | (refine st_ ?_; rfl))) ?_; refine st_ ?_
    refine h_take 4 rfl (by kernel_rfl) (by kernel_rfl) (by kernel_rfl) hQp (by rw [hnt]; rfl) (allIn (by repeat (first | exact trivial | refine ⟨rfl, ?_⟩))) (by first | exact Le.refl _ | assumption) (x := .v (.int .u64 ((2 ^ i : Nat) : Int))) ((quiet_bin rfl rfl rfl rfl (shl_ok (by omega))).cast (by rw [u64shl i (by omega)]; rfl)) ?_
    refine st_ ?_
    refine h_take 5 rfl (by kernel_rfl) (by kernel_rfl) (by kernel_rfl) hQp (by rw [hnt]; rfl) (allIn (by repeat (first | exact trivial | refine ⟨rfl, ?_⟩))) (by first | exact Le.refl _ | assumption) (x := .v (.int .u64 (msk (S ++ [i]).contains l.length : Nat))) ((quiet_bin rfl rfl rfl rfl rfl).cast (by rw [u64or _ _ h1 h3, hadd]; rfl)) ?_
    refine st_ ?_
    refine h_take 6 rfl (by kernel_rfl) (by kernel_rfl) (by kernel_rfl) hQp (by rw [hnt]; rfl) (allIn (by repeat (first | exact trivial | refine ⟨rfl, ?_⟩))) (by first | exact Le.refl _ | assumption) (quiet_op (by rw [hty]; first | rfl | (refine st_ ?_; rfl))) ?_; refine st_ ?_
    refine h_one 7 rfl (by kernel_rfl) ?_
    refine rn_ ?_; intros
    refine h_hs (allIn (by repeat (first | exact trivial | refine ⟨rfl, ?_⟩))) (by first | exact Le.refl _ | assumption) ?_
    refine h_one 8 rfl (by kernel_rfl) ?_
    refine rn_ ?_; intros
    refine h_hs (allIn (by repeat (first | exact trivial | refine ⟨rfl, ?_⟩))) (by first | exact Le.refl _ | assumption) ?_
    refine h_end (by kernel_rfl) ?_
    refine rn_ ?_; intros
    refine x_retc rfl hQ hmb rfl (by rw [hty]; simp only [so, sq, zy, zz, tyE, SO', SQ', opQ, opStore, opAlloc, ev, putS, dOk, cv, SV.cs, SV.one, SV.bool?, eqB, Value.oneCell', ldOwn, binInt, binConst, binBool, binStr, isC, TK.agg, rv, rv1, ldV, resOne, resV, Nat.reduceAdd, Nat.reduceMul, Nat.reduceSub, Nat.reduceLT, Nat.reduceLeDiff, Nat.reduceEqDiff, Nat.reduceBEq, reduceIte, reduceCtorEq, eq_self]; try rfl) rfl ?_; simp only [SV.den, resV, dens]
    exact ⟨_, _, rfl, ⟨Rp.S_mono hle4 hS3, hS4⟩, fun ad n c h => by cases h; exact hc3⟩
end Go.Proofs.Ytpmmbjcgabnloaa
namespace Go.Proofs.Ytpmmbjcgabnloaa
set_option linter.unusedSimpArgs false
set_option linter.unusedVariables false
open Go.Sx
set_option maxHeartbeats 8000000
set_option maxRecDepth 20000
structure MS.inv (m : Int) (s : MS) : Prop where
  vd : s.vd
  wf : s.wf
  np : m ≠ 4 → s.ps = []
theorem inv_do {m : Int} {s : MS} {o : Op} (h : s.inv m) (hr : rgtO (kns m) o = true) : (doP m s o).1.inv m := by
  obtain ⟨ha, hb⟩ := rgt_vld hr
  refine ⟨(do_vd h.vd ha hb).vd, ?_, ?_⟩
  · by_cases h4 : m = 4
    · subst h4
      show (castP s o).1.wf
      rw [castP]
      split
      · split
        · exact h.wf
        · intro p hp
          rcases List.mem_append.1 hp with hp | hp
          · exact h.wf p hp
          · simp at hp; subst hp; simp
      · split
        · intro p hp
          have := h.wf p hp
          simp; omega
        · split
          · exact h.wf
          · rename_i i hi
            have hil := (pix_lt hi).2
            have hg : s.ps.getD i ⟨noneV, 0⟩ = s.ps[i]'(by omega) := by rw [List.getD_eq_getElem?_getD, List.getElem?_eq_getElem (by omega)]; rfl
            split
            · exact h.wf
            · rename_i hlt
              intro p hp
              rcases List.mem_or_eq_of_mem_set hp with hp | hp
              · exact h.wf p hp
              · subst hp
                rw [hg] at hlt ⊢
                have := h.wf s.ps[i] (List.getElem_mem _)
                simp; omega
    · have hps : (doP m s o).1.ps = [] := by
        have h0 := h.np h4
        have hbx : (boxP s o).1.ps = [] := by
          rw [boxP]
          split
          · exact h0
          · split <;> exact h0
        rw [doP]
        split
        · rw [varP]; split <;> split <;> exact h0
        split
        · rw [slotP]; split
          · exact h0
          · exact hbx
        split
        · exact hbx
        · rename_i h1 h2 h3
          rcases rgt_cases hr with q | q | q | q <;> omega
      intro p hp
      rw [hps] at hp; cases hp
  · intro h4
    have h0 := h.np h4
    have hbx : (boxP s o).1.ps = [] := by
      rw [boxP]
      split
      · exact h0
      · split <;> exact h0
    rw [doP]
    split
    · rw [varP]; split <;> split <;> exact h0
    split
    · rw [slotP]; split
      · exact h0
      · exact hbx
    split
    · exact hbx
    · rename_i h1 h2 h3
      rcases rgt_cases hr with q | q | q | q <;> omega
theorem next_some {m : Int} {l : List Op} {s t : MS} {S : List Nat} {i : Nat} (h : nextP m l s S i = some t) : ∃ hi : i < l.length, S.contains i = false ∧ t = (doP m s l[i]).1 := by
  have hn := next_not h
  rw [nextP] at h
  split at h
  · split at h
    · rename_i o ho
      obtain ⟨hi, rfl⟩ := List.getElem?_eq_some_iff.1 ho
      rw [tellP] at h
      split at h
      · cases h; exact ⟨hi, hn, rfl⟩
      · cases h
    · cases h
  · cases h
def srRet (r : Option (List Nat)) (v : Value) (G : Hp) : Prop := match r with
  | none => v = .tuple #[.slice none 0 0, .bool false]
  | some p => ∃ sl, v = .tuple #[sl, .bool true] ∧ rI.S G (p.map fun i : Nat => (i : Int)) sl
theorem srch_len {m : Int} {l : List Op} : ∀ {f : Nat} {s : MS} {S p : List Nat}, srch m l f s S = some p → p.length ≤ f ∧ ∀ i ∈ p, i < l.length
  | 0, s, S, p, h => by
    rw [srch] at h
    split at h
    · cases h; exact ⟨by simp, fun i hi => by cases hi⟩
    · cases h
  | f + 1, s, S, p, h => by
    rw [srch] at h
    split at h
    · cases h; exact ⟨by simp, fun i hi => by cases hi⟩
    · obtain ⟨i, hi, he⟩ := List.exists_of_findSome?_eq_some h
      split at he
      · cases he
      · obtain ⟨q, hq, rfl⟩ := Option.map_eq_some_iff.1 he
        obtain ⟨h1, h2⟩ := srch_len hq
        refine ⟨by simp; omega, fun j hj => ?_⟩
        rcases List.mem_cons.1 hj with rfl | hj
        · simpa using hi
        · exact h2 j hj
structure LineOk (m K mo : Int) (pt : Bool) (f : Nat) (l : List Op) (sl : Value) (ba bh bf bl : Nat) (G : Hp) : Prop where
  n8 : l.length ≤ 8
  lr : rO.S G l sl
  rg : ∀ o ∈ l, rgtO K o = true
  al : At G ba 0 [.int .u64 (msk (dnA l) l.length : Nat)]
  ah : At G bh 0 (ahRow l)
  ef : At G bf 0 [.int .i64 K, .int .i64 mo, .bool pt, .func (.func f) #[] #[]]
  bl : At G bl 0 [sl]
theorem LineOk.mono {m K mo : Int} {pt : Bool} {f : Nat} {l : List Op} {sl : Value} {ba bh bf bl : Nat} {G G' : Hp} (h : LineOk m K mo pt f l sl ba bh bf bl G) (hl : Le G G') : LineOk m K mo pt f l sl ba bh bf bl G' :=
  ⟨h.n8, Rp.S_mono hl h.lr, h.rg, h.al.mono hl, h.ah.mono hl, h.ef.mono hl, h.bl.mono hl⟩
def endV (ba : Nat) : Value := .func (.func 51) #[] #[.pointer (some ⟨ba, 0, none⟩)]
def nextV (bh bf bl : Nat) : Value := .func (.func 52) #[] #[.pointer (some ⟨bh, 0, none⟩), .pointer (some ⟨bf, 0, none⟩), .pointer (some ⟨bl, 0, none⟩)]
theorem search_ok (m K mo : Int) (pt : Bool) (f : Nat) (he : EffOk m K mo pt f) (l : List Op) (sl : Value) (ba bh bf bl : Nat) : ∀ (fu : Nat) (s : MS) (S : List Nat) (sv sp : Value) (G : Hp), LineOk m K mo pt f l sl ba bh bf bl G → s.rep G sv sp → CapOk sv → s.inv m → s.vals.length + freeP l.length S ≤ 100 → s.ps.length + freeP l.length S ≤ 100 → freeP l.length S ≤ fu → fu ≤ 100 →
    Pure Try.prog 50 [plV sv sp (msk S.contains l.length), .int .i64 l.length, endV ba, nextV bh bf bl] G (srRet (srch m l fu s S)) := by
  intro fu
  induction fu using Nat.strongRecOn with
  | _ fu IH =>
  intro s S sv sp G hL hs hc hinv hb1 hb2 hfu hf2
  obtain ⟨ad1, cap1, rfl⟩ := Rp.S_slice hs.v
  obtain ⟨ad2, cap2, rfl⟩ := Rp.S_slice hs.p
  have hn8 := hL.n8
  have hst := srch_step m l (s := s) hfu
  refine enterX ty tyok Try.func50 rfl Try.ntmps50 [.a [.v (.slice ad1 s.vals.length cap1), .v (.slice ad2 s.ps.length cap2), .v (.int .u64 (msk S.contains l.length : Nat))], .v (.int .i64 l.length), .v (endV ba), .v (nextV bh bf bl)] (by simp) ?_
  intro C hP hQ hnt hty hmb hmh hro; have hQp := qp_body hQ; refine st_ ?_
  refine rn_ ?_; intros
  rename_i b0
  refine go_callw (cap := [.pointer (some ⟨ba, 0, none⟩)]) (by rw [hnt]; rfl) (by rw [hP]; kernel_rfl : canCall C.P 51 = true) rfl rfl rfl (hP ▸ ends_ok l S ad1 ad2 _ _ _ _ ba G hn8 hL.al) ?_
  rintro v G1 (hle1 : Le G G1) rfl
  refine rn_ ?_; intros
  refine x_if rfl rfl rfl rfl (fun hend => ?_) (fun hend => ?_)
  · rw [hend, if_pos rfl] at hst
    rw [hst] at hQ
    refine rn_ ?_; intros
    refine x_retc rfl hQ hmb rfl (by rw [hty]; simp only [so, sq, zy, zz, tyE, SO', SQ', opQ, opStore, opAlloc, ev, putS, dOk, cv, SV.cs, SV.one, SV.bool?, eqB, Value.oneCell', ldOwn, binInt, binConst, binBool, binStr, isC, TK.agg, rv, rv1, ldV, resOne, resV, Nat.reduceAdd, Nat.reduceMul, Nat.reduceSub, Nat.reduceLT, Nat.reduceLeDiff, Nat.reduceEqDiff, Nat.reduceBEq, reduceIte, reduceCtorEq, eq_self]; try rfl) rfl ?_; simp only [SV.den, resV, dens]
    exact ⟨_, rfl, Rp.S_nil _ _⟩
  rw [hend, if_neg (by decide)] at hst
  refine rn_ ?_; intros
  obtain ⟨g, hg⟩ : ∃ g : Nat → Option (List Nat), g = fun i => match nextP m l s S i with
      | none => none
      | some t => (srch m l (fu - 1) t (S ++ [i])).map (i :: ·) := ⟨_, rfl⟩
  have hst2 : srch m l fu s S = ((List.range l.length).drop 0).findSome? g := by rw [hst, hg, List.drop_zero]; try rfl
  clear hst
  refine go_keep [1, 2, 3, 4, 18, 19] [0] ?_
  refine st_ ?_
  refine x_loop rfl (fun q st => ∃ (k : Nat) (G' : Hp), k ≤ l.length ∧ q = l.length - k ∧ Le G G' ∧ srch m l fu s S = ((List.range l.length).drop k).findSome? g ∧
    st = ⟨[(1, .v (.int .i64 l.length)), (2, .v (endV ba)), (3, .v (nextV bh bf bl)), (4, .p 0 b0 0), (18, .v (.int .i64 l.length)), (19, .v (.int .i64 k))],
      [(0, b0, .c 107 [.v (.slice ad1 s.vals.length cap1), .v (.slice ad2 s.ps.length cap2), .v (.int .u64 (msk S.contains l.length : Nat))])], G', []⟩) ⟨0, G1, by omega, rfl, hle1, hst2, rfl⟩ ?_
  clear hst2
  rintro q st ⟨k, G2, hk, hq, hle2, hsr, rfl⟩ ih
  refine rn_ ?_; intros
  refine x_if rfl rfl rfl rfl (fun hjl => ?_) (fun hjl => ?_)
  · have hlt : k < l.length := by simp at hjl; omega
    have hd : (List.range l.length).drop k = k :: (List.range l.length).drop (k + 1) := by
      rw [List.drop_eq_getElem_cons (by simpa using hlt)]; simp
    rw [hd, List.findSome?_cons] at hsr
    refine rn_ ?_; intros
    refine go_callw (cap := [.pointer (some ⟨bh, 0, none⟩), .pointer (some ⟨bf, 0, none⟩), .pointer (some ⟨bl, 0, none⟩)]) (by rw [hnt]; rfl) (by rw [hP]; kernel_rfl : canCall C.P 52 = true) rfl rfl rfl (hP ▸ next_ok m K mo pt f he l sl S s k _ _ bh bf bl G2 hn8 hlt (hs.mono hle2) hc (by omega) (by omega) hinv.wf hinv.vd (hL.mono hle2).lr hL.rg (hL.mono hle2).ah (hL.mono hle2).ef (hL.mono hle2).bl) ?_
    rintro v G3 (hle3 : Le G2 G3) hv
    rcases hnx : nextP m l s S k with _ | t
    · rw [hnx] at hv
      have hgk : g k = none := by rw [hg]; simp only [hnx]
      rw [hgk] at hsr
      simp only at hsr
      subst hv
      refine rn_ ?_; intros
      (refine x_split rfl rfl rfl (fun _ => ?_) (fun hc => absurd hc (by first | decide +kernel | (simp; first | done | fail))); refine st_ ?_; (refine ru_ ?_; intros))
      refine rn_ ?_; intros
      rw [wr (n := (k : Int) + 1) (by omega) (by omega)]
      refine go_keep [1, 2, 3, 4, 18, 19] [0] ?_
      refine st_ ?_
      exact ih (l.length - (k + 1)) _ (by omega) ⟨k + 1, G3, by omega, rfl, hle2.trans hle3, hsr, rfl⟩
    · rw [hnx] at hv
      obtain ⟨v1, v2, rfl, htr, htc⟩ := hv
      have hgk : g k = (srch m l (fu - 1) t (S ++ [k])).map (k :: ·) := by rw [hg]; simp only [hnx]
      obtain ⟨hkl, hnc, rfl⟩ := next_some hnx
      obtain ⟨a3, c3, e3⟩ := Rp.S_slice htr.v
      subst e3
      obtain ⟨a4, c4, e4⟩ := Rp.S_slice htr.p
      subst e4
      have hfl := free_lt hkl hnc
      have hdo := do_vd (m := m) (o := l[k]) hinv.vd (rgt_vld (hL.rg _ (List.getElem_mem hkl))).1 (rgt_vld (hL.rg _ (List.getElem_mem hkl))).2
      have hd1 := hdo.lv
      have hd2 := hdo.lp
      have hL3 := (hL.mono hle2).mono hle3
      simp only [plV]
      refine rn_ ?_; intros
      (refine x_split rfl rfl rfl (fun hc => absurd hc (by first | decide +kernel | (simp; first | done | fail))) (fun _ => ?_); refine st_ ?_; (refine ru_ ?_; intros))
      refine rn_ ?_; intros
      refine go_call (by rw [hnt]; rfl) (by rw [hP]; kernel_rfl) rfl (hP ▸ IH (fu - 1) (by omega) _ (S ++ [k]) _ _ G3 hL3 htr htc (inv_do hinv (by rw [← he.kn]; exact hL.rg _ (List.getElem_mem hkl))) (by omega) (by omega) (by omega) (by omega)) ?_
      rintro v G4 (hle4 : Le G3 G4) hv
      rcases hsrk : srch m l (fu - 1) (doP m s l[k]).1 (S ++ [k]) with _ | p
      · rw [hsrk] at hv hgk
        rw [hgk] at hsr
        simp only [Option.map_none] at hsr
        subst hv
        refine rn_ ?_; intros
        (refine x_split rfl rfl rfl (fun hc => absurd hc (by first | decide +kernel | (simp; first | done | fail))) (fun _ => ?_); refine st_ ?_; (refine ru_ ?_; intros))
        refine rn_ ?_; intros
        rw [wr (n := (k : Int) + 1) (by omega) (by omega)]
        refine go_keep [1, 2, 3, 4, 18, 19] [0] ?_
        refine st_ ?_
        exact ih (l.length - (k + 1)) _ (by omega) ⟨k + 1, G4, by omega, rfl, hle2.trans (hle3.trans hle4), hsr, rfl⟩
      · rw [hsrk] at hv hgk
        rw [hgk] at hsr
        simp only [Option.map_some] at hsr
        obtain ⟨slp, rfl, hpS⟩ := hv
        obtain ⟨hpl, hpi⟩ := srch_len hsrk
        rw [hsr] at hQ
        obtain ⟨ap, cp, e5⟩ := Rp.S_slice hpS
        rw [List.length_map] at e5
        subst e5
        obtain ⟨cs, hcs, hsrc⟩ := Rp.srcS hpS
        have hcl := Rp.L_len hcs
        have hco := Rp.L_one hcs
        have h1s : rI.size = 1 := rfl
        rw [h1s] at hcl
        simp only [List.length_map] at hcl hsrc
        have hp100 : p.length ≤ 100 := by omega
        refine rn_ ?_; intros
        (refine x_split rfl rfl rfl (fun _ => ?_) (fun hc => absurd hc (by first | decide +kernel | (simp; first | done | fail))); refine st_ ?_; (refine ru_ ?_; intros))
        refine rn_ ?_; intros
        refine go_litrow 2 (n := 1) (size := 1) rfl (by omega) rfl (by omega) ?_
        refine st_ ?_
        refine go_append_any 2 (by rw [hnt]; rfl) (by rw [hty]; rfl) (by rw [hty]; rfl) (by decide) rfl rfl rfl (by omega) rfl (hsrc.imp id fun f => f _ _ rfl) (by simpa using hcl) hco (by omega) (by simp only []; omega) ?_
        intro v1
        refine go_rowS 2 rfl ?_
        rintro a5 c5 rfl
        refine go_keep [43] [2] ?_
        refine st_ ?_
        refine go_pubL rI 2 rfl (by omega) (ts := (k :: p).map fun i : Nat => (i : Int)) (by simp; omega) (by omega) (by
          rw [List.map_cons]
          exact Rp.L_append (l := [(k : Int)]) (cs := [.int .i64 (k : Int)]) (by rw [rI_L]; exact ⟨rfl, fun n hn => by simp at hn; subst hn; simp only [isI64]; omega⟩) hcs) ?_
        intro G6 ad6 cap6 (hle6 : Le G4 G6) he6 hS6
        rw [← he6] at hS6
        refine st_ ?_
        refine rn_ ?_; intros
        refine x_retc rfl hQ hmb rfl (by rw [hty]; simp only [so, sq, zy, zz, tyE, SO', SQ', opQ, opStore, opAlloc, ev, putS, dOk, cv, SV.cs, SV.one, SV.bool?, eqB, Value.oneCell', ldOwn, binInt, binConst, binBool, binStr, isC, TK.agg, rv, rv1, ldV, resOne, resV, Nat.reduceAdd, Nat.reduceMul, Nat.reduceSub, Nat.reduceLT, Nat.reduceLeDiff, Nat.reduceEqDiff, Nat.reduceBEq, reduceIte, reduceCtorEq, eq_self]; try rfl) rfl ?_; simp only [SV.den, resV, dens]
        exact ⟨_, rfl, hS6⟩
  · have hge : k = l.length := by simp at hjl; omega
    subst hge
    rw [List.drop_eq_nil_of_le (by simp)] at hsr
    simp only [List.findSome?_nil] at hsr
    rw [hsr] at hQ
    refine rn_ ?_; intros
    refine x_retc rfl hQ hmb rfl (by rw [hty]; simp only [so, sq, zy, zz, tyE, SO', SQ', opQ, opStore, opAlloc, ev, putS, dOk, cv, SV.cs, SV.one, SV.bool?, eqB, Value.oneCell', ldOwn, binInt, binConst, binBool, binStr, isC, TK.agg, rv, rv1, ldV, resOne, resV, Nat.reduceAdd, Nat.reduceMul, Nat.reduceSub, Nat.reduceLT, Nat.reduceLeDiff, Nat.reduceEqDiff, Nat.reduceBEq, reduceIte, reduceCtorEq, eq_self]; try rfl) rfl ?_; simp only [SV.den, resV, dens]
    rfl
end Go.Proofs.Ytpmmbjcgabnloaa
namespace Go.Proofs.Ytpmmbjcgabnloaa
set_option linter.unusedSimpArgs false
set_option linter.unusedVariables false
open Go.Sx
def alM (l : List Op) (i : Nat) : Nat := msk (fun t => decide (t < i) && dnA l t) l.length
def rwN (l : List Op) (i j t : Nat) : Nat := if t < i then msk (ahA l t) l.length else if t = i then msk (fun k => decide (k < j) && ahA l i k) l.length else 0
def rwM (l : List Op) (i j : Nat) : List Value := (List.range 8).map fun t => .int .u64 (rwN l i j t : Nat)
theorem alM_zero (l : List Op) : alM l 0 = 0 := by rw [alM, msk_zero]; intro i _; simp
theorem alM_all (l : List Op) : alM l l.length = msk (dnA l) l.length := by rw [alM, msk_eq]; intro i hi; simp [hi]
theorem alM_step (l : List Op) (i : Nat) (hi : i < l.length) : alM l (i + 1) = if dnA l i then alM l i ||| 2 ^ i else alM l i := by
  split
  · rename_i h
    rw [alM, alM, ← msk_one hi, msk_or, msk_eq]
    intro t _
    by_cases ht : t = i
    · subst ht; simp [h]
    · by_cases h2 : t < i
      · simp [h2, show t < i + 1 by omega, ht]
      · simp [h2, show ¬ t < i + 1 by omega, ht]
  · rename_i h
    simp only [Bool.not_eq_true] at h
    rw [alM, alM, msk_eq]
    intro t _
    by_cases ht : t = i
    · subst ht; simp [h]
    · by_cases h2 : t < i
      · simp [h2, show t < i + 1 by omega]
      · simp [h2, show ¬ t < i + 1 by omega]
theorem rwN_zero (l : List Op) (t : Nat) : rwN l 0 0 t = 0 := by
  rw [rwN, if_neg (by omega)]
  split
  · rw [msk_zero]; intro i _; simp
  · rfl
theorem rwM_zero (l : List Op) : rwM l 0 0 = [.int .u64 0, .int .u64 0, .int .u64 0, .int .u64 0, .int .u64 0, .int .u64 0, .int .u64 0, .int .u64 0] := by
  rw [rwM]
  simp only [rwN_zero]
  rfl
theorem rwM_next (l : List Op) (i : Nat) : rwM l i l.length = rwM l (i + 1) 0 := by
  rw [rwM, rwM]
  apply List.map_congr_left
  intro t _
  congr 2
  rw [rwN, rwN]
  by_cases h1 : t < i
  · rw [if_pos h1, if_pos (by omega)]
  · rw [if_neg h1]
    by_cases h2 : t = i
    · subst h2
      rw [if_pos rfl, if_pos (by omega), msk_eq]
      intro k hk; simp [hk]
    · rw [if_neg h2, if_neg (by omega)]
      split
      · symm; rw [msk_zero]; intro k _; simp
      · rfl
theorem rwM_all (l : List Op) : rwM l l.length 0 = ahRow l := by
  rw [rwM, ahRow]
  apply List.map_congr_left
  intro t _
  congr 2
  rw [rwN]
  split
  · rfl
  · rename_i h
    have h0 : msk (ahA l t) l.length = 0 := by
      rw [msk_zero]
      intro k _
      rw [ahA, List.getElem?_eq_none (show l.length ≤ t by omega)]
      cases l[k]? <;> rfl
    rw [h0]
    split
    · rw [msk_zero]; intro k _; simp
    · rfl
theorem rwM_len (l : List Op) (i j : Nat) : (rwM l i j).length = 8 := by simp [rwM]
theorem rwM_get (l : List Op) (i j : Nat) (hi : i < 8) : (rwM l i j)[i]? = some (.int .u64 (msk (fun k => decide (k < j) && ahA l i k) l.length : Nat)) := by
  simp [rwM, rwN, hi]
theorem rw_step (l : List Op) (i j : Nat) (hj : j < l.length) : msk (fun k => decide (k < j + 1) && ahA l i k) l.length = if ahA l i j then msk (fun k => decide (k < j) && ahA l i k) l.length ||| 2 ^ j else msk (fun k => decide (k < j) && ahA l i k) l.length := by
  split
  · rename_i h
    rw [← msk_one hj, msk_or, msk_eq]
    intro t _
    by_cases ht : t = j
    · subst ht; simp [h]
    · by_cases h2 : t < j
      · simp [h2, show t < j + 1 by omega, ht]
      · simp [h2, show ¬ t < j + 1 by omega, ht]
  · rename_i h
    simp only [Bool.not_eq_true] at h
    rw [msk_eq]
    intro t _
    by_cases ht : t = j
    · subst ht; simp [h]
    · by_cases h2 : t < j
      · simp [h2, show t < j + 1 by omega]
      · simp [h2, show ¬ t < j + 1 by omega]
theorem rwM_put (l : List Op) (i j : Nat) (hi : i < 8) : (rwM l i j).take i ++ [.int .u64 (msk (fun k => decide (k < j + 1) && ahA l i k) l.length : Nat)] ++ (rwM l i j).drop (i + 1) = rwM l i (j + 1) := by
  have h8 := rwM_len l i j
  apply List.ext_getElem?
  intro t
  have hlen : ((rwM l i j).take i).length = i := by simp; omega
  have g : ∀ j : Nat, (rwM l i j)[t]? = if t < 8 then some (.int .u64 (rwN l i j t : Nat)) else none := fun j => by
    by_cases ht : t < 8
    · simp [rwM, ht]
    · simp [rwM, ht]
  rw [g (j + 1), List.append_assoc]
  by_cases h1 : t < i
  · rw [List.getElem?_append_left (by omega), List.getElem?_take, if_pos h1, g j, if_pos (by omega), if_pos (by omega), rwN, rwN, if_pos h1, if_pos h1]
  · rw [List.getElem?_append_right (by omega), hlen]
    by_cases h2 : t = i
    · subst h2
      rw [if_pos hi, rwN, if_neg (by omega), if_pos rfl]
      simp
    · rw [List.getElem?_append_right (by simp; omega)]
      simp only [List.length_singleton, List.getElem?_drop]
      rw [show i + 1 + (t - i - 1) = t by omega, g j, rwN, rwN, if_neg h1, if_neg h2, if_neg h1, if_neg h2]
theorem rwM_same (l : List Op) (i j : Nat) (hj : j < l.length) (h : ahA l i j = false) : rwM l i (j + 1) = rwM l i j := by
  rw [rwM, rwM]
  apply List.map_congr_left
  intro t _
  congr 2
  rw [rwN, rwN]
  split
  · rfl
  · split
    · rw [rw_step l i j hj, h]; rfl
    · rfl
end Go.Proofs.Ytpmmbjcgabnloaa
namespace Go.Sx
set_option linter.unusedSimpArgs false
set_option linter.unusedVariables false
open Go.RowKit
section
variable {C : Ctx} {K : List KI} {s : St}
theorem go_asO (k : Nat) {b : Nat} {e : TypeId} {cells : List SV} (hk : lk k s.own = some (b, .c e cells)) (h : SGo C K ⟨s.sl, stk k (b, .o (.cells (dens cells).toArray e)) s.own, s.G, s.df⟩) : SGo C K s := by
  intro a w hS
  refine h a w ⟨hS.sl, hS.nt, hS.df, ?_⟩
  obtain ⟨f1, f2⟩ := hS.mem.own _ _ _ hk
  simp only [OO.holds] at f1
  exact hS.mem.put hk rfl rfl rfl (Nat.le_refl _) (fun _ _ _ => rfl) f1 (fun g => ⟨fun hg => .inl hg, fun hg => .inl hg⟩)
theorem qsz_all (l : List Value) : QSz l.toArray 0 l.length 1 l := ⟨by simp, by simp, fun i hi => by simp⟩
theorem QSz.get {cur : Array Value} {cap size : Nat} {xs : List Value} {i : Nat} {v : Value} (h : QSz cur 0 cap size xs) (hi : xs[i]? = some v) : cur[i]? = some v := by
  have := h.2.2 i (List.getElem?_eq_some_iff.1 hi).1
  rw [Nat.zero_add] at this
  rw [this, hi]
end
end Go.Sx
namespace Go.Proofs.Ytpmmbjcgabnloaa
set_option linter.unusedSimpArgs false
set_option linter.unusedVariables false
open Go.Sx
set_option maxHeartbeats 8000000
set_option maxRecDepth 20000
def lnR (m : Int) (l : List Op) : List Nat × Bool × Int :=
  if kns m = 0 ∨ (l.all fun o => rgtO (kns m) o) = false then ([], false, 2) else
  if 8 < l.length then ([], false, 3) else
  match srch m l l.length ⟨[], []⟩ [] with
  | none => ([], false, 0)
  | some p => (p, true, 0)
def lnRet (r : List Nat × Bool × Int) (v : Value) (G : Hp) : Prop := ∃ sl, v = .tuple #[sl, .bool r.2.1, .int .i64 r.2.2] ∧ rI.S G (r.1.map fun i : Nat => (i : Int)) sl
theorem lnRes {sl : List (Nat × SV)} {own : List (Nat × Nat × OO)} {be bo bi : Nat} {ov : Value} {is : Bool} {e : Int} {T : TypeId → Option TI} (hT : T = ty) (h4 : lk 4 sl = some (.p 1 bo 0)) (h5 : lk 5 sl = some (.p 2 bi 0)) (h6 : lk 6 sl = some (.p 3 be 0))
    (o0 : lk 3 own = some (be, .c 32 [.v (.int .i64 e)])) (o1 : lk 1 own = some (bo, .c 57 [.v ov])) (o2 : lk 2 own = some (bi, .c 4 [.v (.bool is)])) :
    resAll sl T own Try.f21.results.toList = some [.v ov, .v (.bool is), .v (.int .i64 e)] := by
  have e : Try.f21.results.toList = [.cell 4 57, .cell 5 4, .cell 6 32] := rfl
  subst hT
  rw [e]
  simp only [resAll, resOne, h4, h5, h6, o0, o1, o2, if_true]
  refine st_ ?_
  simp only [o0, o1, o2, if_true]
  rfl
theorem lnRes3 (tmps : Array Value) (v : Value) (d : Nat) (h : d < 4 ∨ 6 < d) : results Try.f21 (tmps.setIfInBounds d v) = results Try.f21 tmps := by
  have e : Try.f21.results = #[.cell 4 57, .cell 5 4, .cell 6 32] := rfl
  simp only [results, e]
  have h4 : d ≠ 4 := by omega
  have h5 : d ≠ 5 := by omega
  have h6 : d ≠ 6 := by omega
  simp [Array.getElem?_setIfInBounds, h4, h5, h6]
theorem hLine_ok (m : Int) (l : List Op) (sl : Value) (G : Hp) (hl : rO.S G l sl) : Pure Try.prog 21 [.int .i64 m, sl] G (lnRet (lnR m l)) := by
  have hl63 := Rp.S_len hl
  obtain ⟨adl, capl, rfl⟩ := Rp.S_slice hl
  refine enterDf ty tyok Try.func21 rfl Try.ntmps21 [.v (.int .i64 m), .v (.slice adl l.length capl)] (by simp) ?_
  intro C hP hQ hnt hty hmb hmh hro; refine st_ ?_
  refine rn_ ?_; intros
  refine go_defer hro (by rw [hnt]; rfl) rfl rfl ?_
  refine rn_ ?_; intros
  rename_i bl bo bi be
  have hQD : ∀ d, d < 4 ∨ 6 < d → QPd C (some d) := fun d h => qpd_bodyD hQ fun tmps v => lnRes3 tmps v d h
  refine go_call (by rw [hnt]; rfl) (by rw [hP]; kernel_rfl) rfl (hP ▸ effects_ok G) ?_
  rintro v G1 (hle1 : Le G G1) ⟨mp, rfl, hmp⟩
  refine rn_ ?_; intros
  rcases eff_of m with ⟨hk0, hg0⟩ | ⟨K, mo, pt, f, he⟩
  · refine go_q (v := .tuple #[.agg #[.int .i64 0, .int .i64 0, .bool false, .nilFunc], .bool false]) (by rw [hnt]; rfl) ((quiet_lookupG (ok := true) (z := .agg #[.int .i64 0, .int .i64 0, .bool false, .nilFunc]) (by rw [hty]; rfl) (by rw [hty]; rfl) (by rw [hP]; exact ⟨_, (by kernel_rfl : Try.prog.info? 89 = some Try.t89), rfl⟩) rfl rfl hmp).cast (by rw [hg0]; rfl)) ?_
    refine rn_ ?_; intros
    refine go_callWP [] (ow := []) (by rw [hnt]; rfl) rfl (by rw [hP]; kernel_rfl) rfl rfl rfl (.inl (by intro k hk; cases hk)) (hP ▸ need_ok false 2 G1) ?_ ?_
    · rintro v G' ow' _ ⟨h, _⟩
      cases h
    rintro v ⟨rfl, _⟩
    have e : lnR m l = ([], false, 2) := by rw [lnR, if_pos (.inl hk0)]
    refine x_panD hQ hmb rfl (by rw [hP]; kernel_rfl) (ks := [3, 1, 2]) (ow := lnC be bo bi 0 _ _) rfl rfl (.inl (by intro k hk; omega)) (hP ▸ lnClo_catch be bo bi _ _ 0 2 (by omega) _) ?_
    rintro u' G' ow' _ ⟨hs', rfl⟩
    refine ⟨hs', _, lnRes hty rfl rfl rfl rfl rfl rfl, ?_⟩
    rw [e]
    exact ⟨_, rfl, Rp.S_nil _ _⟩
  · have hK := he.kn
    have hk0 : kns m ≠ 0 := by
      intro h0
      rcases he.fit with ⟨_, _, h | h⟩ | ⟨_, _, h⟩ | ⟨_, _, h⟩ <;> subst h <;> simp [kns] at h0
    refine go_q (v := .tuple #[effV K mo pt f, .bool true]) (by rw [hnt]; rfl) ((quiet_lookupG (ok := true) (z := .agg #[.int .i64 0, .int .i64 0, .bool false, .nilFunc]) (by rw [hty]; rfl) (by rw [hty]; rfl) (by rw [hP]; exact ⟨_, (by kernel_rfl : Try.prog.info? 89 = some Try.t89), rfl⟩) rfl rfl hmp).cast (by rw [he.get]; rfl)) ?_
    simp only [effV]
    refine rn_ ?_; intros
    refine go_callWP [] (ow := []) (by rw [hnt]; rfl) rfl (by rw [hP]; kernel_rfl) rfl rfl rfl (.inl (by intro k hk; cases hk)) (hP ▸ need_ok true 2 G1) ?_ ?_
    rotate_left
    · rintro v ⟨_, h⟩
      cases h
    rintro v G2 ow' (hle2 : Le G1 G2) ⟨_, rfl⟩
    simp only [setO]
    rename_i bf _
    refine go_keep [3, 4, 5, 6, 7] [0, 1, 2, 3, 4] ?_
    refine st_ ?_
    clear v
    refine rn_ ?_; intros
    refine x_loop rfl (fun q st => ∃ (k : Nat) (G' : Hp), k ≤ l.length ∧ q = l.length - k ∧ Le G G' ∧ (∀ o ∈ l.take k, rgtO K o = true) ∧
      st = ⟨[(3, .p 0 bl 0), (4, .p 1 bo 0), (5, .p 2 bi 0), (6, .p 3 be 0), (7, .p 4 bf 0), (25, .v (.slice adl l.length capl)), (26, .v (.int .i64 l.length)), (27, .v (.int .i64 k))],
        [(0, bl, .c 31 [.v (.slice adl l.length capl)]), (1, bo, .c 57 [.v (.slice none 0 0)]), (2, bi, .c 4 [.v (.bool true)]), (3, be, .c 32 [.v (.int .i64 0)]),
         (4, bf, .c 89 [.v (.int .i64 K), .v (.int .i64 mo), .v (.bool pt), .v (.func (.func f) #[] #[])])], G', [dfn 49 (lnCap be bo bi)]⟩) ⟨0, G2, by omega, rfl, hle1.trans hle2, fun o ho => by simp at ho, rfl⟩ ?_
    rintro q st ⟨k, G3, hk, hq, hle3, hrg, rfl⟩ ih
    refine rn_ ?_; intros
    refine x_if rfl rfl rfl rfl (fun hjl => ?_) (fun hjl => ?_)
    · have hlt : k < l.length := by simp at hjl; omega
      obtain ⟨c1, o1, sa, sr, rfl, hat, hor⟩ := rO_at hl hlt
      obtain ⟨asa, csa, rfl⟩ := VT.rep_slice hor.a
      obtain ⟨asr, csr, rfl⟩ := VT.rep_slice hor.r
      refine rn_ ?_; intros
      refine go_q (by rw [hnt]; rfl) (quiet_index (by rw [hty]; rfl) (by rw [hty]; rfl) rfl rfl rfl (by omega) (by omega)) ?_
      refine rn_ ?_; intros
      refine go_q (v := .agg (opL l[k] (.slice asa l[k].arg.l.length csa) (.slice asr l[k].res.l.length csr)).toArray) (by rw [hnt]; rfl) ((quiet_load (by rw [hty]; rfl) rfl (fun q => by cases q) (by simpa only [Int.toNat_natCast] using hat.mono hle3) rfl).cast (by simp only [ldV]; rfl)) ?_
      simp only [opL]
      refine rn_ ?_; intros
      refine go_callf (by rw [hnt]; rfl) (by rw [hP]; kernel_rfl) rfl (hP ▸ valid_ok2 K mo pt _ l[k] _ _ G3 rfl (hor.mono hle3)) ?_; refine rn_ ?_; intros
      cases hv : rgtO K l[k]
      · refine go_callWP [] (ow := []) (by rw [hnt]; rfl) rfl (by rw [hP]; kernel_rfl) rfl rfl rfl (.inl (by intro k hk; cases hk)) (hP ▸ need_ok _ 2 G3) ?_ ?_
        · rintro v G' ow' _ ⟨h, _⟩
          cases h
        rintro v ⟨rfl, _⟩
        have e : lnR m l = ([], false, 2) := by
          rw [lnR, if_pos]
          right
          rw [← hK, List.all_eq_false]
          exact ⟨l[k], List.getElem_mem _, by rw [hv]; decide⟩
        refine x_panD hQ hmb rfl (by rw [hP]; kernel_rfl) (ks := [3, 1, 2]) (ow := lnC be bo bi 0 _ _) rfl rfl (.inl (by intro k hk; omega)) (hP ▸ lnClo_catch be bo bi _ _ 0 2 (by omega) _) ?_
        rintro u' G' ow' _ ⟨hs', rfl⟩
        refine ⟨hs', _, lnRes hty rfl rfl rfl rfl rfl rfl, ?_⟩
        rw [e]
        exact ⟨_, rfl, Rp.S_nil _ _⟩
      refine go_callWP [] (ow := []) (by rw [hnt]; rfl) rfl (by rw [hP]; kernel_rfl) rfl rfl rfl (.inl (by intro k hk; cases hk)) (hP ▸ need_ok true 2 G3) ?_ ?_
      rotate_left
      · rintro v ⟨_, h⟩
        cases h
      rintro v G4 ow' (hle4 : Le G3 G4) ⟨_, rfl⟩
      simp only [setO]
      refine go_keep [3, 4, 5, 6, 7, 25, 26, 27] [0, 1, 2, 3, 4] ?_
      refine st_ ?_
      clear v
      refine rn_ ?_; intros
      rw [wr (n := (k : Int) + 1) (by omega) (by omega)]
      refine go_keep [3, 4, 5, 6, 7, 25, 26, 27] [0, 1, 2, 3, 4] ?_
      refine st_ ?_
      refine ih (l.length - (k + 1)) _ (by omega) ⟨k + 1, G4, by omega, rfl, hle3.trans hle4, fun o ho => ?_, rfl⟩
      rw [← List.take_append_getElem hlt] at ho
      rcases List.mem_append.1 ho with ho | ho
      · exact hrg o ho
      · simp at ho; subst ho; exact hv
    have hge : k = l.length := by simp at hjl; omega
    subst hge
    rw [List.take_length] at hrg
    have hall : (l.all fun o => rgtO (kns m) o) = true := by rw [List.all_eq_true, ← hK]; exact hrg
    have hr0 : lnR m l = if 8 < l.length then (([], false, 3) : List Nat × Bool × Int) else match srch m l l.length ⟨[], []⟩ [] with
      | none => ([], false, 0)
      | some p => (p, true, 0) := by rw [lnR, if_neg (by rw [hall]; simp [hk0])]
    clear ih hjl hq hk
    refine rn_ ?_; intros
    by_cases h8 : 8 < l.length
    · rw [if_pos h8] at hr0
      refine go_callWP [] (ow := []) (by rw [hnt]; rfl) rfl (by rw [hP]; kernel_rfl) rfl rfl rfl (.inl (by intro k hk; cases hk)) (hP ▸ need_ok _ 3 G3) ?_ ?_
      · rintro v G' ow' _ ⟨h, _⟩
        rw [decide_eq_true_eq] at h; omega
      rintro v ⟨rfl, _⟩
      refine x_panD hQ hmb rfl (by rw [hP]; kernel_rfl) (ks := [3, 1, 2]) (ow := lnC be bo bi 0 _ _) rfl rfl (.inl (by intro k hk; omega)) (hP ▸ lnClo_catch be bo bi _ _ 0 3 (by omega) _) ?_
      rintro u' G' ow' _ ⟨hs', rfl⟩
      refine ⟨hs', _, lnRes hty rfl rfl rfl rfl rfl rfl, ?_⟩
      rw [hr0]
      exact ⟨_, rfl, Rp.S_nil _ _⟩
    rw [if_neg h8] at hr0
    refine go_callWP [] (ow := []) (by rw [hnt]; rfl) rfl (by rw [hP]; kernel_rfl) rfl rfl rfl (.inl (by intro k hk; cases hk)) (hP ▸ need_ok _ 3 G3) ?_ ?_
    rotate_left
    · rintro v ⟨_, h⟩
      rw [decide_eq_false_iff_not] at h; omega
    rintro v G4 ow' (hle4 : Le G3 G4) ⟨_, rfl⟩
    simp only [setO]
    refine go_keep [3, 4, 5, 6, 7] [0, 1, 2, 3, 4] ?_
    refine st_ ?_
    clear v
    refine rn_ ?_; intros
    rename_i ba bh
    refine go_asO 6 rfl ?_
    refine st_ ?_
    have hn8 : l.length ≤ 8 := by omega
    have hn8' : l.length ≤ 64 := by omega
    have hle04 : Le G G4 := hle3.trans hle4
    refine x_loop rfl (fun q st => ∃ (i : Nat) (G' : Hp) (cur : Array Value), i ≤ l.length ∧ q = l.length - i ∧ Le G G' ∧ QSz cur 0 8 1 (rwM l i 0) ∧
      st = ⟨[(3, .p 0 bl 0), (4, .p 1 bo 0), (5, .p 2 bi 0), (6, .p 3 be 0), (7, .p 4 bf 0), (10, .p 5 ba 0), (11, .p 6 bh 0), (40, .v (.slice adl l.length capl)), (41, .v (.int .i64 l.length)), (42, .v (.int .i64 i))], [(0, bl, .c 31 [.v (.slice adl l.length capl)]), (1, bo, .c 57 [.v (.slice none 0 0)]), (2, bi, .c 4 [.v (.bool true)]), (3, be, .c 32 [.v (.int .i64 0)]), (4, bf, .c 89 [.v (.int .i64 K), .v (.int .i64 mo), .v (.bool pt), .v (.func (.func f) #[] #[])]), (5, ba, .c 102 [.v (.int .u64 (alM l i : Nat))]), (6, bh, .o (.cells cur 103))], G', [dfn 49 (lnCap be bo bi)]⟩) ⟨0, G4, _, by omega, rfl, hle04, by rw [rwM_zero]; exact qsz_all [.int .u64 0, .int .u64 0, .int .u64 0, .int .u64 0, .int .u64 0, .int .u64 0, .int .u64 0, .int .u64 0], by rw [alM_zero]; rfl⟩ ?_
    rintro q st ⟨i, G5, cur, hi, hq, hle5, hqs, rfl⟩ ih
    refine rn_ ?_; intros
    refine x_if rfl rfl rfl rfl (fun hjl => ?_) (fun hjl => ?_)
    · have hlt : i < l.length := by simp at hjl; omega
      obtain ⟨c1, o1, sa, sr, rfl, hat, hor⟩ := rO_at hl hlt
      obtain ⟨asa, csa, rfl⟩ := VT.rep_slice hor.a
      obtain ⟨asr, csr, rfl⟩ := VT.rep_slice hor.r
      refine rn_ ?_; intros
      refine go_q (by rw [hnt]; rfl) (quiet_index (by rw [hty]; rfl) (by rw [hty]; rfl) rfl rfl rfl (by omega) (by omega)) ?_
      refine rn_ ?_; intros
      refine go_q (v := .agg (opL l[i] (.slice asa l[i].arg.l.length csa) (.slice asr l[i].res.l.length csr)).toArray) (by rw [hnt]; rfl) ((quiet_load (by rw [hty]; rfl) rfl (fun q => by cases q) (by simpa only [Int.toNat_natCast] using hat.mono hle5) rfl).cast (by simp only [ldV]; rfl)) ?_
      simp only [opL]
      refine rn_ ?_; intros
      rename_i bx
      have hdA : dnA l i = l[i].dn := by rw [dnA, List.getElem?_eq_getElem hlt]
      have hst := alM_step l i hlt
      have hb1 : alM l i < 2 ^ 64 := lt64 (msk_lt _ _) hn8'
      have hb2 : 2 ^ i < 2 ^ 64 := Nat.pow_lt_pow_right (by omega) (by omega)
      refine cut_tail 1 (fun s' => s' = ⟨[(3, .p 0 bl 0), (4, .p 1 bo 0), (5, .p 2 bi 0), (6, .p 3 be 0), (7, .p 4 bf 0), (10, .p 5 ba 0), (11, .p 6 bh 0), (40, .v (.slice (some ⟨c1, o1, none⟩) l.length capl)), (41, .v (.int .i64 l.length)), (42, .v (.int .i64 i)), (13, .p 7 bx 0), (12, .v (.int .i64 i))], [(0, bl, .c 31 [.v (.slice (some ⟨c1, o1, none⟩) l.length capl)]), (1, bo, .c 57 [.v (.slice none 0 0)]), (2, bi, .c 4 [.v (.bool true)]), (3, be, .c 32 [.v (.int .i64 0)]), (4, bf, .c 89 [.v (.int .i64 K), .v (.int .i64 mo), .v (.bool pt), .v (.func (.func f) #[] #[])]), (5, ba, .c 102 [.v (.int .u64 (alM l (i + 1) : Nat))]), (6, bh, .o (.cells cur 103)), (7, bx, .c 40 [.v (.int .i64 l[i].th), .v (.int .i64 l[i].kd), .v (.int .i64 l[i].arg.k), .v (.int .i64 l[i].arg.n), .v (.slice asa l[i].arg.l.length csa), .v (.int .i64 l[i].res.k), .v (.int .i64 l[i].res.n), .v (.slice asr l[i].res.l.length csr), .v (.int .i64 l[i].fr), .v (.int .i64 l[i].to), .v (.bool l[i].dn)])], G5, [dfn 49 (lnCap be bo bi)]⟩) ?_ ?_
      rotate_left
      · intro key
        simp only [List.drop_succ_cons, List.drop_zero] at key
        refine x_if rfl rfl rfl rfl (fun hdn => ?_) (fun hdn => ?_)
        · rw [hdA, hdn, if_pos rfl] at hst
          rw [hst] at key
          refine rn_ ?_; intros
          refine x_heldP [(5, ba, .c 102 [.v (.int .u64 (alM l i : Nat))])] 4 rfl (by rw [hP]; kernel_rfl) rfl rfl rfl ?_; refine st_ ?_
          refine hu_take 0 rfl (by kernel_rfl) (by kernel_rfl) (by kernel_rfl) (by kernel_rfl) rfl (hQD _ (by decide)) (by rw [hnt]; rfl) (allIn (by repeat (first | exact trivial | refine ⟨rfl, ?_⟩))) (by first | exact Le.refl _ | assumption) (quiet_op (by rw [hty]; first | rfl | (refine st_ ?_; rfl))) ?_; refine st_ ?_
          refine hu_take 1 rfl (by kernel_rfl) (by kernel_rfl) (by kernel_rfl) (by kernel_rfl) rfl (hQD _ (by decide)) (by rw [hnt]; rfl) (allIn (by repeat (first | exact trivial | refine ⟨rfl, ?_⟩))) (by first | exact Le.refl _ | assumption) (quiet_op (by rw [hty]; first | rfl | (refine st_ ?_; rfl))) ?_; refine st_ ?_
          refine hu_take 2 rfl (by kernel_rfl) (by kernel_rfl) (by kernel_rfl) (by kernel_rfl) rfl (hQD _ (by decide)) (by rw [hnt]; rfl) (allIn (by repeat (first | exact trivial | refine ⟨rfl, ?_⟩))) (by first | exact Le.refl _ | assumption) (x := .v (.int .u64 ((2 ^ i : Nat) : Int))) ((quiet_bin rfl rfl rfl rfl (shl_ok (by omega))).cast (by rw [u64shl i (by omega)]; rfl)) ?_
          refine st_ ?_
          refine hu_take 3 rfl (by kernel_rfl) (by kernel_rfl) (by kernel_rfl) (by kernel_rfl) rfl (hQD _ (by decide)) (by rw [hnt]; rfl) (allIn (by repeat (first | exact trivial | refine ⟨rfl, ?_⟩))) (by first | exact Le.refl _ | assumption) (x := .v (.int .u64 ((alM l i ||| 2 ^ i : Nat) : Int))) ((quiet_bin rfl rfl rfl rfl rfl).cast (by rw [u64or _ _ hb1 hb2]; rfl)) ?_
          refine st_ ?_
          refine hu_last 4 [] rfl (by kernel_rfl) rfl ?_
          refine rn_ ?_; intros
          refine h_end (by kernel_rfl) ?_
          refine go_keep [3, 4, 5, 6, 7, 10, 11, 40, 41, 42, 13, 12] [0, 1, 2, 3, 4, 5, 6, 7] ?_
          refine st_ ?_
          exact key _ rfl
        · rw [hdA, hdn, if_neg (by decide)] at hst
          rw [hst] at key
          refine x_skip rfl ?_
          refine go_keep [3, 4, 5, 6, 7, 10, 11, 40, 41, 42, 13, 12] [0, 1, 2, 3, 4, 5, 6, 7] ?_
          refine st_ ?_
          exact key _ rfl
      rintro s' rfl
      simp only [List.drop_succ_cons, List.drop_zero]
      refine rn_ ?_; intros
      refine x_loop rfl (fun q st => ∃ (j : Nat) (G' : Hp) (cur' : Array Value), j ≤ l.length ∧ q = l.length - j ∧ Le G5 G' ∧ QSz cur' 0 8 1 (rwM l i j) ∧
        st = ⟨[(3, .p 0 bl 0), (4, .p 1 bo 0), (5, .p 2 bi 0), (6, .p 3 be 0), (7, .p 4 bf 0), (10, .p 5 ba 0), (11, .p 6 bh 0), (40, .v (.slice (some ⟨c1, o1, none⟩) l.length capl)), (41, .v (.int .i64 l.length)), (42, .v (.int .i64 i)), (13, .p 7 bx 0), (12, .v (.int .i64 i)), (53, .v (.slice (some ⟨c1, o1, none⟩) l.length capl)), (54, .v (.int .i64 l.length)), (55, .v (.int .i64 j))], [(0, bl, .c 31 [.v (.slice (some ⟨c1, o1, none⟩) l.length capl)]), (1, bo, .c 57 [.v (.slice none 0 0)]), (2, bi, .c 4 [.v (.bool true)]), (3, be, .c 32 [.v (.int .i64 0)]), (4, bf, .c 89 [.v (.int .i64 K), .v (.int .i64 mo), .v (.bool pt), .v (.func (.func f) #[] #[])]), (5, ba, .c 102 [.v (.int .u64 (alM l (i + 1) : Nat))]), (6, bh, .o (.cells cur' 103)), (7, bx, .c 40 [.v (.int .i64 l[i].th), .v (.int .i64 l[i].kd), .v (.int .i64 l[i].arg.k), .v (.int .i64 l[i].arg.n), .v (.slice asa l[i].arg.l.length csa), .v (.int .i64 l[i].res.k), .v (.int .i64 l[i].res.n), .v (.slice asr l[i].res.l.length csr), .v (.int .i64 l[i].fr), .v (.int .i64 l[i].to), .v (.bool l[i].dn)])], G', [dfn 49 (lnCap be bo bi)]⟩) ⟨0, G5, cur, by omega, rfl, Le.refl _, hqs, rfl⟩ ?_
      clear hqs
      rintro q2 st ⟨j, G6, cur', hj, hq2, hle6, hqs, rfl⟩ ih2
      refine rn_ ?_; intros
      refine x_if rfl rfl rfl rfl (fun hjl2 => ?_) (fun hjl2 => ?_)
      · have hltj : j < l.length := by simp at hjl2; omega
        obtain ⟨c2, o2, sa2, sr2, hcc, hat2, hor2⟩ := rO_at hl hltj
        cases hcc
        obtain ⟨asa2, csa2, rfl⟩ := VT.rep_slice hor2.a
        obtain ⟨asr2, csr2, rfl⟩ := VT.rep_slice hor2.r
        have hle06 := hle5.trans hle6
        refine rn_ ?_; intros
        refine go_q (by rw [hnt]; rfl) (quiet_index (by rw [hty]; rfl) (by rw [hty]; rfl) rfl rfl rfl (by omega) (by omega)) ?_
        refine rn_ ?_; intros
        refine go_q (v := .agg (opL l[j] (.slice asa2 l[j].arg.l.length csa2) (.slice asr2 l[j].res.l.length csr2)).toArray) (by rw [hnt]; rfl) ((quiet_load (by rw [hty]; rfl) rfl (fun q => by cases q) (by simpa only [Int.toNat_natCast] using hat2.mono hle06) rfl).cast (by simp only [ldV]; rfl)) ?_
        simp only [opL]
        refine rn_ ?_; intros
        refine go_callf (by rw [hnt]; rfl) (by rw [hP]; kernel_rfl) rfl (hP ▸ ahead_ok l[j] l[i] _ _ _ _ G6 (hor2.mono hle06) (hor.mono hle06)) ?_; refine rn_ ?_; intros
        have hahA : ahA l i j = ahd l[j] l[i] := by rw [ahA, List.getElem?_eq_getElem hlt, List.getElem?_eq_getElem hltj]
        have hrs := rw_step l i j hltj
        have hbm : msk (fun k => decide (k < j) && ahA l i k) l.length < 2 ^ 64 := lt64 (msk_lt _ _) hn8'
        have hbj : 2 ^ j < 2 ^ 64 := Nat.pow_lt_pow_right (by omega) (by omega)
        refine x_if rfl rfl rfl rfl (fun hah => ?_) (fun hah => ?_)
        · rw [hahA, hah, if_pos rfl] at hrs
          refine rn_ ?_; intros
          refine x_heldP [(6, bh, .o (.cells cur' 103))] 7 rfl (by rw [hP]; kernel_rfl) rfl rfl rfl ?_; refine st_ ?_
          refine hu_take 0 rfl (by kernel_rfl) (by kernel_rfl) (by kernel_rfl) (by kernel_rfl) rfl (hQD _ (by decide)) (by rw [hnt]; rfl) (allIn (by repeat (first | exact trivial | refine ⟨rfl, ?_⟩))) (by first | exact Le.refl _ | assumption) (quiet_op (by rw [hty]; first | rfl | (refine st_ ?_; rfl))) ?_; refine st_ ?_
          refine hu_take 1 rfl (by kernel_rfl) (by kernel_rfl) (by kernel_rfl) (by kernel_rfl) rfl (hQD _ (by decide)) (by rw [hnt]; rfl) (allIn (by repeat (first | exact trivial | refine ⟨rfl, ?_⟩))) (by first | exact Le.refl _ | assumption) (x := .v (.pointer (some ⟨bh, i, none⟩))) ((quiet_indexA (by rw [hty]; rfl) (by rw [hty]; rfl) rfl rfl rfl (by omega) (by omega)).cast (by simp [SV.den])) ?_
          refine st_ ?_
          refine hu_take 2 rfl (by kernel_rfl) (by kernel_rfl) (by kernel_rfl) (by kernel_rfl) rfl (hQD _ (by decide)) (by rw [hnt]; rfl) (allIn (by repeat (first | exact trivial | refine ⟨rfl, ?_⟩))) (by first | exact Le.refl _ | assumption) (x := .v (.int .u64 (msk (fun k => decide (k < j) && ahA l i k) l.length : Nat))) (quiet_loadO 6 (by rw [hty]; rfl) rfl rfl rfl rfl (hqs.get (rwM_get l i j (by omega)))) ?_
          refine st_ ?_
          refine hu_take 3 rfl (by kernel_rfl) (by kernel_rfl) (by kernel_rfl) (by kernel_rfl) rfl (hQD _ (by decide)) (by rw [hnt]; rfl) (allIn (by repeat (first | exact trivial | refine ⟨rfl, ?_⟩))) (by first | exact Le.refl _ | assumption) (quiet_op (by rw [hty]; first | rfl | (refine st_ ?_; rfl))) ?_; refine st_ ?_
          refine hu_take 4 rfl (by kernel_rfl) (by kernel_rfl) (by kernel_rfl) (by kernel_rfl) rfl (hQD _ (by decide)) (by rw [hnt]; rfl) (allIn (by repeat (first | exact trivial | refine ⟨rfl, ?_⟩))) (by first | exact Le.refl _ | assumption) (x := .v (.int .u64 ((2 ^ j : Nat) : Int))) ((quiet_bin rfl rfl rfl rfl (shl_ok (by omega))).cast (by rw [u64shl j (by omega)]; rfl)) ?_
          refine st_ ?_
          refine hu_take 5 rfl (by kernel_rfl) (by kernel_rfl) (by kernel_rfl) (by kernel_rfl) rfl (hQD _ (by decide)) (by rw [hnt]; rfl) (allIn (by repeat (first | exact trivial | refine ⟨rfl, ?_⟩))) (by first | exact Le.refl _ | assumption) (x := .v (.int .u64 (msk (fun k => decide (k < j + 1) && ahA l i k) l.length : Nat))) ((quiet_bin rfl rfl rfl rfl rfl).cast (by rw [u64or _ _ hbm hbj, hrs]; rfl)) ?_
          refine st_ ?_
          refine hu_take 6 rfl (by kernel_rfl) (by kernel_rfl) (by kernel_rfl) (by kernel_rfl) rfl (hQD _ (by decide)) (by rw [hnt]; rfl) (allIn (by repeat (first | exact trivial | refine ⟨rfl, ?_⟩))) (by first | exact Le.refl _ | assumption) (x := .v (.pointer (some ⟨bh, i, none⟩))) ((quiet_indexA (by rw [hty]; rfl) (by rw [hty]; rfl) rfl rfl rfl (by omega) (by omega)).cast (by simp [SV.den])) ?_
          refine st_ ?_
          refine hu_last 7 [] rfl (by kernel_rfl) rfl ?_
          refine go_storeQ 6 (m := i) (by rw [hnt]; rfl) (by rw [hty]; rfl) rfl rfl rfl rfl rfl rfl hqs (by omega) (by rw [rwM_len]; simp; omega) ?_
          intro cur2 hqs2
          simp only [dens, SV.den, List.length_singleton] at hqs2
          rw [rwM_put l i j (by omega)] at hqs2
          refine rn_ ?_; intros
          refine h_end (by kernel_rfl) ?_
          refine rn_ ?_; intros
          rw [wr (n := (j : Int) + 1) (by omega) (by omega)]
          refine go_keep [3, 4, 5, 6, 7, 10, 11, 40, 41, 42, 13, 12, 53, 54, 55] [0, 1, 2, 3, 4, 5, 6, 7] ?_
          refine st_ ?_
          exact ih2 (l.length - (j + 1)) _ (by omega) ⟨j + 1, G6, cur2, by omega, rfl, hle6, hqs2, rfl⟩
        · rw [← rwM_same l i j hltj (by rw [hahA, hah])] at hqs
          refine x_skip rfl ?_
          refine rn_ ?_; intros
          rw [wr (n := (j : Int) + 1) (by omega) (by omega)]
          refine go_keep [3, 4, 5, 6, 7, 10, 11, 40, 41, 42, 13, 12, 53, 54, 55] [0, 1, 2, 3, 4, 5, 6, 7] ?_
          refine st_ ?_
          exact ih2 (l.length - (j + 1)) _ (by omega) ⟨j + 1, G6, cur', by omega, rfl, hle6, hqs, rfl⟩
      · have hge : j = l.length := by simp at hjl2; omega
        subst hge
        rw [rwM_next] at hqs
        refine rn_ ?_; intros
        rw [wr (n := (i : Int) + 1) (by omega) (by omega)]
        refine go_keep [3, 4, 5, 6, 7, 10, 11, 40, 41, 42] [0, 1, 2, 3, 4, 5, 6] ?_
        refine st_ ?_
        exact ih (l.length - (i + 1)) _ (by omega) ⟨i + 1, G6, cur', by omega, rfl, hle5.trans hle6, hqs, rfl⟩
    · have hge : i = l.length := by simp at hjl; omega
      subst hge
      rw [rwM_all] at hqs
      rw [alM_all]
      clear ih hjl hq hi
      refine rn_ ?_; intros
      refine go_keep [4, 5, 6, 73, 75, 76, 77] [0, 1, 2, 3, 4, 5, 6] ?_
      refine st_ ?_
      refine go_pub 5 rfl (by omega) ?_
      intro G6 (hle6 : Le G5 G6) hGa
      have hata := at_block hGa
      simp only [dens, SV.den] at hata
      refine st_ ?_
      refine go_pub 0 rfl (by omega) ?_
      intro G7 (hle7 : Le G6 G7) hGl
      have hatl := at_block hGl
      simp only [dens, SV.den] at hatl
      refine st_ ?_
      refine go_pub 4 rfl (by omega) ?_
      intro G8 (hle8 : Le G7 G8) hGf
      have hatf := at_block hGf
      simp only [dens, SV.den] at hatf
      refine st_ ?_
      refine go_pubx 6 (g := bh) rfl (by omega) rfl (fun w h => h) ?_
      intro G9 (hle9 : Le G8 G9) hGh
      have hath : At G9 bh 0 (ahRow l) := ⟨cur, _, _, hGh, by have := hqs.1; simp [ahRow]; omega, fun i hi => hqs.2.2 i hi⟩
      refine st_ ?_
      have hL : LineOk m K mo pt f l (.slice adl l.length capl) ba bh bf bl G9 := ⟨hn8, Rp.S_mono (hle5.trans (hle6.trans (hle7.trans (hle8.trans hle9)))) hl, hrg, hata.mono (hle7.trans (hle8.trans hle9)), hath, hatf.mono hle9, hatl.mono (hle8.trans hle9)⟩
      have hfr : freeP l.length [] ≤ l.length := Nat.le_trans List.countP_le_length (by simp)
      have hsr := search_ok m K mo pt f he l (.slice adl l.length capl) ba bh bf bl l.length ⟨[], []⟩ [] (.slice none 0 0) (.slice none 0 0) G9 hL ⟨Rp.S_nil _ _, Rp.S_nil _ _⟩ (fun ad n c h => by cases h; omega) ⟨⟨fun x h => (by cases h), fun x h => (by cases h)⟩, fun x h => (by cases h), fun _ => rfl⟩ (by simp only [List.length_nil]; omega) (by simp only [List.length_nil]; omega) hfr (by omega)
      have hm0 : msk ([] : List Nat).contains l.length = 0 := by rw [msk_zero]; intro i _; rfl
      rw [hm0] at hsr
      refine go_call (by rw [hnt]; rfl) (by rw [hP]; kernel_rfl) rfl (hP ▸ hsr) ?_
      rintro v G10 (hle10 : Le G9 G10) hv
      rcases hsrch : srch m l l.length ⟨[], []⟩ [] with _ | p
      · rw [hsrch] at hv hr0
        simp only at hr0
        subst hv
        refine rn_ ?_; intros
        refine x_held [(1, bo, .c 57 [.v (.slice none 0 0)]), (2, bi, .c 4 [.v (.bool false)])] rfl (by rw [hP]; kernel_rfl) rfl rfl rfl ?_; refine st_ ?_
        refine h_takeD 0 rfl (by kernel_rfl) (by kernel_rfl) (by kernel_rfl) (hQD _ (by decide)) (by rw [hnt]; rfl) (allIn (by repeat (first | exact trivial | refine ⟨rfl, ?_⟩))) (by first | exact Le.refl _ | assumption) (quiet_op (by rw [hty]; first | rfl | (refine st_ ?_; rfl))) ?_; refine st_ ?_
        refine h_takeD 1 rfl (by kernel_rfl) (by kernel_rfl) (by kernel_rfl) (hQD _ (by decide)) (by rw [hnt]; rfl) (allIn (by repeat (first | exact trivial | refine ⟨rfl, ?_⟩))) (by first | exact Le.refl _ | assumption) (quiet_op (by rw [hty]; first | rfl | (refine st_ ?_; rfl))) ?_; refine st_ ?_
        refine h_one 2 rfl (by kernel_rfl) ?_
        refine rn_ ?_; intros
        refine h_hs (allIn (by repeat (first | exact trivial | refine ⟨rfl, ?_⟩))) (by first | exact Le.refl _ | assumption) ?_
        refine h_one 3 rfl (by kernel_rfl) ?_
        refine rn_ ?_; intros
        refine h_hs (allIn (by repeat (first | exact trivial | refine ⟨rfl, ?_⟩))) (by first | exact Le.refl _ | assumption) ?_
        refine h_one 4 rfl (by kernel_rfl) ?_
        refine rn_ ?_; intros
        refine h_hs (allIn (by repeat (first | exact trivial | refine ⟨rfl, ?_⟩))) (by first | exact Le.refl _ | assumption) ?_
        refine h_end (by kernel_rfl) ?_
        refine rn_ ?_; intros
        refine x_retD rfl hQ hmb rfl (by rw [hP]; kernel_rfl) (ks := [3, 1, 2]) (ow := lnC be bo bi 0 _ _) rfl rfl (.inl (by intro k hk; omega)) (hP ▸ lnClo_idle be bo bi _ _ _) ?_
        rintro u' G' ow' (hle11 : Le G10 G') ⟨hs', rfl⟩
        refine ⟨hs', _, lnRes hty rfl rfl rfl rfl rfl rfl, ?_⟩
        rw [hr0]
        exact ⟨_, rfl, Rp.S_nil _ _⟩
      · rw [hsrch] at hv hr0
        simp only at hr0
        obtain ⟨slp, rfl, hSp⟩ := hv
        obtain ⟨ap, cp, e5⟩ := Rp.S_slice hSp
        subst e5
        refine rn_ ?_; intros
        refine x_held [(1, bo, .c 57 [.v (.slice ap (p.map fun i : Nat => (i : Int)).length cp)]), (2, bi, .c 4 [.v (.bool true)])] rfl (by rw [hP]; kernel_rfl) rfl rfl rfl ?_; refine st_ ?_
        refine h_takeD 0 rfl (by kernel_rfl) (by kernel_rfl) (by kernel_rfl) (hQD _ (by decide)) (by rw [hnt]; rfl) (allIn (by repeat (first | exact trivial | refine ⟨rfl, ?_⟩))) (by first | exact Le.refl _ | assumption) (quiet_op (by rw [hty]; first | rfl | (refine st_ ?_; rfl))) ?_; refine st_ ?_
        refine h_takeD 1 rfl (by kernel_rfl) (by kernel_rfl) (by kernel_rfl) (hQD _ (by decide)) (by rw [hnt]; rfl) (allIn (by repeat (first | exact trivial | refine ⟨rfl, ?_⟩))) (by first | exact Le.refl _ | assumption) (quiet_op (by rw [hty]; first | rfl | (refine st_ ?_; rfl))) ?_; refine st_ ?_
        refine h_one 2 rfl (by kernel_rfl) ?_
        refine rn_ ?_; intros
        refine h_hs (allIn (by repeat (first | exact trivial | refine ⟨rfl, ?_⟩))) (by first | exact Le.refl _ | assumption) ?_
        refine h_one 3 rfl (by kernel_rfl) ?_
        refine rn_ ?_; intros
        refine h_hs (allIn (by repeat (first | exact trivial | refine ⟨rfl, ?_⟩))) (by first | exact Le.refl _ | assumption) ?_
        refine h_one 4 rfl (by kernel_rfl) ?_
        refine rn_ ?_; intros
        refine h_hs (allIn (by repeat (first | exact trivial | refine ⟨rfl, ?_⟩))) (by first | exact Le.refl _ | assumption) ?_
        refine h_end (by kernel_rfl) ?_
        refine rn_ ?_; intros
        refine x_retD rfl hQ hmb rfl (by rw [hP]; kernel_rfl) (ks := [3, 1, 2]) (ow := lnC be bo bi 0 _ _) rfl rfl (.inl (by intro k hk; omega)) (hP ▸ lnClo_idle be bo bi _ _ _) ?_
        rintro u' G' ow' (hle11 : Le G10 G') ⟨hs', rfl⟩
        refine ⟨hs', _, lnRes hty rfl rfl rfl rfl rfl rfl, ?_⟩
        rw [hr0]
        exact ⟨_, rfl, Rp.S_mono hle11 hSp⟩
end Go.Proofs.Ytpmmbjcgabnloaa
namespace Go.Proofs.Ytpmmbjcgabnloaa
set_option linter.unusedSimpArgs false
set_option linter.unusedVariables false
open Go.Sx
set_option maxHeartbeats 8000000
set_option maxRecDepth 20000
end Go.Proofs.Ytpmmbjcgabnloaa
namespace Go.Proofs.Ytpmmbjcgabnloaa
set_option linter.unusedSimpArgs false
set_option linter.unusedVariables false
open Go.Sx
set_option maxHeartbeats 8000000
set_option maxRecDepth 20000
end Go.Proofs.Ytpmmbjcgabnloaa
namespace Go.Proofs.Ytpmmbjcgabnloaa
set_option linter.unusedSimpArgs false
set_option linter.unusedVariables false
open Go.Sx
set_option maxHeartbeats 8000000
set_option maxRecDepth 20000
end Go.Proofs.Ytpmmbjcgabnloaa
namespace Go.Proofs.Ytpmmbjcgabnloaa
set_option linter.unusedSimpArgs false
set_option linter.unusedVariables false
open Go.Sx
set_option maxHeartbeats 8000000
set_option maxRecDepth 20000
theorem ints_ok (a b : List Int) (sa sb : Value) (G : Hp) (ha : rI.S G a sa) (hb : rI.S G b sb) : Pure Try.prog 23 [sa, sb] G (fun v _ => v = .bool (a == b)) := by
  have ha63 := Rp.S_len ha
  obtain ⟨ada, capa, rfl⟩ := Rp.S_slice ha
  obtain ⟨adb, capb, rfl⟩ := Rp.S_slice hb
  refine enterX ty tyok Try.func23 rfl Try.ntmps23 [.v (.slice ada a.length capa), .v (.slice adb b.length capb)] (by simp) ?_
  intro C hP hQ hnt hty hmb hmh hro; have hQp := qp_body hQ; refine st_ ?_
  refine rn_ ?_; intros
  refine x_if rfl rfl rfl rfl (fun hne => ?_) (fun hne => ?_)
  · refine rn_ ?_; intros
    refine x_retc rfl hQ hmb rfl (by rw [hty]; simp only [so, sq, zy, zz, tyE, SO', SQ', opQ, opStore, opAlloc, ev, putS, dOk, cv, SV.cs, SV.one, SV.bool?, eqB, Value.oneCell', ldOwn, binInt, binConst, binBool, binStr, isC, TK.agg, rv, rv1, ldV, resOne, resV, Nat.reduceAdd, Nat.reduceMul, Nat.reduceSub, Nat.reduceLT, Nat.reduceLeDiff, Nat.reduceEqDiff, Nat.reduceBEq, reduceIte, reduceCtorEq, eq_self]; try rfl) rfl ?_; simp only [SV.den, resV, dens]
    congr 1
    symm
    rw [beq_eq_false_iff_ne]
    rintro rfl
    simp at hne
  have hln : a.length = b.length := by simp at hne; omega
  refine rn_ ?_; intros
  refine go_keep [0, 1, 4, 5] [] ?_
  refine st_ ?_
  refine x_loop rfl (fun q st => ∃ (k : Nat), k ≤ a.length ∧ q = a.length - k ∧ a.take k = b.take k ∧
    st = ⟨[(0, .v (.slice ada a.length capa)), (1, .v (.slice adb b.length capb)), (4, .b false), (5, .v (.int .i64 k))], [], G, []⟩) ⟨0, by omega, rfl, rfl, rfl⟩ ?_
  rintro q st ⟨k, hk, hq, hno, rfl⟩ ih
  refine rn_ ?_; intros
  refine x_if rfl rfl rfl rfl (fun hjl => ?_) (fun hjl => ?_)
  · have hlt : k < a.length := by simp at hjl; omega
    have hltb : k < b.length := by omega
    obtain ⟨b1, off, cap', c, hv, hat, hc⟩ := Rp.S_get ha hlt
    cases hv
    simp only [rI] at hat hc
    obtain ⟨rfl, _⟩ := hc
    rw [Nat.mul_one] at hat
    obtain ⟨b2, off2, cap2, c2, hv2, hat2, hc2⟩ := Rp.S_get hb hltb
    cases hv2
    simp only [rI] at hat2 hc2
    obtain ⟨rfl, _⟩ := hc2
    rw [Nat.mul_one] at hat2
    refine rn_ ?_; intros
    refine x_draw rfl (by rw [hP]; kernel_rfl) rfl (by kernel_rfl) ?_
    refine runq 400 hty hnt ?_; refine st_ ?_
    refine q_q (by rw [hnt]; rfl) (quiet_index (by rw [hty]; rfl) (by rw [hty]; rfl) rfl rfl rfl (by omega) (by omega)) ?_; refine runq 400 hty hnt ?_; refine st_ ?_
    refine q_q (v := .int .i64 a[k]) (by rw [hnt]; rfl) ((quiet_load (vs := [.int .i64 a[k]]) (by rw [hty]; rfl) rfl (by simp [TK.agg]) (by simpa using hat) rfl).cast (by rfl)) ?_
    refine runq 400 hty hnt ?_; refine st_ ?_
    refine q_q (by rw [hnt]; rfl) (quiet_index (by rw [hty]; rfl) (by rw [hty]; rfl) rfl rfl rfl (by omega) (by omega)) ?_; refine runq 400 hty hnt ?_; refine st_ ?_
    refine q_q (v := .int .i64 b[k]) (by rw [hnt]; rfl) ((quiet_load (vs := [.int .i64 b[k]]) (by rw [hty]; rfl) rfl (by simp [TK.agg]) (by simpa using hat2) rfl).cast (by rfl)) ?_
    refine runq 400 hty hnt ?_; refine st_ ?_
    refine q_end ?_; refine rn_ ?_; intros
    refine x_split rfl rfl rfl (fun he => ?_) (fun he => ?_) <;> (refine st_ ?_; (refine ru_ ?_; intros))
    · have he' : a[k] ≠ b[k] := by simpa using he
      refine rn_ ?_; intros
      refine x_retc rfl hQ hmb rfl (by rw [hty]; simp only [so, sq, zy, zz, tyE, SO', SQ', opQ, opStore, opAlloc, ev, putS, dOk, cv, SV.cs, SV.one, SV.bool?, eqB, Value.oneCell', ldOwn, binInt, binConst, binBool, binStr, isC, TK.agg, rv, rv1, ldV, resOne, resV, Nat.reduceAdd, Nat.reduceMul, Nat.reduceSub, Nat.reduceLT, Nat.reduceLeDiff, Nat.reduceEqDiff, Nat.reduceBEq, reduceIte, reduceCtorEq, eq_self]; try rfl) rfl ?_; simp only [SV.den, resV, dens]
      congr 1
      symm
      rw [beq_eq_false_iff_ne]
      rintro rfl
      exact he' rfl
    · have he' : a[k] = b[k] := by simpa using he
      refine rn_ ?_; intros
      rw [wr (n := (k : Int) + 1) (by omega) (by omega)]
      refine go_keep [0, 1, 4, 5] [] ?_
      refine st_ ?_
      exact ih (a.length - (k + 1)) _ (by omega) ⟨k + 1, by omega, rfl, by rw [← List.take_append_getElem hlt, ← List.take_append_getElem hltb, hno, he'], rfl⟩
  · have hge : k = a.length := by simp at hjl; omega
    subst hge
    rw [List.take_length, hln, List.take_length] at hno
    refine rn_ ?_; intros
    refine x_retc rfl hQ hmb rfl (by rw [hty]; simp only [so, sq, zy, zz, tyE, SO', SQ', opQ, opStore, opAlloc, ev, putS, dOk, cv, SV.cs, SV.one, SV.bool?, eqB, Value.oneCell', ldOwn, binInt, binConst, binBool, binStr, isC, TK.agg, rv, rv1, ldV, resOne, resV, Nat.reduceAdd, Nat.reduceMul, Nat.reduceSub, Nat.reduceLT, Nat.reduceLeDiff, Nat.reduceEqDiff, Nat.reduceBEq, reduceIte, reduceCtorEq, eq_self]; try rfl) rfl ?_; simp only [SV.den, resV, dens]
    rw [hno]
    simp
end Go.Proofs.Ytpmmbjcgabnloaa
