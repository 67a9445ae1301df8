/-
  What an argument of the type api.Val reads as: a tree that lies in the heap.
-/
import Derived.Test.YtimoldnagdlbcaaV10
import Derived.Deep.Strs
import Derived.Deep.Slices
namespace Go.Proofs.Ytimoldnagdlbcaa
set_option linter.unusedSimpArgs false
set_option linter.unusedVariables false
open Go.Sx

/-- The blocks of a world. -/
def hp (w : World) : Hp := fun b => w.heap[b]?
theorem has_hp (w : World) : Has w (hp w) := fun _ _ h => h

section
variable {H : Type}
set_option maxRecDepth 20000
theorem gather {w : World} {b : Nat} : ∀ (ds : List (DataW H)) (off : Nat),
    (∀ i (h : i < ds.length), ∃ t sl, w.cell? ⟨b, off + i * 3, none⟩ = some (.int .i64 (VT.k t)) ∧ w.cell? ⟨b, off + i * 3 + 1, none⟩ = some (.int .i64 t.n) ∧ w.cell? ⟨b, off + i * 3 + 2, none⟩ = some sl ∧ t.rep (hp w) sl ∧ tsz t ≤ Rows.uptoBulk ds[i]) →
    ∃ (l : List VT) (cs : List Value), l.length = ds.length ∧ repV (hp w) l cs ∧ (∀ i, i < cs.length → w.cell? ⟨b, off + i, none⟩ = cs[i]?) ∧ tszL l ≤ Rows.uptoBulkAll ds
  | [], _, _ => ⟨[], [], rfl, by simp [repV], by simp, by simp [tszL, Rows.uptoBulkAll]⟩
  | d :: ds, off, h => by
    obtain ⟨t, sl, h0, h1, h2, hr, hb⟩ := h 0 (by simp)
    obtain ⟨l, cs, hl, hrV, hcs, hbs⟩ := gather ds (off + 3) (fun i hi => by
      obtain ⟨t, sl, h0, h1, h2, hr, hb⟩ := h (i + 1) (by simpa using hi)
      have e : off + (i + 1) * 3 = off + 3 + i * 3 := by omega
      rw [e] at h0 h1 h2
      exact ⟨t, sl, h0, h1, h2, hr, by simpa using hb⟩)
    refine ⟨t :: l, .int .i64 t.k :: .int .i64 t.n :: sl :: cs, by simp [hl], ?_, ?_, ?_⟩
    · simp only [repV]
      exact ⟨sl, cs, rfl, hr, hrV⟩
    · intro i hi
      match i, hi with
      | 0, _ => simpa using h0
      | 1, _ => simpa using h1
      | 2, _ => simpa using h2
      | i + 3, hi =>
        have := hcs i (by simpa using hi)
        rw [show off + (i + 3) = off + 3 + i by omega, this]
        simp
    · simp only [tszL, Rows.uptoBulkAll]
      simp only [List.getElem_cons_zero] at hb
      omega

theorem at_of_cells {w : World} {b off : Nat} {cs : List Value} (h0 : 0 < cs.length) (h : ∀ i, i < cs.length → w.cell? ⟨b, off + i, none⟩ = cs[i]?) : At (hp w) b off cs := by
  have h1 := h 0 h0
  rw [List.getElem?_eq_getElem h0] at h1
  unfold World.cell? at h1 h
  cases hb : w.heap[b]? with
  | none => simp [hb] at h1
  | some o =>
    cases o with
    | cells arr e fz =>
      simp only [hb, Option.isSome_none, Bool.false_eq_true, if_false] at h
      refine ⟨arr, e, fz, hb, ?_, fun i hi => h i hi⟩
      have := h (cs.length - 1) (by omega)
      rw [List.getElem?_eq_getElem (show cs.length - 1 < cs.length by omega)] at this
      obtain ⟨hlt, _⟩ := Array.getElem?_eq_some_iff.1 this
      omega
    | _ => simp [hb] at h1

variable {enc : TypeId × Value → H}
theorem cells3 : Try.prog.cellsOf 25 = 3 := by kernel_rfl
theorem wf_i64 {n : Int} (h : (Lit.int .i64 n).wf = true) : isI64 n := by
  simpa [Lit.wf, IntKind.min, IntKind.max, IntKind.signed, IntKind.bits, isI64] using h

set_option maxHeartbeats 1000000 in
theorem open_val {w : World} : ∀ (N n : Nat) (d : DataW H) (ps : List MemPlace) (cs : List Value), Rows.uptoBulk d ≤ N → DataW.trod enc Try.prog w 0 (fun _ => true) true n 25 cs = some (d, ps) →
    ∃ (t : VT) (sl : Value), cs = [.int .i64 t.k, .int .i64 t.n, sl] ∧ t.rep (hp w) sl ∧ tsz t ≤ Rows.uptoBulk d := by
  intro N
  induction N with
  | zero =>
    intro n d ps cs hb h
    obtain ⟨y0, y1, y2, m, hx, _⟩ := Deep.trod_struct3 Try.underlying25 h
    cases hx
    simp [Rows.uptoBulk] at hb
  | succ N ih =>
    intro n d ps cs hb h
    obtain ⟨y0, y1, y2, m, hx, hlen, h0, h1, h2⟩ := Deep.trod_struct3 Try.underlying25 h
    cases hx
    rw [cells3] at hlen
    match cs, hlen with
    | [c0, c1, c2], _ =>
    have e1 : Try.prog.cellsOf 22 = 1 := by kernel_rfl
    have e2 : Try.prog.cellsOf 2 = 1 := by kernel_rfl
    have e3 : Try.prog.cellsOf 23 = 1 := by kernel_rfl
    simp only [e1, e2, e3, List.drop_zero, List.drop_succ_cons, List.take_succ_cons, List.take_zero] at h0 h1 h2
    obtain ⟨k, hk, hy0, hwk⟩ := DataW.trod_int Try.underlying22 h0
    obtain ⟨nn, hn, hy1, hwn⟩ := DataW.trod_int Try.underlying2 h1
    cases hk
    cases hn
    subst hy0 hy1
    have hs := Deep.open_slice Try.underlying23 h2
    rcases hs with ⟨hc, hy⟩ | ⟨a, len, cap, mm, n', D, Pl, hc, _, hle, hcap, hmm, hy, hel⟩
    · cases hc
      subst hy
      exact ⟨.mk k nn [], _, rfl, rep_leaf _ k nn (wf_i64 hwk) (wf_i64 hwn), by simp [tsz, tszL, Rows.uptoBulk, Rows.uptoBulkAll]⟩
    · cases hc
      subst hy
      simp only [if_true] at hmm
      subst hmm
      simp only [Rows.uptoBulk, Rows.uptoBulkAll] at hb ⊢
      have hml : len ≤ 9223372036854775807 := Nat.le_trans (Nat.le_trans hle hcap) (by decide)
      by_cases hz : len = 0
      · subst hz
        refine ⟨.mk k nn [], _, rfl, ?_, by simp only [tsz, tszL]; omega⟩
        rw [rep_iff]
        exact ⟨wf_i64 hwk, wf_i64 hwn, by simp, _, _, rfl, .inl rfl⟩
      · have hel0 := hel 0 (by omega)
        obtain ⟨b, off, spot⟩ := a
        have hspot : spot = none := by
          obtain ⟨cs', q1, _⟩ := hel0
          rw [cells3] at q1
          obtain ⟨_, q2, q3⟩ := World.cells?_some q1
          have q4 := q3 0 (by omega)
          rw [List.getElem?_eq_getElem (by omega)] at q4
          simpa [Addr.add] using World.cell?_spot q4
        subst hspot
        have key := gather (w := w) (b := b) ((List.range len).map D) off (fun i hi => by
          have hi' : i < len := by simpa using hi
          obtain ⟨cs', q1, q2⟩ := hel i (by omega)
          rw [cells3] at q1
          have hmem : D i ∈ (List.range len).map D := List.mem_map.2 ⟨i, by simpa using hi', rfl⟩
          have hbi : Rows.uptoBulk (D i) ≤ Rows.uptoBulkAll ((List.range len).map D) := by
            clear hb ih hel
            generalize (List.range len).map D = L at hmem
            induction L with
            | nil => simp at hmem
            | cons x r ihr =>
              simp only [Rows.uptoBulkAll]
              rcases List.mem_cons.1 hmem with rfl | hm
              · omega
              · have := ihr hm; omega
          obtain ⟨t, sl, rfl, hr, hbt⟩ := ih n' (D i) (Pl i) cs' (by omega) q2
          obtain ⟨_, _, q3⟩ := World.cells?_some q1
          have a0 := q3 0 (by omega)
          have a1 := q3 1 (by omega)
          have a2 := q3 2 (by omega)
          rw [Deep.add_add] at a0 a1 a2
          have ea : ∀ j, (Addr.mk b off none).add j = ⟨b, off + j, none⟩ := by
            intro j
            unfold Addr.add
            split
            · subst_vars; rfl
            · rfl
          rw [ea] at a0 a1 a2
          refine ⟨t, sl, by simpa using a0, by simpa [Nat.add_assoc] using a1, by simpa [Nat.add_assoc] using a2, hr, by simpa using hbt⟩)
        obtain ⟨l, cs, hl, hrV, hcs, hbs⟩ := key
        have hll : l.length = len := by simpa using hl
        have hcl := repV_len hrV
        refine ⟨.mk k nn l, .slice (some ⟨b, off, none⟩) len _, rfl, ?_, ?_⟩
        · rw [rep_iff]
          exact ⟨wf_i64 hwk, wf_i64 hwn, by omega, _, _, by rw [hll], .inr ⟨_, _, _, rfl, at_of_cells (by omega) hcs, hrV⟩⟩
        · simp only [tsz]
          omega

theorem open_vals {w : World} (n : Nat) (d : DataW H) (ps : List MemPlace) (a : Option Addr) (len cap : Nat) (h : DataW.trod enc Try.prog w 0 (fun _ => true) true n 23 [.slice a len cap] = some (d, ps)) :
    ∃ l : List VT, repS (hp w) l (.slice a len cap) ∧ tszL l ≤ Rows.uptoBulk d := by
  have hs := Deep.open_slice Try.underlying23 h
  rcases hs with ⟨hc, hy⟩ | ⟨a', len', cap', mm, n', D, Pl, hc, _, hle, hcap, hmm, hy, hel⟩
  · cases hc
    exact ⟨[], ⟨by simp, none, 0, rfl, .inl rfl⟩, by simp [tszL]⟩
  · cases hc
    obtain ⟨rfl, rfl⟩ := Prod.mk.inj hy
    simp only [if_true] at hmm
    subst hmm
    have hml : len ≤ 9223372036854775807 := Nat.le_trans (Nat.le_trans hle hcap) (by decide)
    by_cases hz : len = 0
    · subst hz
      exact ⟨[], ⟨by simp, _, _, rfl, .inl rfl⟩, by simp [tszL]⟩
    · have hel0 := hel 0 (by omega)
      obtain ⟨b, off, spot⟩ := a'
      have hspot : spot = none := by
        obtain ⟨cs', q1, _⟩ := hel0
        rw [cells3] at q1
        obtain ⟨_, q2, q3⟩ := World.cells?_some q1
        have q4 := q3 0 (by omega)
        rw [List.getElem?_eq_getElem (by omega)] at q4
        simpa [Addr.add] using World.cell?_spot q4
      subst hspot
      have key := gather (w := w) (b := b) ((List.range len).map D) off (fun i hi => by
        have hi' : i < len := by simpa using hi
        obtain ⟨cs', q1, q2⟩ := hel i (by omega)
        rw [cells3] at q1
        obtain ⟨t, sl, rfl, hr, hbt⟩ := open_val _ n' (D i) (Pl i) cs' (Nat.le_refl _) q2
        obtain ⟨_, _, q3⟩ := World.cells?_some q1
        have a0 := q3 0 (by omega)
        have a1 := q3 1 (by omega)
        have a2 := q3 2 (by omega)
        rw [Deep.add_add] at a0 a1 a2
        have ea : ∀ j, (Addr.mk b off none).add j = ⟨b, off + j, none⟩ := by
          intro j
          unfold Addr.add
          split
          · subst_vars; rfl
          · rfl
        rw [ea] at a0 a1 a2
        refine ⟨t, sl, by simpa using a0, by simpa [Nat.add_assoc] using a1, by simpa [Nat.add_assoc] using a2, hr, by simpa using hbt⟩)
      obtain ⟨l, cs, hl, hrV, hcs, hbs⟩ := key
      have hll : l.length = len := by simpa using hl
      have hcl := repV_len hrV
      refine ⟨l, ⟨by omega, _, _, by rw [hll], .inr ⟨_, _, _, rfl, at_of_cells (by omega) hcs, hrV⟩⟩, ?_⟩
      simp only [Rows.uptoBulk]
      omega
end
end Go.Proofs.Ytimoldnagdlbcaa
