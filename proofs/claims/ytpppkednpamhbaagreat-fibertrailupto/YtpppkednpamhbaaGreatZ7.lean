/-
  Rows.FiberTrailUptoSaid is proved here: for arguments of bulk at most 1048576.
-/
import Derived.Test.YtpppkednpamhbaaGreatZ6
import Derived.Deep.Strs
import Derived.Deep.Slices
import Derived.WalkKit
import Derived.ProofKit
import Derived.OpenShut
import Derived.JoinedCond
import Derived.Carry
set_option linter.unusedSimpArgs false
set_option linter.unusedVariables false
namespace Go.Sx
set_option linter.unusedSimpArgs false
set_option linter.unusedVariables false
open Go.RowKit

def hp (w : World) : Hp := fun b => w.heap[b]?
theorem has_hp (w : World) : Has w (hp w) := fun _ _ h => h
theorem at_of_cells {w : World} {b off : Nat} {cs : List Value} (h0 : 0 < cs.length) (h : ∀ i, i < cs.length → w.cell? ⟨b, off + i, none⟩ = cs[i]?) : At (hp w) b off cs := by
  have h1 := h 0 h0
  rw [List.getElem?_eq_getElem h0] at h1
  unfold World.cell? at h1 h
  cases hb : w.heap[b]? with
  | none => simp [hb] at h1
  | some o =>
    cases o with
    | cells arr e fz =>
      simp only [hb, Option.isSome_none, Bool.false_eq_true, if_false] at h
      refine ⟨arr, e, fz, hb, ?_, fun i hi => h i hi⟩
      have := h (cs.length - 1) (by omega)
      rw [List.getElem?_eq_getElem (show cs.length - 1 < cs.length by omega)] at this
      obtain ⟨hlt, _⟩ := Array.getElem?_eq_some_iff.1 this
      omega
    | _ => simp [hb] at h1
theorem wf_i64 {n : Int} (h : (Lit.int .i64 n).wf = true) : isI64 n := by
  simpa [Lit.wf, IntKind.min, IntKind.max, IntKind.signed, IntKind.bits, isI64] using h
theorem gatherL {α : Type} {r : Rp α} {w : World} {b : Nat} : ∀ (n off : Nat),
    (∀ i, i < n → ∃ x cs', r.e (hp w) x cs' ∧ ∀ j, j < r.size → w.cell? ⟨b, off + i * r.size + j, none⟩ = cs'[j]?) →
    ∃ (l : List α) (cs : List Value), l.length = n ∧ r.L (hp w) l cs ∧ ∀ i, i < cs.length → w.cell? ⟨b, off + i, none⟩ = cs[i]?
  | 0, off, _ => ⟨[], [], rfl, rfl, by simp⟩
  | n + 1, off, h => by
    obtain ⟨x, c0, hx, h0⟩ := h 0 (by omega)
    obtain ⟨l, cs, hl, hL, hcs⟩ := gatherL (r := r) (w := w) (b := b) n (off + r.size) (fun i hi => by
      obtain ⟨x, c, hx, hc⟩ := h (i + 1) (by omega)
      refine ⟨x, c, hx, fun j hj => ?_⟩
      rw [← hc j hj]
      congr 2
      rw [Nat.succ_mul]; omega)
    have hlen := r.len hx
    refine ⟨x :: l, c0 ++ cs, by simp [hl], ⟨c0, cs, rfl, hx, hL⟩, fun i hi => ?_⟩
    rcases Nat.lt_or_ge i r.size with q | q
    · rw [List.getElem?_append_left (by omega)]
      have := h0 i q
      simpa using this
    · rw [List.getElem?_append_right (by omega), ← hcs (i - c0.length) (by simp at hi; omega)]
      congr 2; omega
section
variable {H : Type} {enc : TypeId × Value → H} {P : Program} {w : World}
theorem add_eq (b off j : Nat) : (Addr.mk b off none).add j = ⟨b, off + j, none⟩ := by
  unfold Addr.add
  split
  · subst_vars; rfl
  · rfl
theorem open_list {α : Type} (r : Rp α) {t e : TypeId} (ht : P.underlying t = some (.slice e)) (hsz : P.cellsOf e = r.size) (hpos : 0 < r.size)
    (hel : ∀ n d ps cs, DataW.trod enc P w 0 (fun _ => true) true n e cs = some (d, ps) → cs.length = r.size → ∃ x, r.e (hp w) x cs)
    {n : Nat} {d : DataW H} {ps : List MemPlace} {cs : List Value} (h : DataW.trod enc P w 0 (fun _ => true) true n t cs = some (d, ps)) : ∃ (sl : Value) (l : List α), cs = [sl] ∧ r.S (hp w) l sl := by
  have hs := Deep.open_slice ht h
  rcases hs with ⟨hc, hy⟩ | ⟨a, len, cap, mm, n', D, Pl, hc, _, hle, hcap, hmm, hy, hel2⟩
  · exact ⟨_, [], hc, Rp.S_nil _ _⟩
  · simp only [if_true] at hmm
    subst hmm
    have hml : len ≤ 9223372036854775807 := Nat.le_trans (Nat.le_trans hle hcap) (by decide)
    by_cases hz : len = 0
    · subst hz
      exact ⟨_, [], hc, Rp.S_nil _ _⟩
    · obtain ⟨b, off, spot⟩ := a
      rw [hsz] at hel2
      have hspot : spot = none := by
        obtain ⟨cs', q1, _⟩ := hel2 0 (by omega)
        obtain ⟨_, q2, q3⟩ := World.cells?_some q1
        have q4 := q3 0 (by omega)
        rw [List.getElem?_eq_getElem (by omega)] at q4
        simpa [Addr.add] using World.cell?_spot q4
      subst hspot
      obtain ⟨l, cs2, hl, hL, hcs⟩ := gatherL (r := r) (w := w) (b := b) len off (fun i hi => by
        obtain ⟨cs', q1, q2⟩ := hel2 i (by omega)
        obtain ⟨_, q3, q4⟩ := World.cells?_some q1
        obtain ⟨x, hx⟩ := hel _ _ _ _ q2 (by omega)
        refine ⟨x, cs', hx, fun j hj => ?_⟩
        have := q4 j (by omega)
        rw [Deep.add_add, add_eq] at this
        rw [← this, Nat.add_assoc])
      have hlen := Rp.L_len hL
      have hcl : 0 < cs2.length := by rw [hlen, hl]; exact Nat.mul_pos (by omega) hpos
      exact ⟨_, l, hc, by rw [hl]; exact hml, _, _, by rw [hl], .inr ⟨_, _, _, rfl, at_of_cells hcl hcs, hL⟩⟩
theorem trod_struct2 {t : TypeId} {f0 f1 : Field} {fuel : Nat} {cs : List Value} {x : DataW H × List MemPlace} {base : Nat} {spare : Nat → Bool} {held : Bool} (ht : P.underlying t = some (.struct #[f0, f1])) (h : DataW.trod enc P w base spare held fuel t cs = some x) :
    ∃ y0 y1 n, x = (.agg [y0.1, y1.1], y0.2 ++ y1.2) ∧ cs.length = P.cellsOf t ∧ DataW.trod enc P w base spare held n f0.type ((cs.drop f0.offset).take (P.cellsOf f0.type)) = some y0 ∧
      DataW.trod enc P w base spare held n f1.type ((cs.drop f1.offset).take (P.cellsOf f1.type)) = some y1 := by
  obtain ⟨xs, n, _, rfl, hl, hlen, hf⟩ := DataW.trod_struct ht h
  match xs, hlen with
  | [y0, y1], _ => exact ⟨y0, y1, n, by simp, hl, by simpa using hf 0 f0 rfl, by simpa using hf 1 f1 rfl⟩
theorem open_int1 {T : TypeId} (hT : P.underlying T = some (.int .i64)) (hc : P.cellsOf T = 1) {n : Nat} {x : DataW H × List MemPlace} {cs : List Value} (h : DataW.trod enc P w 0 (fun _ => true) true n T cs = some x) : ∃ k, cs = [.int .i64 k] ∧ isI64 k := by
  obtain ⟨k, hk, _, hw⟩ := DataW.trod_int hT h
  exact ⟨k, hk, wf_i64 hw⟩
theorem open_ints {t e : TypeId} (ht : P.underlying t = some (.slice e)) (he : P.underlying e = some (.int .i64)) (hc : P.cellsOf e = 1) {n : Nat} {d : DataW H} {ps : List MemPlace} {cs : List Value} (h : DataW.trod enc P w 0 (fun _ => true) true n t cs = some (d, ps)) : ∃ (sl : Value) (l : List Int), cs = [sl] ∧ rI.S (hp w) l sl :=
  open_list rI ht hc (by decide) (fun n d ps cs h _ => by
    obtain ⟨k, rfl, hk⟩ := open_int1 he hc h
    exact ⟨k, rfl, hk⟩) h
end
end Go.Sx
namespace Go.Proofs.YtpppkednpamhbaaGreat
set_option linter.unusedSimpArgs false
set_option linter.unusedVariables false
open Go.Sx
set_option maxRecDepth 20000
section
variable {H : Type} {enc : TypeId × Value → H} {w : World}
theorem open_node {n : Nat} {d : DataW H} {ps : List MemPlace} {cs : List Value} (h : DataW.trod enc Tryz.prog w 0 (fun _ => true) true n 110 cs = some (d, ps)) : ∃ x : Nd, rN.e (hp w) x cs := by
  obtain ⟨y0, y1, y2, m, _, hlen, h0, h1, h2⟩ := Deep.trod_struct3 Tryz.underlying110 h
  rw [show Tryz.prog.cellsOf 110 = 3 by kernel_rfl] at hlen
  match cs, hlen with
  | [c0, c1, c2], _ =>
  have e1 : Tryz.prog.cellsOf 107 = 1 := by kernel_rfl
  have e2 : Tryz.prog.cellsOf 2 = 1 := by kernel_rfl
  have e3 : Tryz.prog.cellsOf 108 = 1 := by kernel_rfl
  simp only [e1, e2, e3, List.drop_zero, List.drop_succ_cons, List.take_succ_cons, List.take_zero] at h0 h1 h2
  obtain ⟨k, hk, wk⟩ := open_int1 Tryz.underlying107 e1 h0
  obtain ⟨m, hm, wm⟩ := open_int1 Tryz.underlying2 e2 h1
  obtain ⟨sl, l, hs, hS⟩ := open_ints Tryz.underlying108 Tryz.underlying3 (by kernel_rfl) h2
  cases hk; cases hm; cases hs
  exact ⟨⟨k, m, l⟩, _, rfl, wk, wm, hS⟩
theorem open_fun {n : Nat} {d : DataW H} {ps : List MemPlace} {cs : List Value} (h : DataW.trod enc Tryz.prog w 0 (fun _ => true) true n 64 cs = some (d, ps)) : ∃ (f : Fu) (ns : Value), cs = [.int .i64 f.params, ns] ∧ isI64 f.params ∧ rN.S (hp w) f.nodes ns := by
  obtain ⟨y0, y1, m, _, hlen, h0, h1⟩ := trod_struct2 Tryz.underlying64 h
  rw [show Tryz.prog.cellsOf 64 = 2 by kernel_rfl] at hlen
  match cs, hlen with
  | [c0, c1], _ =>
  have e1 : Tryz.prog.cellsOf 3 = 1 := by kernel_rfl
  have e2 : Tryz.prog.cellsOf 62 = 1 := by kernel_rfl
  simp only [e1, e2, List.drop_zero, List.drop_succ_cons, List.take_succ_cons, List.take_zero] at h0 h1
  obtain ⟨k, hk, wk⟩ := open_int1 Tryz.underlying3 e1 h0
  obtain ⟨sl, l, hs, hS⟩ := open_list rN Tryz.underlying62 (by kernel_rfl) (by decide) (fun n d ps cs h _ => open_node h) h1
  cases hk; cases hs
  exact ⟨⟨k, l⟩, _, rfl, wk, hS⟩
end
end Go.Proofs.YtpppkednpamhbaaGreat
namespace Go.Proofs.YtpppkednpamhbaaGreat
set_option linter.unusedSimpArgs false
set_option linter.unusedVariables false
open Go.Sx
set_option maxRecDepth 20000
section
variable {H : Type} {enc : TypeId × Value → H} {w : World}
theorem trod_struct1 {P : Program} {t : TypeId} {f0 : Field} {fuel : Nat} {cs : List Value} {x : DataW H × List MemPlace} {base : Nat} {spare : Nat → Bool} {held : Bool} (ht : P.underlying t = some (.struct #[f0])) (h : DataW.trod enc P w base spare held fuel t cs = some x) :
    ∃ y0 n, x = (.agg [y0.1], y0.2) ∧ cs.length = P.cellsOf t ∧ DataW.trod enc P w base spare held n f0.type ((cs.drop f0.offset).take (P.cellsOf f0.type)) = some y0 := by
  obtain ⟨xs, n, _, rfl, hl, hlen, hf⟩ := DataW.trod_struct ht h
  match xs, hlen with
  | [y0], _ => exact ⟨y0, n, by simp, hl, by simpa using hf 0 f0 rfl⟩
theorem open_funs {n : Nat} {d : DataW H} {ps : List MemPlace} {cs : List Value} (h : DataW.trod enc Tryz.prog w 0 (fun _ => true) true n 22 cs = some (d, ps)) : ∃ (sl : Value) (l : Pr), cs = [sl] ∧ rF.S (hp w) l sl :=
  open_list rF Tryz.underlying22 (by kernel_rfl) (by decide) (fun n d ps cs h _ => by
    obtain ⟨f, ns, rfl, h1, h2⟩ := open_fun h
    exact ⟨f, ns, rfl, h1, h2⟩) h
theorem open_prog {n : Nat} {d : DataW H} {ps : List MemPlace} {cs : List Value} (h : DataW.trod enc Tryz.prog w 0 (fun _ => true) true n 24 cs = some (d, ps)) : ∃ (p : Pr) (sl : Value), cs = [sl] ∧ rF.S (hp w) p sl := by
  obtain ⟨y0, m, _, hlen, h0⟩ := trod_struct1 Tryz.underlying24 h
  rw [show Tryz.prog.cellsOf 24 = 1 by kernel_rfl] at hlen
  match cs, hlen with
  | [c0], _ =>
  have e1 : Tryz.prog.cellsOf 22 = 1 := by kernel_rfl
  simp only [e1, List.drop_zero, List.take_succ_cons, List.take_zero] at h0
  obtain ⟨sl, l, hs, hS⟩ := open_funs h0
  exact ⟨l, sl, hs, hS⟩
end
end Go.Proofs.YtpppkednpamhbaaGreat
namespace Go.Proofs.YtpppkednpamhbaaGreat
set_option linter.unusedSimpArgs false
set_option linter.unusedVariables false
open Go.Sx

def hp (w : World) : Hp := fun b => w.heap[b]?
theorem has_hp (w : World) : Has w (hp w) := fun _ _ h => h

section
variable {H : Type}
set_option maxRecDepth 20000
theorem gather {w : World} {b : Nat} : ∀ (ds : List (DataW H)) (off : Nat),
    (∀ i (h : i < ds.length), ∃ t sl, w.cell? ⟨b, off + i * 3, none⟩ = some (.int .i64 (VT.k t)) ∧ w.cell? ⟨b, off + i * 3 + 1, none⟩ = some (.int .i64 t.n) ∧ w.cell? ⟨b, off + i * 3 + 2, none⟩ = some sl ∧ t.rep (hp w) sl ∧ tsz t ≤ Rows.uptoBulk ds[i]) →
    ∃ (l : List VT) (cs : List Value), l.length = ds.length ∧ repV (hp w) l cs ∧ (∀ i, i < cs.length → w.cell? ⟨b, off + i, none⟩ = cs[i]?) ∧ tszL l ≤ Rows.uptoBulkAll ds
  | [], _, _ => ⟨[], [], rfl, by simp [repV], by simp, by simp [tszL, Rows.uptoBulkAll]⟩
  | d :: ds, off, h => by
    obtain ⟨t, sl, h0, h1, h2, hr, hb⟩ := h 0 (by simp)
    obtain ⟨l, cs, hl, hrV, hcs, hbs⟩ := gather ds (off + 3) (fun i hi => by
      obtain ⟨t, sl, h0, h1, h2, hr, hb⟩ := h (i + 1) (by simpa using hi)
      have e : off + (i + 1) * 3 = off + 3 + i * 3 := by omega
      rw [e] at h0 h1 h2
      exact ⟨t, sl, h0, h1, h2, hr, by simpa using hb⟩)
    refine ⟨t :: l, .int .i64 t.k :: .int .i64 t.n :: sl :: cs, by simp [hl], ?_, ?_, ?_⟩
    · simp only [repV]
      exact ⟨sl, cs, rfl, hr, hrV⟩
    · intro i hi
      match i, hi with
      | 0, _ => simpa using h0
      | 1, _ => simpa using h1
      | 2, _ => simpa using h2
      | i + 3, hi =>
        have := hcs i (by simpa using hi)
        rw [show off + (i + 3) = off + 3 + i by omega, this]
        simp
    · simp only [tszL, Rows.uptoBulkAll]
      simp only [List.getElem_cons_zero] at hb
      omega

theorem at_of_cells {w : World} {b off : Nat} {cs : List Value} (h0 : 0 < cs.length) (h : ∀ i, i < cs.length → w.cell? ⟨b, off + i, none⟩ = cs[i]?) : At (hp w) b off cs := by
  have h1 := h 0 h0
  rw [List.getElem?_eq_getElem h0] at h1
  unfold World.cell? at h1 h
  cases hb : w.heap[b]? with
  | none => simp [hb] at h1
  | some o =>
    cases o with
    | cells arr e fz =>
      simp only [hb, Option.isSome_none, Bool.false_eq_true, if_false] at h
      refine ⟨arr, e, fz, hb, ?_, fun i hi => h i hi⟩
      have := h (cs.length - 1) (by omega)
      rw [List.getElem?_eq_getElem (show cs.length - 1 < cs.length by omega)] at this
      obtain ⟨hlt, _⟩ := Array.getElem?_eq_some_iff.1 this
      omega
    | _ => simp [hb] at h1

variable {enc : TypeId × Value → H}
theorem cells3 : Tryz.prog.cellsOf 42 = 3 := by kernel_rfl
theorem wf_i64 {n : Int} (h : (Lit.int .i64 n).wf = true) : isI64 n := by
  simpa [Lit.wf, IntKind.min, IntKind.max, IntKind.signed, IntKind.bits, isI64] using h

set_option maxHeartbeats 1000000 in
theorem open_val {w : World} : ∀ (N n : Nat) (d : DataW H) (ps : List MemPlace) (cs : List Value), Rows.uptoBulk d ≤ N → DataW.trod enc Tryz.prog w 0 (fun _ => true) true n 42 cs = some (d, ps) →
    ∃ (t : VT) (sl : Value), cs = [.int .i64 t.k, .int .i64 t.n, sl] ∧ t.rep (hp w) sl ∧ tsz t ≤ Rows.uptoBulk d := by
  intro N
  induction N with
  | zero =>
    intro n d ps cs hb h
    obtain ⟨y0, y1, y2, m, hx, _⟩ := Deep.trod_struct3 Tryz.underlying42 h
    cases hx
    simp [Rows.uptoBulk] at hb
  | succ N ih =>
    intro n d ps cs hb h
    obtain ⟨y0, y1, y2, m, hx, hlen, h0, h1, h2⟩ := Deep.trod_struct3 Tryz.underlying42 h
    cases hx
    rw [cells3] at hlen
    match cs, hlen with
    | [c0, c1, c2], _ =>
    have e1 : Tryz.prog.cellsOf 40 = 1 := by kernel_rfl
    have e2 : Tryz.prog.cellsOf 2 = 1 := by kernel_rfl
    have e3 : Tryz.prog.cellsOf 25 = 1 := by kernel_rfl
    simp only [e1, e2, e3, List.drop_zero, List.drop_succ_cons, List.take_succ_cons, List.take_zero] at h0 h1 h2
    obtain ⟨k, hk, hy0, hwk⟩ := DataW.trod_int Tryz.underlying40 h0
    obtain ⟨nn, hn, hy1, hwn⟩ := DataW.trod_int Tryz.underlying2 h1
    cases hk
    cases hn
    subst hy0 hy1
    have hs := Deep.open_slice Tryz.underlying25 h2
    rcases hs with ⟨hc, hy⟩ | ⟨a, len, cap, mm, n', D, Pl, hc, _, hle, hcap, hmm, hy, hel⟩
    · cases hc
      subst hy
      exact ⟨.mk k nn [], _, rfl, rep_leaf _ k nn (wf_i64 hwk) (wf_i64 hwn), by simp [tsz, tszL, Rows.uptoBulk, Rows.uptoBulkAll]⟩
    · cases hc
      subst hy
      simp only [if_true] at hmm
      subst hmm
      simp only [Rows.uptoBulk, Rows.uptoBulkAll] at hb ⊢
      have hml : len ≤ 9223372036854775807 := Nat.le_trans (Nat.le_trans hle hcap) (by decide)
      by_cases hz : len = 0
      · subst hz
        refine ⟨.mk k nn [], _, rfl, ?_, by simp only [tsz, tszL]; omega⟩
        rw [rep_iff]
        exact ⟨wf_i64 hwk, wf_i64 hwn, by simp, _, _, rfl, .inl rfl⟩
      · have hel0 := hel 0 (by omega)
        obtain ⟨b, off, spot⟩ := a
        have hspot : spot = none := by
          obtain ⟨cs', q1, _⟩ := hel0
          rw [cells3] at q1
          obtain ⟨_, q2, q3⟩ := World.cells?_some q1
          have q4 := q3 0 (by omega)
          rw [List.getElem?_eq_getElem (by omega)] at q4
          simpa [Addr.add] using World.cell?_spot q4
        subst hspot
        have key := gather (w := w) (b := b) ((List.range len).map D) off (fun i hi => by
          have hi' : i < len := by simpa using hi
          obtain ⟨cs', q1, q2⟩ := hel i (by omega)
          rw [cells3] at q1
          have hmem : D i ∈ (List.range len).map D := List.mem_map.2 ⟨i, by simpa using hi', rfl⟩
          have hbi : Rows.uptoBulk (D i) ≤ Rows.uptoBulkAll ((List.range len).map D) := by
            clear hb ih hel
            generalize (List.range len).map D = L at hmem
            induction L with
            | nil => simp at hmem
            | cons x r ihr =>
              simp only [Rows.uptoBulkAll]
              rcases List.mem_cons.1 hmem with rfl | hm
              · omega
              · have := ihr hm; omega
          obtain ⟨t, sl, rfl, hr, hbt⟩ := ih n' (D i) (Pl i) cs' (by omega) q2
          obtain ⟨_, _, q3⟩ := World.cells?_some q1
          have a0 := q3 0 (by omega)
          have a1 := q3 1 (by omega)
          have a2 := q3 2 (by omega)
          rw [Deep.add_add] at a0 a1 a2
          have ea : ∀ j, (Addr.mk b off none).add j = ⟨b, off + j, none⟩ := by
            intro j
            unfold Addr.add
            split
            · subst_vars; rfl
            · rfl
          rw [ea] at a0 a1 a2
          refine ⟨t, sl, by simpa using a0, by simpa [Nat.add_assoc] using a1, by simpa [Nat.add_assoc] using a2, hr, by simpa using hbt⟩)
        obtain ⟨l, cs, hl, hrV, hcs, hbs⟩ := key
        have hll : l.length = len := by simpa using hl
        have hcl := repV_len hrV
        refine ⟨.mk k nn l, .slice (some ⟨b, off, none⟩) len _, rfl, ?_, ?_⟩
        · rw [rep_iff]
          exact ⟨wf_i64 hwk, wf_i64 hwn, by omega, _, _, by rw [hll], .inr ⟨_, _, _, rfl, at_of_cells (by omega) hcs, hrV⟩⟩
        · simp only [tsz]
          omega

theorem open_vals {w : World} (n : Nat) (d : DataW H) (ps : List MemPlace) (a : Option Addr) (len cap : Nat) (h : DataW.trod enc Tryz.prog w 0 (fun _ => true) true n 25 [.slice a len cap] = some (d, ps)) :
    ∃ l : List VT, repS (hp w) l (.slice a len cap) ∧ tszL l ≤ Rows.uptoBulk d := by
  have hs := Deep.open_slice Tryz.underlying25 h
  rcases hs with ⟨hc, hy⟩ | ⟨a', len', cap', mm, n', D, Pl, hc, _, hle, hcap, hmm, hy, hel⟩
  · cases hc
    exact ⟨[], ⟨by simp, none, 0, rfl, .inl rfl⟩, by simp [tszL]⟩
  · cases hc
    obtain ⟨rfl, rfl⟩ := Prod.mk.inj hy
    simp only [if_true] at hmm
    subst hmm
    have hml : len ≤ 9223372036854775807 := Nat.le_trans (Nat.le_trans hle hcap) (by decide)
    by_cases hz : len = 0
    · subst hz
      exact ⟨[], ⟨by simp, _, _, rfl, .inl rfl⟩, by simp [tszL]⟩
    · have hel0 := hel 0 (by omega)
      obtain ⟨b, off, spot⟩ := a'
      have hspot : spot = none := by
        obtain ⟨cs', q1, _⟩ := hel0
        rw [cells3] at q1
        obtain ⟨_, q2, q3⟩ := World.cells?_some q1
        have q4 := q3 0 (by omega)
        rw [List.getElem?_eq_getElem (by omega)] at q4
        simpa [Addr.add] using World.cell?_spot q4
      subst hspot
      have key := gather (w := w) (b := b) ((List.range len).map D) off (fun i hi => by
        have hi' : i < len := by simpa using hi
        obtain ⟨cs', q1, q2⟩ := hel i (by omega)
        rw [cells3] at q1
        obtain ⟨t, sl, rfl, hr, hbt⟩ := open_val _ n' (D i) (Pl i) cs' (Nat.le_refl _) q2
        obtain ⟨_, _, q3⟩ := World.cells?_some q1
        have a0 := q3 0 (by omega)
        have a1 := q3 1 (by omega)
        have a2 := q3 2 (by omega)
        rw [Deep.add_add] at a0 a1 a2
        have ea : ∀ j, (Addr.mk b off none).add j = ⟨b, off + j, none⟩ := by
          intro j
          unfold Addr.add
          split
          · subst_vars; rfl
          · rfl
        rw [ea] at a0 a1 a2
        refine ⟨t, sl, by simpa using a0, by simpa [Nat.add_assoc] using a1, by simpa [Nat.add_assoc] using a2, hr, by simpa using hbt⟩)
      obtain ⟨l, cs, hl, hrV, hcs, hbs⟩ := key
      have hll : l.length = len := by simpa using hl
      have hcl := repV_len hrV
      refine ⟨l, ⟨by omega, _, _, by rw [hll], .inr ⟨_, _, _, rfl, at_of_cells (by omega) hcs, hrV⟩⟩, ?_⟩
      simp only [Rows.uptoBulk]
      omega
end
end Go.Proofs.YtpppkednpamhbaaGreat
namespace Go.Proofs.YtpppkednpamhbaaGreat.R
set_option linter.unusedSimpArgs false
set_option linter.unusedVariables false
open Go.Sx
set_option maxRecDepth 20000
set_option maxHeartbeats 4000000
section
variable {H : Type} {enc : TypeId × Value → H} {w : World}
theorem bulk_pos : ∀ (d : DataW H), 1 ≤ Rows.uptoBulk d
  | .lit l => by cases l <;> simp [Rows.uptoBulk]
  | .nil => by simp [Rows.uptoBulk]
  | .ptr d => by simp [Rows.uptoBulk]
  | .slice e s => by simp [Rows.uptoBulk]
  | .agg p => by simp [Rows.uptoBulk]
  | .iface _ d => by simp [Rows.uptoBulk]
  | .map e => by simp [Rows.uptoBulk]
  | .held _ => by simp [Rows.uptoBulk]
theorem bulk_len : ∀ (L : List (DataW H)), L.length ≤ Rows.uptoBulkAll L
  | [] => by simp
  | d :: L => by
    have h1 := bulk_pos d
    have h2 := bulk_len L
    simp only [List.length_cons, Rows.uptoBulkAll]; omega
theorem bulk_memJ {d : DataW H} : ∀ {L : List (DataW H)}, d ∈ L → Rows.uptoBulk d ≤ Rows.uptoBulkAll L
  | x :: r, h => by
    simp only [Rows.uptoBulkAll]
    rcases List.mem_cons.1 h with rfl | h
    · omega
    · have := bulk_memJ h; omega
theorem open_listL {α : Type} (r : Rp α) {t e : TypeId} {B : Nat} (ht : Tryz.prog.underlying t = some (.slice e)) (hsz : Tryz.prog.cellsOf e = r.size) (hpos : 0 < r.size)
    (hel : ∀ n d ps cs, DataW.trod enc Tryz.prog w 0 (fun _ => true) true n e cs = some (d, ps) → cs.length = r.size → Rows.uptoBulk d ≤ B → ∃ x, r.e (Go.Sx.hp w) x cs)
    {n : Nat} {d : DataW H} {ps : List MemPlace} {cs : List Value} (hB : Rows.uptoBulk d ≤ B) (h : DataW.trod enc Tryz.prog w 0 (fun _ => true) true n t cs = some (d, ps)) : ∃ (sl : Value) (l : List α), cs = [sl] ∧ r.S (Go.Sx.hp w) l sl ∧ l.length ≤ B := by
  have hs := Deep.open_slice ht h
  rcases hs with ⟨hc, hy⟩ | ⟨a, len, cap, mm, n', D, Pl, hc, _, hle, hcap, hmm, hy, hel2⟩
  · exact ⟨_, [], hc, Rp.S_nil _ _, by simp⟩
  · simp only [if_true] at hmm
    subst hmm
    obtain ⟨rfl, _⟩ := Prod.mk.inj hy
    have hml : len ≤ 9223372036854775807 := Nat.le_trans (Nat.le_trans hle hcap) (by decide)
    by_cases hz : len = 0
    · subst hz
      exact ⟨_, [], hc, Rp.S_nil _ _, by simp⟩
    · obtain ⟨b, off, spot⟩ := a
      rw [hsz] at hel2
      have hspot : spot = none := by
        obtain ⟨cs', q1, _⟩ := hel2 0 (by omega)
        obtain ⟨_, q2, q3⟩ := World.cells?_some q1
        have q4 := q3 0 (by omega)
        rw [List.getElem?_eq_getElem (by omega)] at q4
        simpa [Addr.add] using World.cell?_spot q4
      subst hspot
      obtain ⟨l, cs2, hl, hL, hcs⟩ := gatherL (r := r) (w := w) (b := b) len off (fun i hi => by
        obtain ⟨cs', q1, q2⟩ := hel2 i (by omega)
        obtain ⟨_, q3, q4⟩ := World.cells?_some q1
        have hmem : D i ∈ (List.range len).map D := List.mem_map.2 ⟨i, by simpa using hi, rfl⟩
        have hbi := bulk_memJ hmem
        simp only [Rows.uptoBulk] at hB
        obtain ⟨x, hx⟩ := hel _ _ _ _ q2 (by omega) (by omega)
        refine ⟨x, cs', hx, fun j hj => ?_⟩
        have := q4 j (by omega)
        rw [Deep.add_add, add_eq] at this
        rw [← this, Nat.add_assoc])
      have hlen := Rp.L_len hL
      have hcl : 0 < cs2.length := by rw [hlen, hl]; exact Nat.mul_pos (by omega) hpos
      refine ⟨_, l, hc, ⟨by rw [hl]; exact hml, _, _, by rw [hl], .inr ⟨_, _, _, rfl, Go.Sx.at_of_cells hcl hcs, hL⟩⟩, ?_⟩
      have hb := bulk_len ((List.range len).map D)
      simp only [Rows.uptoBulk, List.length_map, List.length_range] at hB hb
      omega
def rAb : Rp Ac where
  size := 5
  e G x cs := rA.e G x cs ∧ tsz x.v ≤ 1048576
  mono hl h := ⟨rA.mono hl h.1, h.2⟩
  len h := rA.len h.1
  one h u hu := rA.one h.1 u hu
theorem rAb_L {G : Hp} : ∀ {l : List Ac} {cs : List Value}, rAb.L G l cs → rA.L G l cs ∧ ∀ x ∈ l, tsz x.v ≤ 1048576
  | [], cs, h => ⟨h, by simp⟩
  | x :: l, cs, h => by
    simp only [Rp.L] at h ⊢
    obtain ⟨c, r, rfl, ⟨h1, h2⟩, h3⟩ := h
    obtain ⟨h4, h5⟩ := rAb_L h3
    refine ⟨⟨c, r, rfl, h1, h4⟩, fun y hy => ?_⟩
    rcases List.mem_cons.1 hy with rfl | hy
    · exact h2
    · exact h5 y hy
theorem rAb_S {G : Hp} {l : List Ac} {v : Value} (h : rAb.S G l v) : rA.S G l v ∧ ∀ x ∈ l, tsz x.v ≤ 1048576 := by
  obtain ⟨h1, ad, cap, h2, h3⟩ := h
  rcases h3 with rfl | ⟨b, off, cs, q1, q2, q3⟩
  · exact ⟨⟨h1, ad, cap, h2, .inl rfl⟩, by simp⟩
  · obtain ⟨h4, h5⟩ := rAb_L q3
    exact ⟨⟨h1, ad, cap, h2, .inr ⟨b, off, cs, q1, q2, h4⟩⟩, h5⟩
theorem open_act {n : Nat} {d : DataW H} {ps : List MemPlace} {cs : List Value} (hB : Rows.uptoBulk d ≤ 1048576) (h : DataW.trod enc Tryz.prog w 0 (fun _ => true) true n 52 cs = some (d, ps)) : ∃ (x : Ac), rAb.e (Go.Sx.hp w) x cs := by
  obtain ⟨y0, y1, y2, m, hx, hlen, h0, h1, h2⟩ := Deep.trod_struct3 Tryz.underlying52 h
  cases hx
  rw [show Tryz.prog.cellsOf 52 = 5 by kernel_rfl] at hlen
  match cs, hlen with
  | [c0, c1, c2, c3, c4], _ =>
  have e1 : Tryz.prog.cellsOf 3 = 1 := by kernel_rfl
  have e3 : Tryz.prog.cellsOf 42 = 3 := by kernel_rfl
  simp only [e1, e3, List.drop_zero, List.drop_succ_cons, List.take_succ_cons, List.take_zero] at h0 h1 h2
  simp only [Rows.uptoBulk, Rows.uptoBulkAll] at hB
  obtain ⟨k, hk, hy0, wk⟩ := DataW.trod_int Tryz.underlying3 h0
  obtain ⟨m, hm, hy1, wm⟩ := DataW.trod_int Tryz.underlying3 h1
  obtain ⟨t, sl, hs, hr, hb⟩ := open_val _ _ _ _ _ (Nat.le_refl _) h2
  cases hk; cases hm; cases hs
  exact ⟨⟨k, m, t⟩, ⟨_, rfl, hr, wf_i64 wk, wf_i64 wm⟩, by show tsz t ≤ _; omega⟩
theorem open_acts {n : Nat} {d : DataW H} {ps : List MemPlace} {cs : List Value} (hB : Rows.uptoBulk d ≤ 1048576) (h : DataW.trod enc Tryz.prog w 0 (fun _ => true) true n 26 cs = some (d, ps)) : ∃ (sl : Value) (l : List Ac), cs = [sl] ∧ rAb.S (Go.Sx.hp w) l sl := by
  obtain ⟨sl, l, h1, h2, _⟩ := open_listL rAb Tryz.underlying26 (by kernel_rfl) (by decide) (fun n d ps cs h _ hb => open_act hb h) hB h
  exact ⟨sl, l, h1, h2⟩
end
end Go.Proofs.YtpppkednpamhbaaGreat.R
namespace Go.Proofs.YtpppkednpamhbaaGreat
set_option linter.unusedSimpArgs false
set_option linter.unusedVariables false
open Go.ChangeShapes Go.WideShapes Go.ChangeAt Go.RowKit

theorem own : ownKnob Tryz.prog.godebug = none := by kernel_rfl
theorem laidOut : laidOutB Tryz.prog = true := by kernel_rfl

theorem post_below {H : Type} {enc : TypeId × Value → H} {P : Program} {f : Func} {s : ChangeSpec} {fresh handsOn again : Bool} {W W' : World} {args : Array Value} {v : Value} {ds : List (DataW H)} {pa : List MemPlace}
    (hvs : s.vars = []) (hfn : (s.fn H (ds ++ [])).vars = []) (hW : DataW.Whole enc P f.params.toList s.vars false W args.toList ds [] pa)
    (hres : ∀ (b : Nat) (sp : Nat → Bool) (hd : Bool), DataW.TrodAll enc P W' b sp hd f.resultTypes.toList (v.resultList f.resultTypes.size) (s.fn H (ds ++ [])).results [])
    (hargs : ∀ sp : Nat → Bool, (∀ p ∈ pa, sp p.block = true) → DataW.TrodAll enc P W' 0 sp true f.params.toList args.toList (s.fn H (ds ++ [])).args pa)
    (hb : Below W.heap.size W W')
    (hok : ∀ (j : Nat) (t : TypeId) (r : Value), f.resultTypes[j]? = some t → (v.resultList f.resultTypes.size)[j]? = some r → Value.okWide P W' .any 0 t r) :
    s.post enc P f false fresh handsOn again W args v W' := by
  have hlt := hW.lt
  have hvars : ∀ sp : Nat → Bool, DataW.TrodVars enc P W' sp s.vars (s.fn H (ds ++ [])).vars [] := fun sp => by rw [hvs, hfn]; rfl
  have hz := hW
  obtain ⟨_, _, _, _, _, hfrozen, _⟩ := hz
  refine ⟨ds, [], pa, [], pa, [], hW, hres _ _ _, hargs _ (fun p hp => by simpa using hlt p hp), hvars _, World.keptBut_mono (fun p hp => ⟨hp, Or.inr (by simpa using hp)⟩) (hb.frame (· ∈ pa)), fun _ => ?_⟩
  refine ⟨hok, _, _, ([] ++ pa) ++ [], ⟨[] ++ pa, [], trodAll_append (hargs _ (fun _ _ => rfl)) (hres _ _ _), hvars _, rfl, fun b off hp => ?_, by simp⟩, fun p hp _ => by simpa using hp⟩
  · have hp' : MemPlace.cell b off ∈ pa := by simpa using hp
    rw [hb.frozen (hlt _ hp')]
    exact hfrozen b off hp'
end Go.Proofs.YtpppkednpamhbaaGreat
namespace Go.Proofs.YtpppkednpamhbaaGreat.fiberTrail
set_option linter.unusedSimpArgs false
set_option linter.unusedVariables false
open Go.ChangeShapes Go.WideShapes Go.ChangeAt Go.RowKit

set_option maxRecDepth 100000
theorem contract (H : Type) (enc : TypeId × Value → H) (W : World) (base : Nat) (args : Array Value) (ds gs : List (DataW H)) (before : List MemPlace)
    (hval : ∀ (j : Nat) t v, Tryz.f4.params[j]? = some t → args[j]? = some v → Value.okWide Tryz.prog W .any base t v)
    (hW : DataW.Whole enc Tryz.prog Tryz.f4.params.toList Rows.fiberTrailSpec.vars false W args.toList ds gs before) (hk : Rows.uptoSmall H (ds ++ gs) = true) :
    Calls Tryz.prog 4 args W fun e W' => ∃ v, e = .returned v ∧ Rows.fiberTrailSpec.post enc Tryz.prog Tryz.f4 false true false false W args v W' := by
  have hW' := hW
  obtain ⟨p, q, hA0, hV, rfl, hfz, hnd⟩ := hW
  have hA : DataW.TrodAll enc Tryz.prog W 0 (fun _ => true) true Tryz.f4.params.toList args.toList ds p := hA0
  rw [Tryz.params4] at hA hval
  obtain ⟨v0, vs0, d0, ds0, p0, q0, hargs, rfl, rfl, h0, r0⟩ := trodAll_cons hA
  obtain ⟨v1, vs1, d1, ds1, p1, q1, rfl, rfl, rfl, h1, r1⟩ := trodAll_cons r0
  obtain ⟨v2, vs2, d2, ds2, p2, q2, rfl, rfl, rfl, h2, r2⟩ := trodAll_cons r1
  obtain ⟨v3, vs3, d3, ds3, p3, q3, rfl, rfl, rfl, h3, r3⟩ := trodAll_cons r2
  obtain ⟨v4, vs4, d4, ds4, p4, q4, rfl, rfl, rfl, h4, r4⟩ := trodAll_cons r3
  obtain ⟨v5, vs5, d5, ds5, p5, q5, rfl, rfl, rfl, h5, r5⟩ := trodAll_cons r4
  obtain ⟨v6, vs6, d6, ds6, p6, q6, rfl, rfl, rfl, h6, r6⟩ := trodAll_cons r5
  obtain ⟨rfl, rfl, rfl⟩ := trodAll_nil r6
  obtain rfl : args = #[v0, v1, v2, v3, v4, v5, v6] := by cases args; simp_all
  obtain ⟨rfl, rfl⟩ := trodVars_none hV
  clear hA0
  obtain ⟨a1, rfl, rfl, rfl, w1⟩ := open_int Tryz.underlying3 (hval 1 3 v1 rfl rfl) h1
  obtain ⟨a4, rfl, rfl, rfl, w4⟩ := open_int Tryz.underlying3 (hval 4 3 v4 rfl rfl) h4
  obtain ⟨a5, rfl, rfl, rfl, w5⟩ := open_int Tryz.underlying3 (hval 5 3 v5 rfl rfl) h5
  simp only [List.append_nil, List.nil_append] at hW' hk
  have hbulk : Rows.uptoBulkAll [d0, _, d2, d3, _, _, d6] ≤ 1048576 := of_decide_eq_true hk
  simp only [Rows.uptoBulkAll, Rows.uptoBulk, Nat.add_zero] at hbulk
  have h0k := h0
  obtain ⟨n0, hf0⟩ := h0
  obtain ⟨cs0, rfl, hsz0⟩ := okWide_struct Tryz.underlying24 (hval 0 24 v0 rfl rfl)
  obtain ⟨f0, ns0, hcs0, hr0⟩ := open_prog (w := W) hf0
  have hcs0' : cs0 = #[ns0] := by
    apply Array.ext'
    simpa [Value.cells] using hcs0
  subst hcs0'
  have h2k := h2
  obtain ⟨n2, hf2⟩ := h2
  obtain ⟨ad2, len2, cap2, rfl⟩ := okWide_slice Tryz.underlying25 (hval 2 25 v2 rfl rfl)
  obtain ⟨l2, hr2, htb2⟩ := open_vals (w := W) n2 d2 p2 ad2 len2 cap2 hf2
  have h3k := h3
  obtain ⟨n3, hf3⟩ := h3
  obtain ⟨ad3, len3, cap3, rfl⟩ := okWide_slice Tryz.underlying26 (hval 3 26 v3 rfl rfl)
  obtain ⟨ns3, f3, hcs3, hr3⟩ := R.open_acts (w := W) (by omega) hf3
  obtain rfl : (Value.slice ad3 len3 cap3) = ns3 := by simpa [Value.cells] using hcs3
  have h6k := h6
  obtain ⟨n6, hf6⟩ := h6
  obtain ⟨cs6, rfl, hsz6⟩ := okWide_struct Tryz.underlying52 (hval 6 52 v6 rfl rfl)
  obtain ⟨x6, ⟨sl6, hcs6, hr6, hw6, hn6⟩, htb6⟩ := R.open_act (w := W) (by omega) hf6
  have hcs6' : cs6 = #[.int .i64 x6.w, .int .i64 x6.n, .int .i64 x6.v.k, .int .i64 x6.v.n, sl6] := by
    apply Array.ext'
    simpa [Value.cells] using hcs6
  subst hcs6'
  have hlt0 : ∀ x ∈ p0, x.block < W.heap.size := fun x hx => by simpa using hW'.lt x (by simp [hx])
  have hlt2 : ∀ x ∈ p2, x.block < W.heap.size := fun x hx => by simpa using hW'.lt x (by simp [hx])
  have hlt3 : ∀ x ∈ p3, x.block < W.heap.size := fun x hx => by simpa using hW'.lt x (by simp [hx])
  have hlt6 : ∀ x ∈ p6, x.block < W.heap.size := fun x hx => by simpa using hW'.lt x (by simp [hx])
  refine (R.trailL_ok f0 ns0 a1 l2 f3 a4 a5 x6 _ _ sl6 (hp W) hr0 hr2 (fun v hv => by have := tszL_mem hv; omega) (R.rAb_S hr3).1 (fun x hx => by have := (R.rAb_S hr3).2 x hx; omega) hr6 (by omega) hw6 hn6 W (has_hp W)).mono ?_
  rintro e W' ⟨v, G', rfl, hg, rfl⟩
  have hb := hg.below
  exact ⟨_, rfl, post_below rfl rfl hW' (fun _ _ _ => (trodAll_cons_mk (shut_bool Tryz.underlying4 _) trodAll_mk0))
    (fun sp hsp => by have this := (trodAll_cons_mk (WideElems.Trod_stays laidOut (by kernel_rfl) (of_decide_eq_true (by kernel_rfl)) h0k (fun x hx => hb.same (hlt0 x hx)) (fun x hx => hsp x (by simp [hx]))) (trodAll_cons_mk (shut_int Tryz.underlying3 w1) (trodAll_cons_mk (WideElems.Trod_stays laidOut (by kernel_rfl) (of_decide_eq_true (by kernel_rfl)) h2k (fun x hx => hb.same (hlt2 x hx)) (fun x hx => hsp x (by simp [hx]))) (trodAll_cons_mk (WideElems.Trod_stays laidOut (by kernel_rfl) (of_decide_eq_true (by kernel_rfl)) h3k (fun x hx => hb.same (hlt3 x hx)) (fun x hx => hsp x (by simp [hx]))) (trodAll_cons_mk (shut_int Tryz.underlying3 w4) (trodAll_cons_mk (shut_int Tryz.underlying3 w5) (trodAll_cons_mk (WideElems.Trod_stays laidOut (by kernel_rfl) (of_decide_eq_true (by kernel_rfl)) h6k (fun x hx => hb.same (hlt6 x hx)) (fun x hx => hsp x (by simp [hx]))) trodAll_mk0))))))); simp only [List.append_nil, List.nil_append] at this; exact this)
    hb (ok_one (by kernel_rfl) rfl (okWide_bool_mk Tryz.underlying4 _))⟩

set_option maxRecDepth 100000 in
theorem lifted (os : Os) (started : os.Started) (H : Type) (enc : TypeId × Value → H) (F : Stop.Interp) :
    ReturnsInHanded {} Tryz.checked os 4 .any ((Rows.OpenSpec.upto Rows.fiberTrailSpec).pre6 enc Tryz.prog Tryz.f4 Rows.fiberTrailUptoRow.domain false) (((Rows.OpenSpec.upto Rows.fiberTrailSpec).at F).post enc Tryz.prog Tryz.f4 false true false false) := by
  refine returnsInHanded_of_cond (C := Tryz.checked) (s := Rows.OpenSpec.upto Rows.fiberTrailSpec) (k := Rows.uptoSmall) rfl own started (by kernel_rfl) Tryz.func4
    (OpenSpec.witness (enc := enc) (C := Tryz.checked) (s := Rows.OpenSpec.upto Rows.fiberTrailSpec) (k := Rows.uptoSmall) rfl false ⟨#[], #[.agg #[.slice none 0 0], .int .i64 0, .slice none 0 0, .slice none 0 0, .int .i64 0, .int .i64 0, .agg #[.int .i64 0, .int .i64 0, .int .i64 0, .int .i64 0, .slice none 0 0]], []⟩ 8 (by kernel_rfl) (by kernel_rfl) (by kernel_rfl)
      (x := ([.agg [.nil], .lit (.int .i64 0), .nil, .nil, .lit (.int .i64 0), .lit (.int .i64 0), .agg [.lit (.int .i64 0), .lit (.int .i64 0), .agg [.lit (.int .i64 0), .lit (.int .i64 0), .nil]]], [], [])) (by kernel_rfl) rfl (by kernel_rfl)) ?_
  intro W base args ds gs before hval hW _ hk _
  exact contract H enc W base args ds gs before hval hW hk

theorem over : Rows.fiberTrailUptoRow.holds Tryz.pinned (Rows.OpenSpec.upto Rows.fiberTrailSpec) :=
  OpenClaim.holds_of_cond 4 Tryz.f4 rfl rfl rfl rfl rfl rfl rfl ⟨rfl, rfl, rfl, rfl, rfl⟩ rfl rfl rfl rfl rfl (by kernel_rfl) Tryz.func4 (by kernel_rfl)
    (of_decide_eq_true (by kernel_rfl)) (by unfold Func.isWrapper; first | (rw [if_pos (by decide +kernel)]; kernel_rfl) | (rw [if_neg (by decide +kernel)]; exact ⟨rfl, rfl⟩))
    (fun os started H enc _ F => lifted os started H enc F)

theorem proved : Rows.FiberTrailUptoSaid := over
end Go.Proofs.YtpppkednpamhbaaGreat.fiberTrail

