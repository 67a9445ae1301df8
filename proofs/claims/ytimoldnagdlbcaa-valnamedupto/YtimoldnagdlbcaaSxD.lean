/-
  A symbolic walk over the model's code: the operations are carried out as the model does. Generic: names no program.
-/
import Derived.Test.YtimoldnagdlbcaaSxC
namespace Go.Sx
set_option linter.unusedSimpArgs false
set_option linter.unusedVariables false
open Go.RowKit

section
variable {sl : List (Nat × SV)} {a : Act}

theorem ld_ok {P : Program} {w : World} {b : Nat} {e T : TypeId} {fz : Nat × Nat} {cells : List SV} {ti : TI} (hT : ti.ok P T)
    (h : w.heap[b]? = some (.cells (dens cells).toArray e fz)) {off : Nat} {y : SV} (hl : ldOwn ti.k.agg ti.size cells off = some y) :
    (loadVar T ⟨b, off, none⟩).run P w = .ok y.den w := by
  simp only [loadVar, Sem.run_bind, run_isAgg w hT, Result.andThen_ok]
  cases hk : ti.k.agg with
  | true =>
    simp only [hk, ldOwn, Option.map_eq_some_iff] at hl
    obtain ⟨l, h1, rfl⟩ := hl
    obtain ⟨h2, h3⟩ := sub_ok _ _ _ _ h1
    have hlen : (dens cells).toArray.size = cells.length := by simp [dens_eq]
    simp only [if_true, Sem.run_bind, run_size w hT, Result.andThen_ok, loadCells]
    rw [run_loadCells h off ti.size 0 #[] (by rw [hlen]; omega)]
    simp only [Result.andThen_ok, Sem.run_pure, SV.den]
    congr 2
    apply Array.ext'
    simp [h3, dens_eq, List.extract_eq_take_drop, List.map_drop, List.map_take]
  | false =>
    simp only [hk, ldOwn, nth_eq] at hl
    have hc : w.cell? ⟨b, off, none⟩ = some y.den := by rw [cell_at h]; simp [dens_eq, hl]
    simp [run_load, hc]

theorem part_ok {P : Program} {w : World} {T : TypeId} {d : TypeDesc} {x : TypeInfo} (h1 : P.underlying T = some d) (h2 : P.info? T = some x) {l : List SV} {off : Nat} {y : SV}
    (hl : ldOwn (descAgg d) x.size l off = some y) : (part T (dens l).toArray off).run P w = .ok y.den w := by
  have hagg : (isAgg T).run P w = .ok (descAgg d) w := by
    simp only [isAgg, Sem.run_bind, run_und w h1, Result.andThen_ok]
    cases d <;> simp [descAgg]
  simp only [part, Sem.run_bind, hagg, Result.andThen_ok]
  cases hk : descAgg d with
  | true =>
    simp only [hk, ldOwn, Option.map_eq_some_iff] at hl
    obtain ⟨r, h3, rfl⟩ := hl
    obtain ⟨h4, h5⟩ := sub_ok _ _ _ _ h3
    simp only [if_true, Sem.run_bind, sizeOf, typeInfo, run_program, Result.andThen_ok, h2, Sem.run_pure, SV.den]
    congr 2
    apply Array.ext'
    simp [h5, dens_eq, List.extract_eq_take_drop, List.map_drop, List.map_take]
  | false =>
    simp only [hk, ldOwn, nth_eq] at hl
    simp [dens_eq, hl]

theorem fold_lay (vs : List Value) : ∀ (off k : Nat) (l l' : List Value), lay l (off + k) vs = some l' →
    ((vs.zipIdx k).foldl (fun cs (x : Value × Nat) => cs.setIfInBounds (off + x.2) x.1) l.toArray) = l'.toArray := by
  induction vs with
  | nil =>
    intro off k l l' h
    have : l = l' := by cases l <;> cases hk : off + k <;> rw [hk] at h <;> simp [lay] at h <;> simp [h]
    simp [this]
  | cons v vs ih =>
    intro off k l l' h
    obtain ⟨h1, h2⟩ := lay_step _ _ _ _ _ h
    simp only [List.zipIdx_cons, List.foldl_cons, List.setIfInBounds_toArray]
    exact ih off (k + 1) _ _ (by rw [← Nat.add_assoc]; exact h2)

theorem fill_ok {place : Nat → Option (Nat × Nat)} : ∀ (ps : List (Nat × SV)) (cells l : List SV), fillS place ps cells = some l →
    Instr.fill place (dens cells).toArray (ps.map fun x => (x.1, x.2.den)) = some (dens l).toArray
  | [], cells, l, h => by simp only [fillS, Option.some.injEq] at h; subst h; simp [Instr.fill]
  | x :: rest, cells, l, h => by
    simp only [fillS] at h
    split at h
    · rename_i q vs h1 h2
      split at h
      · rename_i hlen
        simp only [Option.bind_eq_some_iff] at h
        obtain ⟨c', h3, h4⟩ := h
        have hcs := SV.cs_ok h2
        have hl := lay_map SV.den _ _ _ _ h3
        rw [← dens_eq, ← dens_eq, ← dens_eq] at hl
        have hsz : x.2.den.cells.size = q.2 := by rw [hcs]; simp [dens_eq, hlen.1]
        have hsc : (dens cells).toArray.size = cells.length := by simp [dens_eq]
        simp only [List.map_cons, Instr.fill, h1]
        rw [if_neg (by rw [hsz, hsc]; simp; omega)]
        have hf := fold_lay (dens vs) q.1 0 (dens cells) (dens c') (by simpa using hl)
        have hf' : (x.2.den.cells.zipIdx.foldl (fun cs (y : Value × Nat) => cs.setIfInBounds (q.1 + y.2) y.1) (dens cells).toArray) = (dens c').toArray := by
          rw [hcs, ← Array.foldl_toList, Array.toList_zipIdx]
          exact hf
        have := fill_ok rest c' l h4
        rw [← hf'] at this
        exact this
      · cases h
    · cases h

theorem evParts_ok (hS : Slots sl a) : ∀ {xs : List (Nat × Operand)} {ys : List (Nat × SV)}, evParts sl xs = some ys →
    xs.map (fun x => (x.1, a.eval x.2)) = ys.map (fun x => (x.1, x.2.den))
  | [], ys, h => by simp only [evParts, Option.some.injEq] at h; subst h; simp
  | x :: xs, ys, h => by
    simp only [evParts] at h
    split at h
    · rename_i y hy
      simp only [Option.map_eq_some_iff] at h
      obtain ⟨r, h1, rfl⟩ := h
      simp [ev_ok hS hy, evParts_ok hS h1]
    · cases h

theorem mapM_ok {P : Program} {w : World} {α β : Type} (g : α → Sem β) (k : α → β) : ∀ (l : List α), (∀ x ∈ l, (g x).run P w = .ok (k x) w) →
    (l.mapM g).run P w = .ok (l.map k) w
  | [], _ => by simp
  | x :: l, h => by
    simp only [List.mapM_cons, Sem.run_bind, h x (by simp), Result.andThen_ok, mapM_ok g k l (fun y hy => h y (by simp [hy])), Sem.run_pure, List.map_cons]

/-- What is known of the call's own blocks. -/
def Own (own : List (Nat × Nat × OO)) (w : World) : Prop := ∀ h b e cells, lk h own = some (b, .c e cells) → w.heap[b]? = some (.cells (dens cells).toArray e)

end
end Go.Sx
