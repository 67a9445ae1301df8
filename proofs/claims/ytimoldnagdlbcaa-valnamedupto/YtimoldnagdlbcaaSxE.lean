/-
  A symbolic walk over the model's code: the quiet operations, one by one. Generic: names no program.
-/
import Derived.Test.YtimoldnagdlbcaaSxD
namespace Go.Sx
set_option linter.unusedSimpArgs false
set_option linter.unusedVariables false
open Go.RowKit

theorem dens_map_v (l : List Value) : dens (l.map .v) = l := by
  rw [dens_eq, List.map_map]
  have : (SV.den ∘ SV.v) = id := by funext y; simp [SV.den]
  simp [this]
theorem fieldAt_ok {P : Program} {w : World} {T : TypeId} {f b off o sz : Nat} {ag : Bool} {flds : List (Nat × Nat × Bool)} (hT : TK.fits P T flds .strct) (hf : nth flds f = some (o, sz, ag)) (hz : sz ≠ 0) :
    (Instr.fieldAt T (.pointer (some ⟨b, off, none⟩)) f).run P w = .ok (.pointer (some ⟨b, off + o, none⟩)) w := by
  obtain ⟨fs, h1, h2, h3⟩ := fits_strct hT
  have h4 := h2 f
  rw [← nth_eq, hf] at h4
  simp only [Option.bind_eq_some_iff, Option.map_eq_some_iff] at h4
  obtain ⟨g, h5, i, h6, d, h7, h8⟩ := h4
  simp only [Prod.mk.injEq] at h8
  obtain ⟨e1, e2, e3⟩ := h8
  simp only [Instr.fieldAt, Sem.run_bind, run_und w h1, Result.andThen_ok, h5, Instr.sureAddr, Sem.run_pure, fieldPlace, sizeOf, typeInfo, run_program, h6, e2]
  simp [hz, add_none, e1]
theorem indexAt_slice {P : Program} {w : World} {T e : TypeId} {te : TI} (hT : P.underlying T = some (.slice e)) (he : te.ok P e) {k : IntKind} {n : Int} {b off len cap : Nat} (h0 : 0 ≤ n) (h1 : n < (len : Int)) :
    (Instr.indexAt T (.slice (some ⟨b, off, none⟩) len cap) (.int k n)).run P w = .ok (.pointer (some ⟨b, off + n.toNat * te.size, none⟩)) w := by
  simp only [Instr.indexAt, asIntOf, Sem.run_bind, Sem.run_pure, Result.andThen_ok, run_und w hT]
  rw [if_pos ⟨h0, h1⟩]
  simp only [Sem.run_bind, run_size w he, Result.andThen_ok, Sem.run_pure, add_none]
theorem indexAt_array {P : Program} {w : World} {T e : TypeId} {te : TI} {len : Nat} (hT : P.underlying T = some (.array len e)) (he : te.ok P e) {k : IntKind} {n : Int} {b off : Nat} (h0 : 0 ≤ n) (h1 : n < (len : Int)) :
    (Instr.indexAt T (.pointer (some ⟨b, off, none⟩)) (.int k n)).run P w = .ok (.pointer (some ⟨b, off + n.toNat * te.size, none⟩)) w := by
  simp only [Instr.indexAt, asIntOf, Sem.run_bind, Sem.run_pure, Result.andThen_ok, run_und w hT, Instr.sureAddr]
  rw [if_pos ⟨h0, h1⟩]
  simp only [Sem.run_bind, run_size w he, Result.andThen_ok, Sem.run_pure, add_none]

section
variable {P : Program} {ty : TypeId → Option TI} {sl : List (Nat × SV)} {own : List (Nat × Nat × OO)} {a : Act} {w : World} {dst : Option Tmp} {type : TypeId} {pos : String} {after : Array Edge} {guard : Option (Nat × Bool)} {v : SV}

theorem q_move (hS : Slots sl a) {x : Operand} (h : opQ ty sl own (.move x) = some v) : (execOp a.eval ⟨dst, .move x, type, pos, after, guard⟩).run P w = .ok (.value v.den) w := by
  simp only [opQ] at h
  simp [execOp, ev_ok hS h]
theorem q_assign (hS : Slots sl a) {x : Operand} (h : opQ ty sl own (.assign x) = some v) : (execOp a.eval ⟨dst, .assign x, type, pos, after, guard⟩).run P w = .ok (.value v.den) w := by
  simp only [opQ] at h
  simp [execOp, ev_ok hS h]
theorem q_pick (hS : Slots sl a) {c x y : Operand} (h : opQ ty sl own (.pick c x y) = some v) : (execOp a.eval ⟨dst, .pick c x y, type, pos, after, guard⟩).run P w = .ok (.value v.den) w := by
  simp only [opQ] at h
  split at h
  · rename_i hc; simp [execOp, ev_ok hS h, ev_ok hS hc, SV.den, asBool]
  · rename_i hc; simp [execOp, ev_ok hS h, ev_ok hS hc, SV.den, asBool]
  · cases h
theorem q_binOp (tyok : ∀ T i, ty T = some i → i.ok P T) (hS : Slots sl a) {op : BinOp} {T T' : TypeId} {x y : Operand} (h : opQ ty sl own (.binOp op T x y T') = some v) : (execOp a.eval ⟨dst, .binOp op T x y T', type, pos, after, guard⟩).run P w = .ok (.value v.den) w := by
  simp only [opQ] at h
  split at h
  · rename_i k m k' n hx hy
    simp only [Option.map_eq_some_iff] at h
    obtain ⟨z, hz, h⟩ := h; subst h
    have e1 := ev_ok hS hx
    have e2 := ev_ok hS hy
    simp only [SV.den] at e1 e2
    have key : (do eqGuard op T x y (.int k m) (.int k' n); binOp op T (.int k m) (.int k' n) : Sem Value).run P w = .ok z w := by
      split at hz
      · exact binConst_ok hz P T x y w
      · exact binInt_ok hz P T x y w
    simp only [execOp, e1, e2]
    rw [Sem.run_bind, key]
    simp [SV.den]
  · rename_i m n hx hy
    simp only [Option.map_eq_some_iff] at h
    obtain ⟨z, hz, h⟩ := h; subst h
    have e1 := ev_ok hS hx
    have e2 := ev_ok hS hy
    simp only [SV.den] at e1 e2
    simp only [execOp, e1, e2]
    rw [Sem.run_bind, binStr_ok hz P T x y w]
    simp [SV.den]
  · rename_i p q _ _ hx hy
    split at h
    · rename_i sz by' ze fl m n hT hp hq
      simp only [Option.map_eq_some_iff] at h
      obtain ⟨z, hz, h⟩ := h; subst h
      have e1 := ev_ok hS hx
      have e2 := ev_ok hS hy
      rw [SV.bool?_ok hp] at e1
      rw [SV.bool?_ok hq] at e2
      have hb := (tyok _ _ hT).k
      simp only [TK.fits] at hb
      simp only [execOp, e1, e2]
      rw [Sem.run_bind, binBool_ok hz hb x y w]
      simp [SV.den]
    · cases h
  · cases h
theorem q_unOp (hS : Slots sl a) {op : UnOp} {T : TypeId} {x : Operand} (h : opQ ty sl own (.unOp op T x) = some v) : (execOp a.eval ⟨dst, .unOp op T x, type, pos, after, guard⟩).run P w = .ok (.value v.den) w := by
  simp only [opQ] at h
  split at h
  · rename_i hx
    split at h
    · cases h; simp [execOp, ev_ok hS hx, SV.den, Op.unary, Op.intArith]
    · cases h
  · rename_i hx
    split at h
    · cases h; simp [execOp, ev_ok hS hx, SV.den, Op.unary]
    · cases h
  · rename_i hx
    split at h
    · cases h; simp [execOp, ev_ok hS hx, SV.den, Op.unary]
    · cases h
  · cases h
theorem q_convert (tyok : ∀ T i, ty T = some i → i.ok P T) (hS : Slots sl a) {T U : TypeId} {x : Operand} (h : opQ ty sl own (.convert T U x) = some v) : (execOp a.eval ⟨dst, .convert T U x, type, pos, after, guard⟩).run P w = .ok (.value v.den) w := by
  simp only [opQ] at h
  split at h
  · rename_i ti k sz by' ze fl k' n h1 h2 hx
    cases h
    obtain ⟨d, hd, -⟩ := (tyok _ _ h1).agg
    have hu := (tyok _ _ h2).k
    simp only [TK.fits] at hu
    simp only [execOp, ev_ok hS hx, SV.den, convert, Sem.run_bind, run_und w hd, run_und w hu, Result.andThen_ok]
    cases d <;> simp [Conv.intToInt]
  · rename_i ti sz by' ze fl n h1 h2 hx
    cases h
    obtain ⟨d, hd, -⟩ := (tyok _ _ h1).agg
    have hu := (tyok _ _ h2).k
    simp only [TK.fits] at hu
    simp only [execOp, ev_ok hS hx, SV.den, convert, Sem.run_bind, run_und w hd, run_und w hu, Result.andThen_ok]
    cases d <;> simp
  · cases h
theorem q_fieldAddr (tyok : ∀ T i, ty T = some i → i.ok P T) (hS : Slots sl a) {T : TypeId} {x : Operand} {f : Nat} (h : opQ ty sl own (.fieldAddr T x f) = some v) : (execOp a.eval ⟨dst, .fieldAddr T x f, type, pos, after, guard⟩).run P w = .ok (.value v.den) w := by
  simp only [opQ] at h
  split at h
  · rename_i h1 hx
    split at h
    · cases h
    · rename_i o sz ag hn hf
      cases h
      have hT := (tyok _ _ h1).k
      simp only [execOp, ev_ok hS hx, SV.den]
      rw [Sem.run_bind, fieldAt_ok hT hf hn]
      simp
    · cases h
  · rename_i h1 hx
    split at h
    · cases h
    · rename_i o sz ag hn hf
      cases h
      have hT := (tyok _ _ h1).k
      simp only [execOp, ev_ok hS hx, SV.den]
      rw [Sem.run_bind, fieldAt_ok hT hf hn]
      simp
    · cases h
  · cases h
theorem q_field (tyok : ∀ T i, ty T = some i → i.ok P T) (hS : Slots sl a) {T : TypeId} {x : Operand} {f : Nat} (h : opQ ty sl own (.field T x f) = some v) : (execOp a.eval ⟨dst, .field T x f, type, pos, after, guard⟩).run P w = .ok (.value v.den) w := by
  simp only [opQ] at h
  split at h
  · rename_i h1 hx
    split at h
    · rename_i o sz ag hf
      obtain ⟨fs, g1, g2, g3⟩ := fits_strct (tyok _ _ h1).k
      have h4 := g2 f
      simp only at h4
      rw [← nth_eq, hf] at h4
      simp only [Option.bind_eq_some_iff, Option.map_eq_some_iff] at h4
      obtain ⟨g, h5, i, h6, d, h7, h8⟩ := h4
      simp only [Prod.mk.injEq] at h8
      obtain ⟨e1, e2, e3⟩ := h8
      subst e1 e2 e3
      simp only [execOp, ev_ok hS hx, SV.den, Instr.field, Sem.run_bind, run_und w g1, Result.andThen_ok, h5, asAgg, Sem.run_pure, part_ok h7 h6 h]
    · cases h
  · cases h
theorem q_load (tyok : ∀ T i, ty T = some i → i.ok P T) (hS : Slots sl a) (hO : Own own w) {T : TypeId} {x : Operand} (h : opQ ty sl own (.load T x) = some v) : (execOp a.eval ⟨dst, .load T x, type, pos, after, guard⟩).run P w = .ok (.value v.den) w := by
  simp only [opQ] at h
  split at h
  · rename_i ti k b off h1 hx
    split at h
    · rename_i b' e cells hk
      split at h
      · rename_i hb; subst hb
        have hm := hO _ _ _ _ hk
        simp only [execOp, ev_ok hS hx, SV.den, Instr.loadAt, Instr.sureAddr, Sem.run_bind, Sem.run_pure, Result.andThen_ok, ld_ok (tyok _ _ h1) hm h]
      · cases h
    · cases h
  · cases h
theorem q_nilCheck (hS : Slots sl a) {x : Operand} (h : opQ ty sl own (.nilCheck x) = some v) : (execOp a.eval ⟨dst, .nilCheck x, type, pos, after, guard⟩).run P w = .ok (.value v.den) w := by
  simp only [opQ] at h
  split at h
  · rename_i hx; cases h; simp [execOp, ev_ok hS hx, SV.den]
  · rename_i hx; cases h; simp [execOp, ev_ok hS hx, SV.den]
  · cases h
theorem q_makeInterface (tyok : ∀ T i, ty T = some i → i.ok P T) (hS : Slots sl a) {T : TypeId} {x : Operand} (h : opQ ty sl own (.makeInterface T x) = some v) : (execOp a.eval ⟨dst, .makeInterface T x, type, pos, after, guard⟩).run P w = .ok (.value v.den) w := by
  simp only [opQ] at h
  split at h
  · cases h
  · cases h
  · rename_i ti y h1 hx n1 n2
    cases h
    have hT := (tyok _ _ n1).k
    simp only [execOp, ev_ok hS n2, SV.den, Instr.makeInterface]
    have : ∃ d, P.underlying T = some d ∧ ∀ m, d ≠ .interface m := by
      obtain ⟨k, sz, by', ze, fl⟩ := ti
      cases k <;> simp only [TK.fits] at hT
      all_goals first
        | exact absurd rfl (h1 _ _ _ _)
        | exact absurd rfl (hx _ _ _ _)
        | exact ⟨_, hT, by simp⟩
        | (obtain ⟨_, hT, _⟩ := hT; exact ⟨_, hT, by simp⟩)
        | (obtain ⟨_, _, _, hT⟩ := hT; exact ⟨_, hT, by simp⟩)
    obtain ⟨d, hd, hn⟩ := this
    simp only [Sem.run_bind, run_und w hd, Result.andThen_ok]
    cases d <;> simp_all
  · cases h
theorem q_makeFunc (hS : Slots sl a) {fn : Fn} {x y : Array Operand} (h : opQ ty sl own (.makeFunc fn x y) = some v) : (execOp a.eval ⟨dst, .makeFunc fn x y, type, pos, after, guard⟩).run P w = .ok (.value v.den) w := by
  simp only [opQ] at h
  split at h
  · rename_i p q hp hq
    cases h
    have e1 : x.map a.eval = (dens p).toArray := by apply Array.ext'; rw [Array.toList_map]; exact evs_ok hS hp
    have e2 : y.map a.eval = (dens q).toArray := by apply Array.ext'; rw [Array.toList_map]; exact evs_ok hS hq
    simp [execOp, Instr.makeFunc, SV.den, e1, e2]
  · cases h
theorem q_extract (hS : Slots sl a) {x : Operand} {n : Nat} (h : opQ ty sl own (.extract x n) = some v) : (execOp a.eval ⟨dst, .extract x n, type, pos, after, guard⟩).run P w = .ok (.value v.den) w := by
  simp only [opQ] at h
  split at h
  · rename_i l hx
    rw [nth_eq] at h
    simp only [execOp, ev_ok hS hx, SV.den, Instr.extract]
    simp [dens_eq, h]
  · cases h
theorem q_build (tyok : ∀ T i, ty T = some i → i.ok P T) (hS : Slots sl a) {T : TypeId} {ps : Array (Nat × Operand)} (h : opQ ty sl own (.build T ps) = some v) : (execOp a.eval ⟨dst, .build T ps, type, pos, after, guard⟩).run P w = .ok (.value v.den) w := by
  simp only [opQ] at h
  split at h
  · rename_i sz by' zero flds qs h1 hq
    simp only [Option.map_eq_some_iff] at h
    obtain ⟨l, hl, h⟩ := h; subst h
    obtain ⟨fs, g1, g2, g3⟩ := fits_strct (tyok _ _ h1).k
    obtain ⟨z, hz, hzc⟩ := run_zero w (tyok _ _ h1)
    simp only at hzc g2 g3
    have hp := evParts_ok hS hq
    have hfill := fill_ok _ _ _ hl
    rw [dens_map_v] at hfill
    have hmap : (fs.mapM fun (f : Field) => (do pure (f.offset, ← sizeOf f.type) : Sem (Nat × Nat))).run P w = .ok (fs.map fun f => (f.offset, ((P.info? f.type).map (·.size)).getD 0)) w := by
      rw [Array.mapM_eq_mapM_toList]
      have hall : ∀ f ∈ fs.toList, (do pure (f.offset, ← sizeOf f.type) : Sem (Nat × Nat)).run P w = .ok (f.offset, ((P.info? f.type).map (·.size)).getD 0) w := by
        intro f hf
        obtain ⟨j, hj, rfl⟩ := List.getElem_of_mem hf
        have := g2 j
        have hlt : j < fs.size := by simpa using hj
        rw [Array.getElem?_eq_getElem hlt, List.getElem?_eq_getElem (by omega)] at this
        simp only [Option.bind_some, Option.bind_eq_some_iff, Option.map_eq_some_iff] at this
        obtain ⟨i, h6, _⟩ := this
        simp only [Array.getElem_toList] 
        simp [sizeOf, typeInfo, h6]
      simp only [Sem.run_map, mapM_ok _ _ fs.toList hall, Result.andThen_ok]
      congr 1
      apply Array.ext'
      simp
    have hplaces : ∀ j, (fs.map fun f => (f.offset, ((P.info? f.type).map (·.size)).getD 0))[j]? = (nth flds j).map fun q => (q.1, q.2.1) := by
      intro j
      rw [nth_eq, ← g2 j, Array.getElem?_map]
      rcases Nat.lt_or_ge j fs.size with hj | hj
      · have := g2 j
        rw [Array.getElem?_eq_getElem hj, List.getElem?_eq_getElem (by omega)] at this
        simp only [Option.bind_some, Option.bind_eq_some_iff, Option.map_eq_some_iff] at this
        obtain ⟨i, h6, d, h7, _⟩ := this
        rw [Array.getElem?_eq_getElem hj]
        simp [h6, h7]
      · simp [Array.getElem?_eq_none hj]
    simp only [execOp, Instr.build, Sem.run_bind, hz, run_und w g1, Result.andThen_ok, hmap, hzc]
    have e : (ps.map fun x => (x.1, a.eval x.2)).toList = qs.map fun x => (x.1, x.2.den) := by rw [Array.toList_map]; exact hp
    have hfun : (fun j => (fs.map fun f => (f.offset, ((P.info? f.type).map (·.size)).getD 0))[j]?) = fun j => (nth flds j).map fun q => (q.1, q.2.1) := funext hplaces
    have e' : (ps.map fun (x : Nat × Operand) => match x with | (i, x) => (i, a.eval x)).toList = qs.map fun x => (x.1, x.2.den) := e
    rw [e', hfun, hfill]
    simp [SV.den]
  · rename_i n e sz by' zero flds qs h1 hq
    split at h
    · rename_i te h2
      simp only [Option.map_eq_some_iff] at h
      obtain ⟨l, hl, h⟩ := h; subst h
      have g1 := (tyok _ _ h1).k
      simp only [TK.fits] at g1
      obtain ⟨z, hz, hzc⟩ := run_zero w (tyok _ _ h1)
      simp only at hzc
      have hp := evParts_ok hS hq
      have hfill := fill_ok _ _ _ hl
      rw [dens_map_v] at hfill
      simp only [execOp, Instr.build, Sem.run_bind, hz, run_und w g1, Result.andThen_ok, hzc, run_size w (tyok _ _ h2)]
      have e' : (ps.map fun (x : Nat × Operand) => match x with | (i, x) => (i, a.eval x)).toList = qs.map fun x => (x.1, x.2.den) := by rw [Array.toList_map]; exact hp
      rw [e', hfill]
      simp [SV.den]
    · cases h
  · cases h

theorem q_indexAddr (tyok : ∀ T i, ty T = some i → i.ok P T) (hS : Slots sl a) {T : TypeId} {x ix : Operand} (h : opQ ty sl own (.indexAddr T x ix) = some v) : (execOp a.eval ⟨dst, .indexAddr T x ix, type, pos, after, guard⟩).run P w = .ok (.value v.den) w := by
  unfold opQ at h
  split at h <;> try (cases h; done)
  all_goals (rename_i hop; first | (cases hop; done) | skip)
  cases hop
  split at h
  · rename_i h1 hx
    split at h
    · rename_i te h2
      split at h
      · rename_i hb
        cases h
        have g1 := (tyok _ _ h1).k
        simp only [TK.fits] at g1
        have e1 := ev_ok hS hx
        simp only [SV.den] at e1
        simp only [execOp, e1, SV.den]
        rw [Sem.run_bind]
        rw [show a.eval (.const (.int _ _)) = .int _ _ from rfl, indexAt_slice g1 (tyok _ _ h2) hb.1 hb.2]
        simp
      · cases h
    · cases h
  · rename_i h1 hx
    split at h
    · rename_i te h2
      split at h
      · rename_i hb
        cases h
        have g1 := (tyok _ _ h1).k
        simp only [TK.fits] at g1
        have e1 := ev_ok hS hx
        simp only [SV.den] at e1
        simp only [execOp, e1, SV.den]
        rw [Sem.run_bind]
        rw [show a.eval (.const (.int _ _)) = .int _ _ from rfl, indexAt_array g1 (tyok _ _ h2) hb.1 hb.2]
        simp
      · cases h
    · cases h
  · cases h
theorem q_call (tyok : ∀ T i, ty T = some i → i.ok P T) (hS : Slots sl a) {c : Call} (h : opQ ty sl own (.call c) = some v) : (execOp a.eval ⟨dst, .call c, type, pos, after, guard⟩).run P w = .ok (.value v.den) w := by
  unfold opQ at h
  split at h <;> try (cases h; done)
  all_goals (rename_i hop; first | (cases hop; done) | skip)
  · rename_i args tys
    cases hop
    split at h
    · rename_i x T hargs htys
      have ea : args = #[x] := by apply Array.ext'; simpa using hargs
      have et : tys = #[T] := by apply Array.ext'; simpa using htys
      subst ea et
      split at h
      · rename_i h1 hx
        cases h
        have g1 := (tyok _ _ h1).k
        simp only [TK.fits] at g1
        simp [execOp, resolve, invoke, builtin, Builtin.len_, ev_ok hS hx, SV.den, run_und w g1, goInt]
      · rename_i h1 hx
        cases h
        have g1 := (tyok _ _ h1).k
        simp only [TK.fits] at g1
        simp [execOp, resolve, invoke, builtin, Builtin.len_, ev_ok hS hx, SV.den, run_und w g1, goInt]
      · rename_i h1 hx
        cases h
        have g1 := (tyok _ _ h1).k
        simp only [TK.fits] at g1
        simp [execOp, resolve, invoke, builtin, Builtin.len_, ev_ok hS hx, SV.den, run_und w g1, goInt]
      · cases h
    · cases h
  · rename_i args tys
    cases hop
    split at h
    · rename_i x y hargs
      have ea : args = #[x, y] := by apply Array.ext'; simpa using hargs
      subst ea
      split at h
      · rename_i hx hy
        cases h
        simp [execOp, resolve, invoke, builtin, Builtin.min_, Builtin.min2, ev_ok hS hx, ev_ok hS hy, SV.den]
      · cases h
    · cases h
  · rename_i args tys
    cases hop
    split at h
    · rename_i x y hargs
      have ea : args = #[x, y] := by apply Array.ext'; simpa using hargs
      subst ea
      split at h
      · rename_i hx hy
        cases h
        simp [execOp, resolve, invoke, builtin, Builtin.max_, Builtin.max2, ev_ok hS hx, ev_ok hS hy, SV.den]
      · cases h
    · cases h

/-- What the walk's quiet operation does in the model: its value, and the world as it was. -/
theorem q_all (tyok : ∀ T i, ty T = some i → i.ok P T) (hS : Slots sl a) (hO : Own own w) {o : Oper} (h : opQ ty sl own o.op = some v) : (execOp a.eval o).run P w = .ok (.value v.den) w := by
  obtain ⟨dst, op, type, pos, after, guard⟩ := o
  cases op
  case move => exact q_move hS h
  case assign => exact q_assign hS h
  case pick => exact q_pick hS h
  case binOp => exact q_binOp tyok hS h
  case unOp => exact q_unOp hS h
  case convert => exact q_convert tyok hS h
  case fieldAddr => exact q_fieldAddr tyok hS h
  case field => exact q_field tyok hS h
  case load => exact q_load tyok hS hO h
  case nilCheck => exact q_nilCheck hS h
  case makeInterface => exact q_makeInterface tyok hS h
  case makeFunc => exact q_makeFunc hS h
  case extract => exact q_extract hS h
  case build => exact q_build tyok hS h
  case indexAddr => exact q_indexAddr tyok hS h
  case call => exact q_call tyok hS h
  all_goals (simp [opQ] at h)
end
end Go.Sx
