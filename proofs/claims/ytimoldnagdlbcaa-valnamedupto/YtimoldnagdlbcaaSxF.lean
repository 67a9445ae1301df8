/-
  A symbolic walk over the model's code: stores, new blocks; the walk itself, and that it is sound. Generic: names no program.
-/
import Derived.Test.YtimoldnagdlbcaaSxE
namespace Go.Sx
set_option linter.unusedSimpArgs false
set_option linter.unusedVariables false
open Go.RowKit

theorem rep_ok (z : List Value) (hz : z ≠ []) : ∀ n, ((Array.range (n * z.length)).map (fun i => z.toArray[i % z.toArray.size]!)).toList = rep z n := by
  intro n
  have hl : 0 < z.length := List.length_pos_iff.2 hz
  induction n with
  | zero => simp [rep]
  | succ n ih =>
    simp only [Array.toList_map, Array.toList_range] at ih ⊢
    rw [show (n + 1) * z.length = z.length + n * z.length by rw [Nat.add_mul]; omega, List.range_add, List.map_append, List.map_map, rep, ← ih]
    congr 1
    · apply List.ext_getElem
      · simp
      · intro i h1 h2
        simp only [List.getElem_map, List.getElem_range, List.size_toArray]
        rw [Nat.mod_eq_of_lt h2]
        simp [h2]
    · apply List.map_congr_left
      intro i _
      simp [Nat.add_mod_left]

/-! ### One operation -/

theorem semAt_run {P : Program} {ro : Option Nat} {ρ : Operand → Value} {o : Oper} {w w' : World} {nx : Next} (hrun : (execOp ρ o).run P w = .ok nx w') (hn : ∀ d, nx ≠ .defer d) : (o.semAt ro ρ).run P w = .ok nx w' := by
  rw [Oper.semAt_eq]
  · exact hrun
  · intro c hc
    obtain ⟨dst, op, type, pos, after, guard⟩ := o
    simp only at hc
    subst hc
    simp only [execOp, Sem.run_bind] at hrun
    cases hr : (resolve ρ c type).run P w with
    | ok d w1 => rw [hr] at hrun; simp at hrun; exact hn _ hrun.1.symm
    | halt x w1 => rw [hr] at hrun; simp [Result.andThen] at hrun

section
variable {P : Program} {ro : Option Nat} {C : Ctx} {K : List KI} {R : Array Oper} {l : List Oper} {o : Oper} {a : Act} {w w' : World}
theorem op_value {v : Value} (hrun : (execOp a.eval o).run P w = .ok (.value v) w') {Q : Exit → Act → World → Prop} {next : Act → World → Prop} (h : next (a.put o.dst v) w') : o.wpIn (FR ro) 0 P a w next Q := by
  refine ⟨fun _ _ => trivial, ?_⟩
  have := semAt_run (ro := ro) hrun (by simp)
  show o.uponIn _ _ _ _ _ _ ((o.semAt ro a.eval).run P w)
  rw [this]; exact h
theorem op_skip (hrun : (execOp a.eval o).run P w = .ok .skip w') {Q : Exit → Act → World → Prop} {next : Act → World → Prop} (h : next (a.put o.dst undef) w') : o.wpIn (FR ro) 0 P a w next Q := by
  refine ⟨fun _ _ => trivial, ?_⟩
  have := semAt_run (ro := ro) hrun (by simp)
  show o.uponIn _ _ _ _ _ _ ((o.semAt ro a.eval).run P w)
  rw [this]; exact h
theorem op_enter {f : FuncId} {args : Array Value} (hrun : (execOp a.eval o).run P w = .ok (.enter f args) w') {Q : Exit → Act → World → Prop} {next : Act → World → Prop}
    (h : Calls P f args w' fun e w'' => ∃ v, e = .returned v ∧ next (a.put o.dst v) w'') : o.wpIn (FR ro) 0 P a w next Q := by
  refine ⟨fun _ _ => trivial, ?_⟩
  have := semAt_run (ro := ro) hrun (by simp)
  show o.uponIn _ _ _ _ _ _ ((o.semAt ro a.eval).run P w)
  rw [this]
  refine ⟨FR_depth _ _, callsFR.2 (h.mono ?_)⟩
  rintro e w'' ⟨v, rfl, hv⟩
  exact hv

theorem K_op (hg : o.guard = none) (h : o.wpIn (FR C.ro) 0 C.P a w (fun a' w' => wpK C.P C.ro C.Q (.ops R l :: K) .normal a' w') (wpK C.P C.ro C.Q K)) : wpK C.P C.ro C.Q (.ops R (o :: l) :: K) .normal a w := by
  simp only [wpK, wpListIn] at h ⊢
  rw [if_pos (by simp [Region.wanted, hg])]
  exact h
theorem K_value (hg : o.guard = none) {v : Value} (hrun : (execOp a.eval o).run C.P w = .ok (.value v) w') (h : wpK C.P C.ro C.Q (.ops R l :: K) .normal (a.put o.dst v) w') : wpK C.P C.ro C.Q (.ops R (o :: l) :: K) .normal a w :=
  K_op hg (op_value hrun h)
theorem K_skip (hg : o.guard = none) (hrun : (execOp a.eval o).run C.P w = .ok .skip w') (h : wpK C.P C.ro C.Q (.ops R l :: K) .normal (a.put o.dst undef) w') : wpK C.P C.ro C.Q (.ops R (o :: l) :: K) .normal a w :=
  K_op hg (op_skip hrun h)
theorem K_enter (hg : o.guard = none) {f : FuncId} {args : Array Value} (hrun : (execOp a.eval o).run C.P w = .ok (.enter f args) w') (h : Calls C.P f args w' fun e w'' => ∃ v, e = .returned v ∧ wpK C.P C.ro C.Q (.ops R l :: K) .normal (a.put o.dst v) w'') : wpK C.P C.ro C.Q (.ops R (o :: l) :: K) .normal a w :=
  K_op hg (op_enter hrun h)
end

section
variable {C : Ctx} {s : St} {a : Act} {w : World}

theorem Mem.owns {C : Ctx} {own : List (Nat × Nat × OO)} {G : Hp} {w : World} (h : Mem C own G w) : Own own w := fun k b e cells q => (h.own k b _ q).1

theorem store_ok (hS : Sat C s a w) {o : Oper} {own' : List (Nat × Nat × OO)} (h : opStore C.ty s.sl s.own o.op = some own') : ∃ w', (execOp a.eval o).run C.P w = .ok .skip w' ∧ Mem C own' s.G w' := by
  obtain ⟨dst, op, type, pos, after, guard⟩ := o
  cases op
  case store T x y =>
    simp only [opStore] at h
    split at h
    · rename_i ti k b off z h1 hx hy
      split at h
      · rename_i vs hcs
        split at h
        · rename_i b' e cells hk
          split at h
          · rename_i hb
            obtain ⟨hb, hlen, hone⟩ := hb
            subst hb
            simp only [Option.map_eq_some_iff] at h
            obtain ⟨cells', hl, h⟩ := h; subst h
            have hm : w.heap[b']? = some (.cells (dens cells).toArray e) := (hS.mem.own _ _ _ hk).1
            have hc := SV.cs_ok hcs
            have hl' := lay_map SV.den _ _ _ _ hl
            rw [← dens_eq, ← dens_eq, ← dens_eq] at hl'
            have hsz : (dens vs).toArray.size = ti.size := by simp [dens_eq, hlen]
            refine ⟨setBlk w b' (.cells (dens cells').toArray e), ?_, hS.mem.set hk⟩
            simp only [execOp, ev_ok hS.sl hx, ev_ok hS.sl hy, SV.den, Instr.storeAt, Instr.sureAddr, storeVar, Sem.run_bind, Sem.run_pure, Result.andThen_ok, run_size w (C.tyok _ _ h1), hc, hsz]
            simp only [ne_eq, not_true_eq_false, if_false, Sem.run_pure, Result.andThen_ok]
            rw [run_storeCells (dens vs) 0 w (dens cells) (dens cells') hm ?_ (by simpa using hl')]
            · simp
            · intro u hu
              rw [dens_eq, List.mem_map] at hu
              obtain ⟨q, hq, rfl⟩ := hu
              exact SV.one_ok (List.all_eq_true.1 hone q hq)
          · cases h
        · cases h
      · cases h
    · cases h
  all_goals (simp [opStore] at h)

theorem alloc_ok (hS : Sat C s a w) {o : Oper} {e : TypeId} {cells : List SV} {mk : Nat → Nat → SV} (h : opAlloc C.ty s.sl o.op = some (e, cells, mk)) (k : Nat) :
    (execOp a.eval o).run C.P w = .ok (.value (mk k w.heap.size).den) (w.alloc (.cells (dens cells).toArray e)) := by
  obtain ⟨dst, op, type, pos, after, guard⟩ := o
  cases op
  case alloc T =>
    simp only [opAlloc, Option.map_eq_some_iff] at h
    obtain ⟨ti, h1, h⟩ := h; cases h
    obtain ⟨z, hz, hzc⟩ := run_zero w (C.tyok _ _ h1)
    simp only [execOp, Instr.alloc, Sem.run_bind, hz, Result.andThen_ok, newVar, newRow, run_newObj, Sem.run_pure, hzc]
    simp [SV.den, dens_map_v]
  case box T x =>
    simp only [opAlloc] at h
    split at h
    · rename_i y hy
      simp only [Option.map_eq_some_iff] at h
      obtain ⟨l, hl, h⟩ := h; cases h
      have hc := SV.cs_ok hl
      simp only [execOp, Instr.box, Sem.run_bind, ev_ok hS.sl hy, Result.andThen_ok, newVar, newRow, run_newObj, Sem.run_pure, hc]
      simp [SV.den]
    · cases h
  case buildSlice T len ps =>
    simp only [opAlloc] at h
    split at h
    · rename_i e sz by' ze fl qs h1 hq
      split at h
      · rename_i te h2
        split at h
        · rename_i hle
          simp only [Option.map_eq_some_iff] at h
          obtain ⟨l, hl, h⟩ := h; cases h
          have g1 := (C.tyok _ _ h1).k
          simp only [TK.fits] at g1
          have hp := evParts_ok hS.sl hq
          have hfill := fill_ok _ _ _ hl
          obtain ⟨z, hz, hzc⟩ := run_zero w (C.tyok _ _ h2)
          have hlen := (C.tyok _ _ h2).len
          have e' : (ps.map fun (x : Nat × Operand) => match x with | (i, x) => (i, a.eval x)).toList = qs.map fun x => (x.1, x.2.den) := by rw [Array.toList_map]; exact hp
          have hdr : ∀ n, dens (rep (te.zero.map .v) n) = rep te.zero n := by
            intro n
            induction n with
            | zero => simp [rep, dens]
            | succ n ih => simp only [rep, dens_eq, List.map_append] at ih ⊢; rw [ih, ← dens_eq, dens_map_v]
          rw [hdr] at hfill
          simp only [execOp, Instr.buildSlice, Sem.run_bind, run_und w g1, Result.andThen_ok, run_size w (C.tyok _ _ h2)]
          have h2p : ¬ (len * te.size > 2 ^ 24) := by omega
          simp only [h2p, if_false, Sem.run_pure, Result.andThen_ok]
          by_cases h0 : len * te.size = 0
          · simp only [h0, if_true, Sem.run_pure, Result.andThen_ok, e']
            have : rep te.zero len = [] := by
              rcases Nat.mul_eq_zero.1 h0 with q | q
              · subst q; rfl
              · rw [q] at hlen
                have : te.zero = [] := List.length_eq_zero_iff.1 hlen
                rw [this]; clear hl hfill hle h0 h2p; induction len with
                | zero => rfl
                | succ n ih => simp [rep, ih]
            rw [this] at hfill
            have hr : ∀ g : Nat → Value, (Array.range 0).map g = #[] := by intro g; apply Array.ext'; simp
            rw [Sem.run_bind, Sem.run_pure, Result.andThen_ok, hr, hfill]
            simp only [newRow, Sem.run_bind, run_newObj, Result.andThen_ok, Sem.run_pure]
            simp [SV.den]
          · simp only [h0, if_false, Sem.run_bind, hz, Result.andThen_ok, Sem.run_pure, e', hzc]
            have hne : te.zero ≠ [] := by intro q; rw [q] at hlen; simp at hlen; rw [← hlen] at h0; simp at h0
            have hr : (Array.range (len * te.size)).map (fun i => te.zero.toArray[i % te.zero.toArray.size]!) = (rep te.zero len).toArray := by
              apply Array.ext'
              rw [← hlen, rep_ok _ hne]
            rw [hr, hfill]
            simp only [newRow, Sem.run_bind, run_newObj, Result.andThen_ok, Sem.run_pure]
            simp [SV.den]
        · cases h
      · cases h
    · cases h
  all_goals (simp [opAlloc] at h)
end

def putS (d : Option Tmp) (x : SV) (sl : List (Nat × SV)) : List (Nat × SV) :=
  match d with
  | some d => stk d x sl
  | none => sl
def dOk (nt : Nat) : Option Tmp → Bool
  | some d => decide (d < nt)
  | none => true

theorem Sat.put {C : Ctx} {s : St} {a : Act} {w w' : World} (hS : Sat C s a w) {d : Option Tmp} (hd : dOk C.nt d = true) (x : SV) {own' : List (Nat × Nat × OO)} {G' : Hp} (hm : Mem C own' G' w') :
    Sat C ⟨putS d x s.sl, own', G', s.df⟩ (a.put d x.den) w' := by
  cases d with
  | none => exact ⟨hS.sl, hS.nt, hS.df, hm⟩
  | some d =>
    simp only [dOk, decide_eq_true_eq] at hd
    refine ⟨fun i y hy => ?_, by simp [Act.put, hS.nt], hS.df, hm⟩
    simp only [putS, lk_stk] at hy
    simp only [Act.put]
    split at hy
    · rename_i e; subst e; cases hy
      rw [Array.getElem?_setIfInBounds_self_of_lt (by rw [hS.nt]; exact hd)]
    · rename_i e
      rw [Array.getElem?_setIfInBounds_ne (Ne.symm e)]
      exact hS.sl i y hy

/-- One operation: pure, or one that makes a block, or (none) one at which the walk stops. -/
def sx (ty : TypeId → Option TI) (nt mh : Nat) : Nat → List Nat → List KI → St → List KI × St
  | 0, _, K, s => (K, s)
  | _ + 1, _, [], s => ([], s)
  | n + 1, bs, .blk _ :: K, s => sx ty nt mh n bs K s
  | n + 1, bs, .code .skip :: K, s => sx ty nt mh n bs K s
  | n + 1, bs, .code (.label _) :: K, s => sx ty nt mh n bs K s
  | n + 1, bs, .code (.seq x y) :: K, s => sx ty nt mh n bs (.code x :: .code y :: K) s
  | n + 1, bs, .code (.block id x) :: K, s => sx ty nt mh n bs (.code x :: .blk id :: K) s
  | n + 1, bs, .code (.region id R false) :: K, s => sx ty nt mh n bs (.ops R R.toList :: K) s
  | n + 1, bs, .code (.exit id) :: K, s => match popTo id K with
    | some K' => sx ty nt mh n bs K' s
    | none => (.code (.exit id) :: K, s)
  | n + 1, bs, .code (.cond c x y) :: K, s => match ev s.sl c with
    | some (.b true) => sx ty nt mh n bs (.code x :: K) s
    | some (.b false) => sx ty nt mh n bs (.code y :: K) s
    | _ => (.code (.cond c x y) :: K, s)
  | n + 1, bs, .ops _ [] :: K, s => sx ty nt mh n bs K s
  | n + 1, bs, .ops R (⟨d, op, t, pos, aft, none⟩ :: l) :: K, s => match dOk nt d, opQ ty s.sl s.own op with
    | true, some r => sx ty nt mh n bs (.ops R l :: K) ⟨putS d r s.sl, s.own, s.G, s.df⟩
    | true, none => match opStore ty s.sl s.own op with
      | some own' => sx ty nt mh n bs (.ops R l :: K) ⟨putS d (.v undef) s.sl, own', s.G, s.df⟩
      | none => match opAlloc ty s.sl op, bs with
        | some r, b :: bs' => sx ty nt mh n bs' (.ops R l :: K) ⟨putS d (r.2.2 (fk mh s.own) b) s.sl, stk (fk mh s.own) (b, .c r.1 r.2.1) s.own, s.G, s.df⟩
        | _, _ => (.ops R (⟨d, op, t, pos, aft, none⟩ :: l) :: K, s)
    | false, _ => (.ops R (⟨d, op, t, pos, aft, none⟩ :: l) :: K, s)
  | n + 1, bs, .ops R (⟨d, op, t, pos, aft, some (j, want)⟩ :: l) :: K, s => match (R[j]?).bind (·.dst) with
    | some g => match lk g s.sl, dOk nt d with
      | some (.b u), true => match eqB u want with
        | true => sx ty nt mh n bs (.ops R (⟨d, op, t, pos, aft, none⟩ :: l) :: K) s
        | false => sx ty nt mh n bs (.ops R l :: K) ⟨putS d (.v undef) s.sl, s.own, s.G, s.df⟩
      | _, _ => (.ops R (⟨d, op, t, pos, aft, some (j, want)⟩ :: l) :: K, s)
    | none => (.ops R (⟨d, op, t, pos, aft, some (j, want)⟩ :: l) :: K, s)
  | _ + 1, _, K, s => (K, s)

def SGo' (C : Ctx) (x : List KI × St) : Prop := SGo C x.1 x.2
theorem toGo {C : Ctx} {K : List KI} {s : St} (h : SGo' C (K, s)) : SGo C K s := h

section
variable {C : Ctx} {K : List KI} {s : St}

theorem go_op {R : Array Oper} {l : List Oper} {o : Oper} (hg : o.guard = none) (hd : dOk C.nt o.dst = true) {r : SV} (ho : opQ C.ty s.sl s.own o.op = some r)
    (h : SGo C (.ops R l :: K) ⟨putS o.dst r s.sl, s.own, s.G, s.df⟩) : SGo C (.ops R (o :: l) :: K) s := by
  intro a w hS
  have hrun := q_all C.tyok hS.sl hS.mem.owns ho
  exact K_value hg hrun (h _ _ (hS.put hd r hS.mem))

theorem go_st {R : Array Oper} {l : List Oper} {o : Oper} (hg : o.guard = none) (hd : dOk C.nt o.dst = true) {own' : List (Nat × Nat × OO)} (ho : opStore C.ty s.sl s.own o.op = some own')
    (h : SGo C (.ops R l :: K) ⟨putS o.dst (.v undef) s.sl, own', s.G, s.df⟩) : SGo C (.ops R (o :: l) :: K) s := by
  intro a w hS
  obtain ⟨w', hrun, hm⟩ := store_ok hS ho
  exact K_skip hg hrun (h _ _ (hS.put hd (.v undef) hm))

theorem go_new {R : Array Oper} {l : List Oper} {o : Oper} (hg : o.guard = none) (hd : dOk C.nt o.dst = true) {r : TypeId × List SV × (Nat → Nat → SV)} (ho : opAlloc C.ty s.sl o.op = some r)
    (h : ∀ b, SGo C (.ops R l :: K) ⟨putS o.dst (r.2.2 (fk C.mh s.own) b) s.sl, stk (fk C.mh s.own) (b, .c r.1 r.2.1) s.own, s.G, s.df⟩) : SGo C (.ops R (o :: l) :: K) s := by
  intro a w hS
  have hrun := alloc_ok hS (e := r.1) (cells := r.2.1) (mk := r.2.2) ho (fk C.mh s.own)
  exact K_value hg hrun (h _ _ _ (hS.put hd _ (hS.mem.alloc r.1 r.2.1)))

theorem yielded_ok {a : Act} {w : World} (hS : Sat C s a w) {R : Array Oper} {j g : Nat} {u : Bool} (hj : (R[j]?).bind (·.dst) = some g) (hl : ∃ x, lk g s.sl = some x ∧ x.den = .bool u) : yielded R a.tmps j = some u := by
  obtain ⟨x, h1, h2⟩ := hl
  have := hS.sl g x h1
  simp [yielded, hj, this, h2]

theorem go_guarded {R : Array Oper} {l : List Oper} {d : Option Tmp} {op : Op} {t : TypeId} {pos : String} {aft : Array Edge} {j g : Nat} {want : Bool}
    (hj : (R[j]?).bind (·.dst) = some g) (hd : dOk C.nt d = true) {u : Bool} (hu : lk g s.sl = some (.b u))
    (h1 : u = want → SGo C (.ops R (⟨d, op, t, pos, aft, none⟩ :: l) :: K) s)
    (h2 : u ≠ want → SGo C (.ops R l :: K) ⟨putS d (.v undef) s.sl, s.own, s.G, s.df⟩) : SGo C (.ops R (⟨d, op, t, pos, aft, some (j, want)⟩ :: l) :: K) s := by
  intro a w hS
  have hy := yielded_ok hS hj ⟨_, hu, rfl⟩
  simp only [wpK, wpListIn, Region.wanted, hy]
  by_cases e : u = want
  · have := h1 e a w hS
    simp only [wpK, wpListIn, Region.wanted, if_true] at this
    rw [if_pos (by simp [e])]
    exact this
  · have := h2 e _ _ (hS.put hd (.v undef) hS.mem)
    simp only [wpK] at this
    rw [if_neg (by simpa using e)]
    exact ⟨fun _ _ => trivial, this⟩

theorem go_if {c : Operand} {x y : Code} {z : SV} {t : Bool} (hc : ev s.sl c = some z) (hz : z.den = .bool t) (h1 : t = true → SGo C (.code x :: K) s) (h2 : t = false → SGo C (.code y :: K) s) :
    SGo C (.code (.cond c x y) :: K) s := by
  intro a w hS
  exact wpIn_cond_split (by rw [ev_ok hS.sl hc, hz]) (fun e => h1 e a w hS) (fun e => h2 e a w hS)

theorem sx_sound (C : Ctx) : ∀ (n k : Nat) (K : List KI) (s : St), (∀ bs : List Nat, bs.length = k → SGo' C (sx C.ty C.nt C.mh n bs K s)) → SGo C K s := by
  intro n
  induction n with
  | zero => intro k K s h; exact h (List.replicate k 0) (by simp)
  | succ n ih =>
    intro k K s h
    have base := h (List.replicate k 0) (by simp)
    match K with
    | [] => exact base
    | .blk _ :: K => exact go_blk (ih k _ _ fun bs hb => by simpa only [sx] using h bs hb)
    | .loop _ :: K => exact base
    | .q _ _ _ :: K => exact base
    | .h _ _ _ _ :: K => exact base
    | .hs _ :: K => exact base
    | .hu _ _ _ _ _ :: K => exact base
    | .br _ :: K => exact base
    | .code c :: K =>
      cases c with
      | skip => exact go_skip (ih k _ _ fun bs hb => by simpa only [sx] using h bs hb)
      | label _ => exact go_label (ih k _ _ fun bs hb => by simpa only [sx] using h bs hb)
      | seq x y => exact go_seq (ih k _ _ fun bs hb => by simpa only [sx] using h bs hb)
      | block id x => exact go_block (ih k _ _ fun bs hb => by simpa only [sx] using h bs hb)
      | region id R dr =>
        cases dr with
        | true => exact base
        | false => exact go_region (ih k _ _ fun bs hb => by simpa only [sx] using h bs hb)
      | exit id =>
        cases hp : popTo id K with
        | none => exact toGo (by simpa only [sx, hp] using base)
        | some K' => exact go_exit hp (ih k _ _ fun bs hb => by simpa only [sx, hp] using h bs hb)
      | cond c x y =>
        cases hc : ev s.sl c with
        | none => exact toGo (by simpa only [sx, hc] using base)
        | some z =>
          cases z with
          | b t =>
            cases t with
            | true => exact go_if hc rfl (fun _ => ih k _ _ fun bs hb => by simpa only [sx, hc] using h bs hb) (fun e => by cases e)
            | false => exact go_if hc rfl (fun e => by cases e) (fun _ => ih k _ _ fun bs hb => by simpa only [sx, hc] using h bs hb)
          | _ => exact toGo (by simpa only [sx, hc] using base)
      | _ => exact base
    | .ops R [] :: K => exact go_ops (ih k _ _ fun bs hb => by simpa only [sx] using h bs hb)
    | .ops R (⟨d, op, t, pos, aft, none⟩ :: l) :: K =>
      cases hd : dOk C.nt d with
      | false => exact toGo (by simpa only [sx, hd] using base)
      | true =>
        cases ho : opQ C.ty s.sl s.own op with
        | some r => exact go_op (o := ⟨d, op, t, pos, aft, none⟩) rfl hd ho (ih k _ _ fun bs hb => by simpa only [sx, hd, ho] using h bs hb)
        | none =>
          cases hs : opStore C.ty s.sl s.own op with
          | some own' => exact go_st (o := ⟨d, op, t, pos, aft, none⟩) rfl hd hs (ih k _ _ fun bs hb => by simpa only [sx, hd, ho, hs] using h bs hb)
          | none =>
            cases hn : opAlloc C.ty s.sl op with
            | none => exact toGo (by simpa only [sx, hd, ho, hs, hn] using base)
            | some r =>
              cases k with
              | zero =>
                have := h [] rfl
                exact toGo (by simpa only [sx, hd, ho, hs, hn] using this)
              | succ k =>
                exact go_new (o := ⟨d, op, t, pos, aft, none⟩) rfl hd hn fun b => ih k _ _ fun bs hb => by
                  have := h (b :: bs) (by simp [hb])
                  simpa only [sx, hd, ho, hs, hn] using this
    | .ops R (⟨d, op, t, pos, aft, some (j, want)⟩ :: l) :: K =>
      cases hj : (R[j]?).bind (·.dst) with
      | none => exact toGo (by simpa only [sx, hj] using base)
      | some g =>
        cases hl : lk g s.sl with
        | none => exact toGo (by simpa only [sx, hj, hl] using base)
        | some z =>
          cases z with
          | b u =>
            cases hd : dOk C.nt d with
            | false => exact toGo (by simpa only [sx, hj, hl, hd] using base)
            | true =>
              refine go_guarded hj hd hl (fun e => ?_) (fun e => ?_)
              · have e' : eqB u want = true := by rw [e]; exact eqB_self _
                exact ih k _ _ fun bs hb => by simpa only [sx, hj, hl, hd, e'] using h bs hb
              · have e' : eqB u want = false := eqB_ne e
                exact ih k _ _ fun bs hb => by simpa only [sx, hj, hl, hd, e'] using h bs hb
          | _ => exact toGo (by simpa only [sx, hj, hl] using base)
end
end Go.Sx
