/-
  A symbolic walk over the model's code: quiet operations by hand; slices that grow; regions that draw their order. Generic: names no program.
-/
import Derived.Test.YtimoldnagdlbcaaSxG
namespace Go.Sx
set_option linter.unusedSimpArgs false
set_option linter.unusedVariables false
open Go.RowKit

/-! ### Quiet operations -/

def Hold (C : Ctx) (own : List (Nat × Nat × OO)) (G : Hp) (w : World) : Prop := (∀ h b o, lk h own = some (b, o) → o.holds C.w0.heap.size w b) ∧ Has w G
theorem Mem.hold {C : Ctx} {own : List (Nat × Nat × OO)} {G : Hp} {w : World} (h : Mem C own G w) : Hold C own G w := ⟨fun k b o e => (h.own k b o e).1, h.has⟩
theorem Hold.owns {C : Ctx} {own : List (Nat × Nat × OO)} {G : Hp} {w : World} (h : Hold C own G w) : Own own w := fun k b e cells q => h.1 k b _ q

/-- Where the slots and the memory are as told the operation yields v and leaves the world alone. -/
def Quiet (C : Ctx) (sl : List (Nat × SV)) (own : List (Nat × Nat × OO)) (G : Hp) (op : Op) (v : Value) : Prop :=
  ∀ (a : Act) (w : World) (d : Option Tmp) (t : TypeId) (pos : String) (aft : Array Edge) (g : Option (Nat × Bool)), Slots sl a → Hold C own G w → (execOp a.eval ⟨d, op, t, pos, aft, g⟩).run C.P w = .ok (.value v) w

section
variable {C : Ctx} {K : List KI} {s : St} {sl : List (Nat × SV)} {own : List (Nat × Nat × OO)} {G : Hp} {R : Array Oper} {l : List Oper} {d : Option Tmp} {t : TypeId} {pos : String} {aft : Array Edge} {op : Op} {v : Value}

theorem Quiet.cast {v' : Value} (h : Quiet C sl own G op v) (e : v = v') : Quiet C sl own G op v' := e ▸ h
theorem quiet_op {x : SV} (h : opQ C.ty sl own op = some x) : Quiet C sl own G op x.den := fun _ _ _ _ _ _ _ hs hh => q_all C.tyok hs hh.owns h

theorem quiet_load {T : TypeId} {x : Operand} {ti : TI} {b off : Nat} {vs : List Value}
    (hT : C.ty T = some ti) (hx : ev sl x = some (.v (.pointer (some ⟨b, off, none⟩)))) (h1 : ti.k.agg = false → ti.size = 1) (ha : At G b off vs) (hl : vs.length = ti.size) : Quiet C sl own G (.load T x) (ldV ti.k.agg vs) := by
  intro a w d t pos aft g hs hh
  have hxv := ev_ok hs hx
  simp only [SV.den] at hxv
  simp only [execOp, hxv, Instr.loadAt, Instr.sureAddr, Sem.run_bind, Sem.run_pure, Result.andThen_ok, at_load (C.tyok _ _ hT) hh.2 ha hl h1]

theorem row_load {P : Program} {w : World} {base : Nat} {e : TypeId} {size n cap b : Nat} {xs : List Value} (h : w.ownsRow base e size (.slice (some ⟨b, 0, none⟩) n cap) n xs) : At (fun j => w.heap[j]?) b 0 xs := by
  obtain ⟨h1, h2⟩ := h
  rcases h2 with ⟨h2, _⟩ | ⟨g, cap', cur, hv, hb, hg, hn, hm, hs, ht⟩
  · cases h2
  · cases hv
    refine ⟨cur, e, (0, 0), hg, ?_, fun i hi => ?_⟩
    · rw [← ht]; simp; omega
    · have := congrArg (fun l => l[i]?) ht
      simp only [List.getElem?_take] at this
      rw [if_pos (by rw [← h1]; exact hi)] at this
      simpa using this

theorem At.sub {G : Hp} {b off : Nat} {vs : List Value} (h : At G b off vs) (m n : Nat) (hm : m + n ≤ vs.length) : At G b (off + m) ((vs.drop m).take n) := by
  obtain ⟨arr, e, fz, h1, h2, h3⟩ := h
  refine ⟨arr, e, fz, h1, by simp; omega, fun i hi => ?_⟩
  have hi' : i < n := by simp at hi; omega
  rw [Nat.add_assoc, h3 (m + i) (by omega)]
  simp [List.getElem?_take, hi']
theorem At.drop {G : Hp} {b off : Nat} {vs : List Value} (h : At G b off vs) (m : Nat) (hm : m ≤ vs.length) : At G b (off + m) (vs.drop m) := by
  have := h.sub m (vs.length - m) (by omega)
  rwa [List.take_of_length_le (by simp)] at this

/-- A load out of a growing slice of the call's own. -/
theorem quiet_loadR {T : TypeId} {x : Operand} {ti : TI} {k b b' off n cap size : Nat} {e : TypeId} {xs : List Value}
    (hT : C.ty T = some ti) (hx : ev sl x = some (.v (.pointer (some ⟨b, off, none⟩)))) (h1 : ti.k.agg = false → ti.size = 1) (hk : lk k own = some (b', .row (.slice (some ⟨b, 0, none⟩) n cap) e size n xs)) (hl : off + ti.size ≤ xs.length) :
    Quiet C sl own G (.load T x) (ldV ti.k.agg ((xs.drop off).take ti.size)) := by
  intro a w d t pos aft g hs hh
  have hxv := ev_ok hs hx
  simp only [SV.den] at hxv
  have hrow := hh.1 _ _ _ hk
  simp only [OO.holds] at hrow
  have hat := (row_load (P := C.P) hrow).sub off ti.size hl
  rw [Nat.zero_add] at hat
  simp only [execOp, hxv, Instr.loadAt, Instr.sureAddr, Sem.run_bind, Sem.run_pure, Result.andThen_ok, at_load (C.tyok _ _ hT) (w := w) (G := fun j => w.heap[j]?) (fun _ _ e => e) hat (by simp; omega) h1]

theorem quiet_index {T e : TypeId} {x ix : Operand} {te : TI} {sz by' : Nat} {ze : List Value} {fl : List (Nat × Nat × Bool)} {b off len cap : Nat} {k : IntKind} {n : Int} {y : SV}
    (hT : C.ty T = some ⟨.slice e, sz, by', ze, fl⟩) (he : C.ty e = some te) (hx : ev sl x = some y) (hy : y.den = .slice (some ⟨b, off, none⟩) len cap) (hi : ev sl ix = some (.v (.int k n))) (h0 : 0 ≤ n) (h1 : n < (len : Int)) :
    Quiet C sl own G (.indexAddr T x ix) (.pointer (some ⟨b, off + n.toNat * te.size, none⟩)) := by
  intro a w d t pos aft g hs hh
  have hxv := ev_ok hs hx
  have hiv := ev_ok hs hi
  rw [hy] at hxv
  simp only [SV.den] at hiv
  have g1 := (C.tyok _ _ hT).k
  simp only [TK.fits] at g1
  simp only [execOp, hxv, hiv]
  rw [Sem.run_bind, indexAt_slice g1 (C.tyok _ _ he) h0 h1]
  simp

/-- The length of a growing slice. -/
theorem quiet_lenR {T e' e : TypeId} {x : Operand} {sz by' : Nat} {ze : List Value} {fl : List (Nat × Nat × Bool)} {k b' n size : Nat} {u : Value} {xs : List Value}
    (hT : C.ty T = some ⟨.slice e', sz, by', ze, fl⟩) (hx : ev sl x = some (.v u)) (hk : lk k own = some (b', .row u e size n xs)) : Quiet C sl own G (.call ⟨.builtin .len, #[x], #[T]⟩) (.int .i64 n) := by
  intro a w d t pos aft g hs hh
  have hxv := ev_ok hs hx
  simp only [SV.den] at hxv
  have hrow := hh.1 _ _ _ hk
  simp only [OO.holds] at hrow
  have g1 := (C.tyok _ _ hT).k
  simp only [TK.fits] at g1
  have : ∃ ad cap, u = .slice ad n cap := by
    rcases hrow.2 with ⟨h2, h3⟩ | ⟨g, cap', cur, hv, _⟩
    · exact ⟨none, 0, by rw [h2, h3]⟩
    · exact ⟨_, _, hv⟩
  obtain ⟨ad, cap, rfl⟩ := this
  simp [execOp, resolve, invoke, builtin, Builtin.len_, hxv, run_und w g1, goInt]

theorem sliceBound_ok {P : Program} {w : World} {k : IntKind} {n : Int} {y : Nat} {code : BoundsCode} (h0 : 0 ≤ n) (h1 : n ≤ (y : Int)) : (Instr.sliceBound (.int k n) y code).run P w = .ok n.toNat w := by
  simp only [Instr.sliceBound, asIntOf, Sem.run_bind, Sem.run_pure, Result.andThen_ok]
  rw [if_pos ⟨h0, h1⟩]; simp

def sliced (ad : Option Addr) (cap lo hi size : Nat) : Value := .slice (if cap = lo then ad else ad.map (·.add (lo * size))) (hi - lo) (cap - lo)
theorem sliced_some (b off cap lo hi size : Nat) (h : lo < hi) (h' : hi ≤ cap) : sliced (some ⟨b, off, none⟩) cap lo hi size = .slice (some ⟨b, off + lo * size, none⟩) (hi - lo) (cap - lo) := by
  simp only [sliced, show ¬ cap = lo by omega, if_false, Option.map_some, add_none]
theorem sliced_eq (ad : Option Addr) (cap lo hi size : Nat) : ∃ ad' c, sliced ad cap lo hi size = .slice ad' (hi - lo) c := ⟨_, _, rfl⟩

/-- x[lo:], x[lo:hi], x[:hi] of a slice. -/
theorem quiet_sliceLo {T e : TypeId} {x lo : Operand} {te : TI} {sz by' : Nat} {ze : List Value} {fl : List (Nat × Nat × Bool)} {ad : Option Addr} {len cap : Nat} {k : IntKind} {n : Int} {y : SV}
    (hT : C.ty T = some ⟨.slice e, sz, by', ze, fl⟩) (he : C.ty e = some te) (hx : ev sl x = some y) (hy : y.den = .slice ad len cap) (hi : ev sl lo = some (.v (.int k n))) (h0 : 0 ≤ n) (h1 : n ≤ (len : Int)) :
    Quiet C sl own G (.slice T x (some lo) none none) (sliced ad cap n.toNat len te.size) := by
  intro a w d t pos aft g hs hh
  have hxv := ev_ok hs hx
  have hiv := ev_ok hs hi
  rw [hy] at hxv
  simp only [SV.den] at hiv
  have g1 := (C.tyok _ _ hT).k
  simp only [TK.fits] at g1
  simp only [execOp, hxv, hiv, Option.map_some, Option.map_none, Instr.sliceAt, Instr.slice, Instr.sliceBounds, Sem.run_bind, run_und w g1, Result.andThen_ok, Sem.run_pure, sliceBound_ok h0 h1, run_size w (C.tyok _ _ he), sliced]
theorem quiet_sliceLoHi {T e : TypeId} {x lo hi : Operand} {te : TI} {sz by' : Nat} {ze : List Value} {fl : List (Nat × Nat × Bool)} {ad : Option Addr} {len cap : Nat} {k k' : IntKind} {n m : Int} {y : SV}
    (hT : C.ty T = some ⟨.slice e, sz, by', ze, fl⟩) (he : C.ty e = some te) (hx : ev sl x = some y) (hy : y.den = .slice ad len cap) (hi1 : ev sl lo = some (.v (.int k n))) (hi2 : ev sl hi = some (.v (.int k' m))) (h0 : 0 ≤ n) (h1 : n ≤ m) (h2 : m ≤ (cap : Int)) :
    Quiet C sl own G (.slice T x (some lo) (some hi) none) (sliced ad cap n.toNat m.toNat te.size) := by
  intro a w d t pos aft g hs hh
  have hxv := ev_ok hs hx
  have hiv := ev_ok hs hi1
  have hiv2 := ev_ok hs hi2
  rw [hy] at hxv
  simp only [SV.den] at hiv hiv2
  have g1 := (C.tyok _ _ hT).k
  simp only [TK.fits] at g1
  simp only [execOp, hxv, hiv, hiv2, Option.map_some, Option.map_none, Instr.sliceAt, Instr.slice, Instr.sliceBounds, Sem.run_bind, run_und w g1, Result.andThen_ok, Sem.run_pure, sliceBound_ok (y := cap) (Int.le_trans h0 h1) h2, sliceBound_ok (y := m.toNat) h0 (by omega), run_size w (C.tyok _ _ he), sliced]
theorem quiet_sliceHi {T e : TypeId} {x hi : Operand} {te : TI} {sz by' : Nat} {ze : List Value} {fl : List (Nat × Nat × Bool)} {ad : Option Addr} {len cap : Nat} {k' : IntKind} {m : Int} {y : SV}
    (hT : C.ty T = some ⟨.slice e, sz, by', ze, fl⟩) (he : C.ty e = some te) (hx : ev sl x = some y) (hy : y.den = .slice ad len cap) (hi2 : ev sl hi = some (.v (.int k' m))) (h0 : 0 ≤ m) (h2 : m ≤ (cap : Int)) :
    Quiet C sl own G (.slice T x none (some hi) none) (sliced ad cap 0 m.toNat te.size) := by
  intro a w d t pos aft g hs hh
  have hxv := ev_ok hs hx
  have hiv2 := ev_ok hs hi2
  rw [hy] at hxv
  simp only [SV.den] at hiv2
  have g1 := (C.tyok _ _ hT).k
  simp only [TK.fits] at g1
  simp only [execOp, hxv, hiv2, Option.map_some, Option.map_none, Instr.sliceAt, Instr.slice, Instr.sliceBounds, Sem.run_bind, run_und w g1, Result.andThen_ok, Sem.run_pure, sliceBound_ok (y := cap) h0 h2, run_size w (C.tyok _ _ he), sliced]

/-- One quiet operation. -/
theorem go_q (hd : dOk C.nt d = true) (hq : Quiet C s.sl s.own s.G op v) (h : SGo C (.ops R l :: K) ⟨putS d (rv v) s.sl, s.own, s.G, s.df⟩) : SGo C (.ops R (⟨d, op, t, pos, aft, none⟩ :: l) :: K) s := by
  intro a w hS
  have hrun := hq a w d t pos aft none hS.sl hS.mem.hold
  simp only [wpK, wpList]
  rw [if_pos (by simp [Region.wanted])]
  refine .inl ?_
  unfold Oper.wp
  rw [hrun]
  simp only [Oper.upon]
  have hS' := hS.put hd (rv v) hS.mem
  rw [rv_den] at hS'
  have := h _ _ hS'
  simpa only [wpK] using this

/-! ### Regions that draw their order: all quiet -/

theorem go_draw {id : Nat} (hm : C.P.follows .mixedOrders = true) (hB : Region.lexB .any R = true) (h : SGo C (.q (Mem C s.own s.G) R R.toList :: K) s) : SGo C (.code (.region id R true) :: K) s := by
  intro a w hS
  have := h a w hS
  simp only [wpK] at this ⊢
  exact wp_region_quiet (C := Mem C s.own s.G) hm hB hS.mem.drew this

theorem q_end (h : SGo C K s) : SGo C (.q (Mem C s.own s.G) R [] :: K) s := by
  intro a w hS
  simp only [wpK]
  exact wpQuiet_nil fun w' hw' => h a w' ⟨hS.sl, hS.nt, hS.df, hw'⟩

theorem q_q (hd : dOk C.nt d = true) (hq : Quiet C s.sl s.own s.G op v) (h : SGo C (.q (Mem C s.own s.G) R l :: K) ⟨putS d (rv v) s.sl, s.own, s.G, s.df⟩) : SGo C (.q (Mem C s.own s.G) R (⟨d, op, t, pos, aft, none⟩ :: l) :: K) s := by
  intro a w hS
  simp only [wpK, wpQuiet]
  rw [if_pos (by simp [Region.wanted])]
  refine ⟨v, fun w' hw' => ?_, ?_⟩
  · unfold Oper.quietAt
    rw [hq a w' d t pos aft none hS.sl hw'.hold]
    exact ⟨rfl, rfl⟩
  · have hS' := hS.put hd (rv v) hS.mem
    rw [rv_den] at hS'
    have := h _ _ hS'
    simpa only [wpK] using this

theorem Mem.call0 {G' : Hp} {w w' : World} (h : Mem C own G w) (hg : Grow [] w G w' G') : Mem C own G w' := by
  have h1 := h.call hg
  refine ⟨fun k b o e => ?_, h.inj, ?_⟩
  · obtain ⟨f1, f2⟩ := h1.own k b o e
    exact ⟨f1, (h.own k b o e).2⟩
  · have g := h1.grow
    exact ⟨g.os, g.tape, g.output, g.size, g.blk, fun b o e => g.has b o (hg.keep h.has e), h.grow.old⟩

theorem q_callf {f : FuncId} {args : Array Operand} {tys : Array TypeId} {vs : List SV} (hd : dOk C.nt d = true) (hf : canCall C.P f = true) (ha : evs s.sl args.toList = some vs) (hc : Pure C.P f (dens vs) s.G (fun r _ => r = v))
    (h : SGo C (.q (Mem C s.own s.G) R l :: K) ⟨putS d (rv v) s.sl, s.own, s.G, s.df⟩) : SGo C (.q (Mem C s.own s.G) R (⟨d, .call ⟨.value (.func f), args, tys⟩, t, pos, aft, none⟩ :: l) :: K) s := by
  intro a w hS
  have hargs : args.map a.eval = (dens vs).toArray := by apply Array.ext'; rw [Array.toList_map]; exact evs_ok hS.sl ha
  have hrun : ∀ w', (execOp a.eval ⟨d, .call ⟨.value (.func f), args, tys⟩, t, pos, aft, none⟩).run C.P w' = .ok (.enter f (dens vs).toArray) w' := by
    intro w'
    simp only [execOp, resolve, hargs, Act.eval, Deferred.ofValue, Sem.run_bind, Sem.run_pure, Result.andThen_ok, invoke]
    simp [callFunc_ok hf]
  simp only [wpK, wpQuiet]
  rw [if_pos (by simp [Region.wanted])]
  refine ⟨v, fun w' hw' => ?_, ?_⟩
  · unfold Oper.quietAt
    rw [hrun w']
    refine ⟨rfl, (hc w' hw'.has).mono ?_⟩
    rintro e w'' ⟨u, G', rfl, hg, rfl⟩
    exact ⟨rfl, hw'.call0 hg⟩
  · have hS' := hS.put hd (rv v) hS.mem
    rw [rv_den] at hS'
    have := h _ _ hS'
    simpa only [wpK] using this

theorem q_guard {j g : Nat} {want u : Bool} (hj : (R[j]?).bind (·.dst) = some g) (hd : dOk C.nt d = true) (hu : lk g s.sl = some (.b u))
    (h1 : u = want → SGo C (.q (Mem C s.own s.G) R (⟨d, op, t, pos, aft, none⟩ :: l) :: K) s)
    (h2 : u ≠ want → SGo C (.q (Mem C s.own s.G) R l :: K) ⟨putS d (.v undef) s.sl, s.own, s.G, s.df⟩) : SGo C (.q (Mem C s.own s.G) R (⟨d, op, t, pos, aft, some (j, want)⟩ :: l) :: K) s := by
  intro a w hS
  have hy := yielded_ok hS hj ⟨_, hu, rfl⟩
  simp only [wpK, wpQuiet, Region.wanted, hy]
  by_cases e : u = want
  · have := h1 e a w hS
    simp only [wpK, wpQuiet, Region.wanted, if_true] at this
    rw [if_pos (by simp [e])]
    obtain ⟨v, h3, h4⟩ := this
    exact ⟨v, fun w' hw' => h3 w' hw', h4⟩
  · have := h2 e _ _ (hS.put hd (.v undef) hS.mem)
    simp only [wpK] at this
    rw [if_neg (by simpa using e)]
    exact this

/-- The walk through a region that draws, as far as it goes by itself. -/
def sq (ty : TypeId → Option TI) (nt : Nat) (R : Array Oper) : Nat → List Oper → St → List Oper × St
  | 0, l, s => (l, s)
  | _ + 1, [], s => ([], s)
  | n + 1, ⟨d, op, t, pos, aft, none⟩ :: l, s => match dOk nt d, opQ ty s.sl s.own op with
    | true, some r => sq ty nt R n l ⟨putS d r s.sl, s.own, s.G, s.df⟩
    | _, _ => (⟨d, op, t, pos, aft, none⟩ :: l, s)
  | n + 1, ⟨d, op, t, pos, aft, some (j, want)⟩ :: l, s => match (R[j]?).bind (·.dst) with
    | some g => match lk g s.sl, dOk nt d with
      | some (.b u), true => match eqB u want with
        | true => sq ty nt R n (⟨d, op, t, pos, aft, none⟩ :: l) s
        | false => sq ty nt R n l ⟨putS d (.v undef) s.sl, s.own, s.G, s.df⟩
      | _, _ => (⟨d, op, t, pos, aft, some (j, want)⟩ :: l, s)
    | none => (⟨d, op, t, pos, aft, some (j, want)⟩ :: l, s)

def SQ' (C : Ctx) (M : World → Prop) (R : Array Oper) (K : List KI) (x : List Oper × St) : Prop := SGo C (.q M R x.1 :: K) x.2

theorem q_opq {x : SV} (hd : dOk C.nt d = true) (hq : opQ C.ty s.sl s.own op = some x) (h : SGo C (.q (Mem C s.own s.G) R l :: K) ⟨putS d x s.sl, s.own, s.G, s.df⟩) : SGo C (.q (Mem C s.own s.G) R (⟨d, op, t, pos, aft, none⟩ :: l) :: K) s := by
  intro a w hS
  simp only [wpK, wpQuiet]
  rw [if_pos (by simp [Region.wanted])]
  refine ⟨x.den, fun w' hw' => ?_, ?_⟩
  · unfold Oper.quietAt
    rw [quiet_op (G := s.G) hq a w' d t pos aft none hS.sl hw'.hold]
    exact ⟨rfl, rfl⟩
  · have := h _ _ (hS.put hd x hS.mem)
    simpa only [wpK] using this

theorem sq_sound (C : Ctx) (R : Array Oper) (K : List KI) : ∀ (n : Nat) (l : List Oper) (s : St), SQ' C (Mem C s.own s.G) R K (sq C.ty C.nt R n l s) → SGo C (.q (Mem C s.own s.G) R l :: K) s := by
  intro n
  induction n with
  | zero => intro l s h; exact h
  | succ n ih =>
    intro l s h
    match l with
    | [] => exact h
    | ⟨d, op, t, pos, aft, none⟩ :: l =>
      cases hd : dOk C.nt d with
      | false => simpa only [SQ', sq, hd] using h
      | true =>
        cases ho : opQ C.ty s.sl s.own op with
        | none => simpa only [SQ', sq, hd, ho] using h
        | some r => exact q_opq hd ho (ih l ⟨putS d r s.sl, s.own, s.G, s.df⟩ (by simpa only [sq, hd, ho] using h))
    | ⟨d, op, t, pos, aft, some (j, want)⟩ :: l =>
      cases hj : (R[j]?).bind (·.dst) with
      | none => simpa only [SQ', sq, hj] using h
      | some g =>
        cases hl : lk g s.sl with
        | none => simpa only [SQ', sq, hj, hl] using h
        | some z =>
          cases z with
          | b u =>
            cases hd : dOk C.nt d with
            | false => simpa only [SQ', sq, hj, hl, hd] using h
            | true =>
              refine q_guard hj hd hl (fun e => ?_) (fun e => ?_)
              · have e' : eqB u want = true := by rw [e]; exact eqB_self _
                exact ih _ _ (by simpa only [sq, hj, hl, hd, e'] using h)
              · have e' : eqB u want = false := eqB_ne e
                exact ih l ⟨putS d (.v undef) s.sl, s.own, s.G, s.df⟩ (by simpa only [sq, hj, hl, hd, e'] using h)
          | _ => simpa only [SQ', sq, hj, hl] using h

theorem runq (n : Nat) {ty : TypeId → Option TI} {nt : Nat} (h1 : C.ty = ty) (h2 : C.nt = nt) (h : SQ' C (Mem C s.own s.G) R K (sq ty nt R n l s)) : SGo C (.q (Mem C s.own s.G) R l :: K) s := by
  subst h1 h2
  exact sq_sound C R K n l s h
end
end Go.Sx
