/-
  A symbolic walk over the model's code: calls, returns, loops, loads from known memory, regions that draw their order. Generic: names no program.
-/
import Derived.Test.YtimoldnagdlbcaaSxF
namespace Go.Sx
set_option linter.unusedSimpArgs false
set_option linter.unusedVariables false
open Go.RowKit

/-- G's blocks are among G''s. -/
def Le (G G' : Hp) : Prop := ∀ b o, G b = some o → G' b = some o
theorem Le.refl (G : Hp) : Le G G := fun _ _ h => h
theorem Le.trans {A B C : Hp} (h : Le A B) (k : Le B C) : Le A C := fun b o e => k b o (h b o e)

/-- How a call ends that returns. -/
def Ret (mb : List Nat) (w : World) (G : Hp) (φ : Value → Hp → Prop) : Ending → World → Prop :=
  fun e w' => ∃ v G', e = .returned v ∧ Grow mb w G w' G' ∧ φ v G'

/-- A function that changes nothing that was there: whatever the world, if G's blocks are there. -/
def Pure (P : Program) (f : FuncId) (args : List Value) (G : Hp) (φ : Value → Hp → Prop) : Prop :=
  ∀ w, Has w G → Calls P f args.toArray w (Ret [] w G φ)

theorem Pure.mono {P : Program} {f : FuncId} {args : List Value} {G : Hp} {φ ψ : Value → Hp → Prop} (h : Pure P f args G φ) (hr : ∀ v G', Le G G' → φ v G' → ψ v G') : Pure P f args G ψ := fun w hw =>
  (h w hw).mono fun e w' ⟨v, G', he, hg, hφ⟩ => ⟨v, G', he, hg, hr v G' (fun b o e => hg.keep hw e) hφ⟩

theorem Grow.sub {mb : List Nat} {w0 w : World} {G0 G : Hp} (h : Grow [] w0 G0 w G) : Grow mb w0 G0 w G :=
  ⟨h.os, h.tape, h.output, h.size, fun k hk _ => h.blk k hk (by simp), h.has, h.old⟩

theorem Mem.call {C : Ctx} {own : List (Nat × Nat × OO)} {G G' : Hp} {w w' : World} (h : Mem C own G w) (hg : Grow [] w G w' G') : Mem C own G' w' := by
  refine ⟨fun k b o e => ?_, h.inj, h.grow.trans hg.sub⟩
  obtain ⟨f1, f2⟩ := h.own k b o e
  refine ⟨OO.holds_same f1 hg.fr fun g hb => hg.blk g (h.lt e hb) (by simp), fun g hb => ?_⟩
  obtain ⟨f3, f4, f5⟩ := f2 g hb
  exact ⟨by rw [hg.old g (h.ltm e hb)]; exact f3, f4, f5⟩

theorem Mem.has {C : Ctx} {own : List (Nat × Nat × OO)} {G : Hp} {w : World} (h : Mem C own G w) : Has w G := h.grow.has

/-- A value that a call has handed back. -/
def rv1 : Value → SV
  | .agg cs => .a (cs.toList.map .v)
  | x => .v x
def rv : Value → SV
  | .agg cs => .a (cs.toList.map .v)
  | .tuple vs => .t (vs.toList.map rv1)
  | x => .v x
theorem rv1_den (x : Value) : (rv1 x).den = x := by
  cases x <;> simp [rv1, SV.den, dens_map_v]
theorem rv_den (x : Value) : (rv x).den = x := by
  cases x <;> simp [rv, SV.den, dens_map_v]
  rename_i vs
  rw [dens_eq, List.map_map]
  have : (SV.den ∘ rv1) = id := by funext y; simp [rv1_den]
  rw [this]; simp

/-- May a function be called so? -/
def canCall (P : Program) (f : FuncId) : Bool :=
  match P.funcs[f]? with
  | some fn => fn.body.isSome && !(fn.name == "runtime.NumGoroutine")
  | none => false
theorem callFunc_ok {P : Program} {f : FuncId} (h : canCall P f = true) (args : Array Value) (w : World) : (callFunc f args).run P w = .ok (.enter f args) w := by
  unfold canCall at h
  split at h
  · rename_i fn hf
    simp only [Bool.and_eq_true, Bool.not_eq_true'] at h
    obtain ⟨h1, h2⟩ := h
    have h3 : fn.body.isNone = false := by cases hb : fn.body <;> simp_all
    have h2' : ¬ (fn.name == "runtime.NumGoroutine") = true := by simp [h2]
    simp only [callFunc, Sem.run_bind, run_program, Result.andThen_ok, hf]
    rw [if_neg h2', h3]
    simp
  · cases h

section
variable {C : Ctx} {K : List KI} {s : St}

/-! ### Running -/

theorem run0 (n : Nat) {ty : TypeId → Option TI} {nt mh : Nat} (h1 : C.ty = ty) (h2 : C.nt = nt) (h3 : C.mh = mh) (h : SGo' C (sx ty nt mh n [] K s)) : SGo C K s := by
  subst h1 h2 h3
  exact sx_sound C n 0 K s fun bs hb => by rw [List.length_eq_zero_iff.1 hb]; exact h
theorem run1 (n : Nat) {ty : TypeId → Option TI} {nt mh : Nat} (h1 : C.ty = ty) (h2 : C.nt = nt) (h3 : C.mh = mh) (h : ∀ b1, SGo' C (sx ty nt mh n [b1] K s)) : SGo C K s := by
  subst h1 h2 h3
  exact sx_sound C n 1 K s fun bs hb => by
    match bs, hb with
    | [b1], _ => exact h b1
theorem run2 (n : Nat) {ty : TypeId → Option TI} {nt mh : Nat} (h1 : C.ty = ty) (h2 : C.nt = nt) (h3 : C.mh = mh) (h : ∀ b1 b2, SGo' C (sx ty nt mh n [b1, b2] K s)) : SGo C K s := by
  subst h1 h2 h3
  exact sx_sound C n 2 K s fun bs hb => by
    match bs, hb with
    | [b1, b2], _ => exact h b1 b2
theorem run3 (n : Nat) {ty : TypeId → Option TI} {nt mh : Nat} (h1 : C.ty = ty) (h2 : C.nt = nt) (h3 : C.mh = mh) (h : ∀ b1 b2 b3, SGo' C (sx ty nt mh n [b1, b2, b3] K s)) : SGo C K s := by
  subst h1 h2 h3
  exact sx_sound C n 3 K s fun bs hb => by
    match bs, hb with
    | [b1, b2, b3], _ => exact h b1 b2 b3
theorem run4 (n : Nat) {ty : TypeId → Option TI} {nt mh : Nat} (h1 : C.ty = ty) (h2 : C.nt = nt) (h3 : C.mh = mh) (h : ∀ b1 b2 b3 b4, SGo' C (sx ty nt mh n [b1, b2, b3, b4] K s)) : SGo C K s := by
  subst h1 h2 h3
  exact sx_sound C n 4 K s fun bs hb => by
    match bs, hb with
    | [b1, b2, b3, b4], _ => exact h b1 b2 b3 b4
theorem run6 (n : Nat) {ty : TypeId → Option TI} {nt mh : Nat} (h1 : C.ty = ty) (h2 : C.nt = nt) (h3 : C.mh = mh) (h : ∀ b1 b2 b3 b4 b5 b6, SGo' C (sx ty nt mh n [b1, b2, b3, b4, b5, b6] K s)) : SGo C K s := by
  subst h1 h2 h3
  exact sx_sound C n 6 K s fun bs hb => by
    match bs, hb with
    | [b1, b2, b3, b4, b5, b6], _ => exact h b1 b2 b3 b4 b5 b6

/-! ### Knowing less, and otherwise -/

def keepK {α : Type} (ks : List Nat) (l : List (Nat × α)) : List (Nat × α) :=
  match ks with
  | [] => []
  | k :: ks => match lk k l with
    | some x => (k, x) :: keepK ks l
    | none => keepK ks l
theorem lk_keepK {α : Type} {ks : List Nat} {l : List (Nat × α)} {i : Nat} {x : α} (h : lk i (keepK ks l) = some x) : lk i l = some x := by
  induction ks with
  | nil => simp [keepK, lk] at h
  | cons k ks ih =>
    simp only [keepK] at h
    split at h
    · rename_i y hy
      simp only [lk] at h
      split at h
      · rename_i e; subst e; rw [hy]; exact h
      · exact ih h
    · exact ih h

/-- Only these slots and these blocks of the call's own are still known. -/
theorem go_keep (ks hs : List Nat) (h : SGo C K ⟨keepK ks s.sl, keepK hs s.own, s.G, s.df⟩) : SGo C K s :=
  SGo.weaken (s' := ⟨keepK ks s.sl, keepK hs s.own, s.G, s.df⟩) rfl rfl (fun _ _ e => .inl (lk_keepK e)) (fun _ _ e => lk_keepK e) h

/-- A slot whose value is seen otherwise. -/
theorem go_slot (d : Nat) (x : SV) {y : SV} (hy : lk d s.sl = some y) (he : x.den = y.den) (h : SGo C K ⟨stk d x s.sl, s.own, s.G, s.df⟩) : SGo C K s := by
  refine SGo.weaken (s' := ⟨stk d x s.sl, s.own, s.G, s.df⟩) rfl rfl (fun i z e => ?_) (fun _ _ e => e) h
  simp only [lk_stk] at e
  split at e
  · rename_i q; subst q; cases e; exact .inr ⟨y, hy, he.symm⟩
  · exact .inl e

/-- A bool is decided. -/
theorem go_split (d : Nat) {t : Bool} (hd : lk d s.sl = some (.v (.bool t))) (h1 : t = true → SGo C K ⟨stk d (.b true) s.sl, s.own, s.G, s.df⟩) (h2 : t = false → SGo C K ⟨stk d (.b false) s.sl, s.own, s.G, s.df⟩) : SGo C K s := by
  cases t with
  | true => exact go_slot d (.b true) hd rfl (h1 rfl)
  | false => exact go_slot d (.b false) hd rfl (h2 rfl)

/-- A guard is decided. -/
theorem go_gsplit {R : Array Oper} {l : List Oper} {d : Option Tmp} {op : Op} {t : TypeId} {pos : String} {aft : Array Edge} {j g : Nat} {want u : Bool} (_hj : (R[j]?).bind (·.dst) = some g) (hu : lk g s.sl = some (.v (.bool u)))
    (h1 : u = true → SGo C (.ops R (⟨d, op, t, pos, aft, some (j, want)⟩ :: l) :: K) ⟨stk g (.b true) s.sl, s.own, s.G, s.df⟩)
    (h2 : u = false → SGo C (.ops R (⟨d, op, t, pos, aft, some (j, want)⟩ :: l) :: K) ⟨stk g (.b false) s.sl, s.own, s.G, s.df⟩) : SGo C (.ops R (⟨d, op, t, pos, aft, some (j, want)⟩ :: l) :: K) s :=
  go_split g hu h1 h2
theorem go_qsplit {M : World → Prop} {R : Array Oper} {l : List Oper} {d : Option Tmp} {op : Op} {t : TypeId} {pos : String} {aft : Array Edge} {j g : Nat} {want u : Bool} (_hj : (R[j]?).bind (·.dst) = some g) (hu : lk g s.sl = some (.v (.bool u)))
    (h1 : u = true → SGo C (.q M R (⟨d, op, t, pos, aft, some (j, want)⟩ :: l) :: K) ⟨stk g (.b true) s.sl, s.own, s.G, s.df⟩)
    (h2 : u = false → SGo C (.q M R (⟨d, op, t, pos, aft, some (j, want)⟩ :: l) :: K) ⟨stk g (.b false) s.sl, s.own, s.G, s.df⟩) : SGo C (.q M R (⟨d, op, t, pos, aft, some (j, want)⟩ :: l) :: K) s :=
  go_split g hu h1 h2

/-- A block of the call's own that is no longer written goes to what is known for good. -/
theorem go_pubx (k : Nat) {b g : Nat} {o : OO} {x : Obj} (hk : lk k s.own = some (b, o)) (hm : C.mh ≤ k) (hg : o.mut b g) (hx : ∀ w, o.holds C.w0.heap.size w b → w.heap[g]? = some x)
    (h : ∀ G', Le s.G G' → G' g = some x → SGo C K ⟨s.sl, rmk k s.own, G', s.df⟩) : SGo C K s := by
  intro a w hS
  obtain ⟨f1, f0⟩ := hS.mem.own _ _ _ hk
  obtain ⟨f2, f3, f4⟩ := f0 g hg
  have hxx := hx w f1
  refine h (fun j => if j = g then some x else s.G j) (fun j y e => ?_) (by simp) a w ⟨hS.sl, hS.nt, hS.df, ⟨fun j c y e => ?_, fun j j' c c' y y' q e e' r r' => ?_, ?_⟩⟩
  · have : j ≠ g := by intro q; subst q; rw [f2] at e; cases e
    simp [this, e]
  · simp only [lk_rmk] at e
    split at e
    · cases e
    · rename_i hj
      obtain ⟨g1, g2⟩ := hS.mem.own _ _ _ e
      refine ⟨g1, fun q hq => ?_⟩
      obtain ⟨g3, g4, g5⟩ := g2 q hq
      have : q ≠ g := by intro r; subst r; exact hj (hS.mem.inj _ _ _ _ _ _ q e hk (OO.mut_blks g1 hq) (OO.mut_blks f1 hg))
      exact ⟨by simp [this, g3], g4, g5⟩
  · simp only [lk_rmk] at e e'
    split at e
    · cases e
    · split at e'
      · cases e'
      · exact hS.mem.inj _ _ _ _ _ _ _ e e' r r'
  · have hgr := hS.mem.grow
    refine ⟨hgr.os, hgr.tape, hgr.output, hgr.size, hgr.blk, fun j y e => ?_, fun j hj => ?_⟩
    · simp only at e
      split at e
      · rename_i q; subst q; cases e; exact hxx
      · exact hgr.has j y e
    · have := f3 hm
      simp only
      rw [if_neg (by omega)]
      exact hgr.old j hj

theorem go_pub (k : Nat) {b : Nat} {e : TypeId} {cells : List SV} (hk : lk k s.own = some (b, .c e cells)) (hm : C.mh ≤ k)
    (h : ∀ G', Le s.G G' → G' b = some (.cells (dens cells).toArray e) → SGo C K ⟨s.sl, rmk k s.own, G', s.df⟩) : SGo C K s :=
  go_pubx k hk hm rfl (fun _ hw => hw) h

/-! ### Calls -/

theorem go_call {R : Array Oper} {l : List Oper} {d : Option Tmp} {f : FuncId} {args : Array Operand} {tys : Array TypeId} {t : TypeId} {pos : String} {aft : Array Edge}
    {vs : List SV} {φ : Value → Hp → Prop} (hd : dOk C.nt d = true) (hf : canCall C.P f = true) (ha : evs s.sl args.toList = some vs) (hc : Pure C.P f (dens vs) s.G φ)
    (h : ∀ v G', Le s.G G' → φ v G' → SGo C (.ops R l :: K) ⟨putS d (rv v) s.sl, s.own, G', s.df⟩) : SGo C (.ops R (⟨d, .call ⟨.value (.func f), args, tys⟩, t, pos, aft, none⟩ :: l) :: K) s := by
  intro a w hS
  have hargs : args.map a.eval = (dens vs).toArray := by apply Array.ext'; rw [Array.toList_map]; exact evs_ok hS.sl ha
  have hrun : (execOp a.eval ⟨d, .call ⟨.value (.func f), args, tys⟩, t, pos, aft, none⟩).run C.P w = .ok (.enter f (dens vs).toArray) w := by
    simp only [execOp, resolve, hargs, Act.eval, Deferred.ofValue, Sem.run_bind, Sem.run_pure, Result.andThen_ok, invoke]
    simp [callFunc_ok hf]
  refine K_enter rfl hrun ((hc w hS.mem.has).mono ?_)
  rintro e w' ⟨v, G', rfl, hg, hφ⟩
  have hle : Le s.G G' := fun b o e => hg.keep hS.mem.has e
  have hS' := hS.put hd (rv v) (hS.mem.call hg)
  rw [rv_den] at hS'
  have := h v G' hle hφ _ _ hS'
  exact ⟨_, rfl, this⟩

/-- The call of a closure. -/
theorem go_callv {R : Array Oper} {l : List Oper} {d : Option Tmp} {g : Operand} {f : FuncId} {cap : List SV} {args : Array Operand} {tys : Array TypeId} {t : TypeId} {pos : String} {aft : Array Edge}
    {vs : List SV} {φ : Value → Hp → Prop} (hd : dOk C.nt d = true) (hf : canCall C.P f = true) (hg : ev s.sl g = some (.f (.func f) [] cap)) (ha : evs s.sl args.toList = some vs) (hc : Pure C.P f (dens vs ++ dens cap) s.G φ)
    (h : ∀ v G', Le s.G G' → φ v G' → SGo C (.ops R l :: K) ⟨putS d (rv v) s.sl, s.own, G', s.df⟩) : SGo C (.ops R (⟨d, .call ⟨.value g, args, tys⟩, t, pos, aft, none⟩ :: l) :: K) s := by
  intro a w hS
  have hargs : args.map a.eval = (dens vs).toArray := by apply Array.ext'; rw [Array.toList_map]; exact evs_ok hS.sl ha
  have hgv := ev_ok hS.sl hg
  simp only [SV.den] at hgv
  have hrun : (execOp a.eval ⟨d, .call ⟨.value g, args, tys⟩, t, pos, aft, none⟩).run C.P w = .ok (.enter f (dens vs ++ dens cap).toArray) w := by
    simp only [execOp, resolve, hargs, hgv, Deferred.ofValue, Sem.run_bind, Sem.run_pure, Result.andThen_ok, invoke]
    simp [callFunc_ok hf, dens]
  refine K_enter rfl hrun ((hc w hS.mem.has).mono ?_)
  rintro e w' ⟨v, G', rfl, hg', hφ⟩
  have hle : Le s.G G' := fun b o e => hg'.keep hS.mem.has e
  have hS' := hS.put hd (rv v) (hS.mem.call hg')
  rw [rv_den] at hS'
  have := h v G' hle hφ _ _ hS'
  exact ⟨_, rfl, this⟩

/-! ### Known memory -/

/-- From 'off' on the block b of G holds these values. -/
def At (G : Hp) (b off : Nat) (vs : List Value) : Prop := ∃ arr e fz, G b = some (.cells arr e fz) ∧ off + vs.length ≤ arr.size ∧ ∀ i : Nat, i < vs.length → arr[off + i]? = vs[i]?
theorem At.mono {G G' : Hp} {b off : Nat} {vs : List Value} (h : At G b off vs) (hl : Le G G') : At G' b off vs := by
  obtain ⟨arr, e, fz, h1, h2, h3⟩ := h
  exact ⟨arr, e, fz, hl _ _ h1, h2, h3⟩

/-- What a load of so many cells yields. -/
def ldV (agg : Bool) (vs : List Value) : Value := if agg then .agg vs.toArray else vs.headD undef

theorem at_load {P : Program} {w : World} {G : Hp} {b off : Nat} {vs : List Value} {T : TypeId} {ti : TI} (hT : ti.ok P T) (hw : Has w G) (h : At G b off vs) (hl : vs.length = ti.size) (h1 : ti.k.agg = false → ti.size = 1) :
    (loadVar T ⟨b, off, none⟩).run P w = .ok (ldV ti.k.agg vs) w := by
  obtain ⟨arr, e, fz, g1, g2, g3⟩ := h
  have hb := hw _ _ g1
  simp only [loadVar, Sem.run_bind, run_isAgg w hT, Result.andThen_ok]
  cases hk : ti.k.agg with
  | true =>
    simp only [if_true, Sem.run_bind, run_size w hT, Result.andThen_ok, loadCells]
    rw [run_loadCells hb off ti.size 0 #[] (by omega)]
    simp only [Result.andThen_ok, Sem.run_pure, ldV, if_true]
    congr 2
    apply Array.ext'
    apply List.ext_getElem?
    intro i
    simp only [List.nil_append, Array.toList_append, Array.toList_extract, List.extract_eq_take_drop, Nat.add_zero]
    rw [show off + ti.size - off = ti.size by omega]
    by_cases hi : i < vs.length
    · simp only [List.getElem?_take, List.getElem?_drop, show i < ti.size by omega, if_true]
      rw [← g3 i hi]; simp
    · simp only [List.getElem?_take, show ¬ i < ti.size by omega, if_false]
      rw [List.getElem?_eq_none (by omega)]
  | false =>
    have h2 := h1 hk
    match vs, hl with
    | [], hl => simp at hl; omega
    | x :: vs, hl =>
      have h3 := g3 0 (by simp)
      simp only [Nat.add_zero, List.getElem?_cons_zero] at h3
      have hc : w.cell? ⟨b, off, none⟩ = some x := by rw [cell_at hb]; exact h3
      simp [run_load, hc, ldV]

theorem go_load {R : Array Oper} {l : List Oper} {d : Option Tmp} {T : TypeId} {x : Operand} {t : TypeId} {pos : String} {aft : Array Edge} {ti : TI} {b off : Nat} {vs : List Value}
    (hd : dOk C.nt d = true) (hT : C.ty T = some ti) (hx : ev s.sl x = some (.v (.pointer (some ⟨b, off, none⟩)))) (h1 : ti.k.agg = false → ti.size = 1) (ha : At s.G b off vs) (hl : vs.length = ti.size)
    (h : SGo C (.ops R l :: K) ⟨putS d (rv (ldV ti.k.agg vs)) s.sl, s.own, s.G, s.df⟩) : SGo C (.ops R (⟨d, .load T x, t, pos, aft, none⟩ :: l) :: K) s := by
  intro a w hS
  have hxv := ev_ok hS.sl hx
  simp only [SV.den] at hxv
  have hrun : (execOp a.eval ⟨d, .load T x, t, pos, aft, none⟩).run C.P w = .ok (.value (ldV ti.k.agg vs)) w := by
    simp only [execOp, hxv, Instr.loadAt, Instr.sureAddr, Sem.run_bind, Sem.run_pure, Result.andThen_ok, at_load (C.tyok _ _ hT) hS.mem.has ha hl h1]
  refine K_value rfl hrun ?_
  have hS' := hS.put hd (rv (ldV ti.k.agg vs)) hS.mem
  rw [rv_den] at hS'
  have := h _ _ hS'
  exact this

theorem go_index {R : Array Oper} {l : List Oper} {d : Option Tmp} {T e : TypeId} {x ix : Operand} {t : TypeId} {pos : String} {aft : Array Edge} {te : TI} {sz by' : Nat} {ze : List Value} {fl : List (Nat × Nat × Bool)}
    {b off len cap : Nat} {k : IntKind} {n : Int} (hd : dOk C.nt d = true) (hT : C.ty T = some ⟨.slice e, sz, by', ze, fl⟩) (he : C.ty e = some te) (hx : ev s.sl x = some (.v (.slice (some ⟨b, off, none⟩) len cap))) (hi : ev s.sl ix = some (.v (.int k n)))
    (h0 : 0 ≤ n) (h1 : n < (len : Int)) (h : SGo C (.ops R l :: K) ⟨putS d (.v (.pointer (some ⟨b, off + n.toNat * te.size, none⟩))) s.sl, s.own, s.G, s.df⟩) : SGo C (.ops R (⟨d, .indexAddr T x ix, t, pos, aft, none⟩ :: l) :: K) s := by
  intro a w hS
  have hxv := ev_ok hS.sl hx
  have hiv := ev_ok hS.sl hi
  simp only [SV.den] at hxv hiv
  have g1 := (C.tyok _ _ hT).k
  simp only [TK.fits] at g1
  have hrun : (execOp a.eval ⟨d, .indexAddr T x ix, t, pos, aft, none⟩).run C.P w = .ok (.value (.pointer (some ⟨b, off + n.toNat * te.size, none⟩))) w := by
    simp only [execOp, hxv, hiv]
    rw [Sem.run_bind, indexAt_slice g1 (C.tyok _ _ he) h0 h1]
    simp
  refine K_value rfl hrun ?_
  have := h _ _ (hS.put hd (.v (.pointer (some ⟨b, off + n.toNat * te.size, none⟩))) hS.mem)
  simpa only [SV.den] using this

/-! ### Loops -/

theorem go_loop {x : Code} (I : Nat → St → Prop) {n : Nat} (h0 : I n s)
    (step : ∀ n s, I n s → (∀ m s', m < n → I m s' → SGo C (.loop x :: K) s') → SGo C (.code x :: .loop x :: K) s) : SGo C (.code (.loop x) :: K) s := by
  have key : ∀ n s, I n s → SGo C (.code x :: .loop x :: K) s := by
    intro n
    induction n using Nat.strongRecOn with
    | _ n ih => intro s hI; exact step n s hI fun m s' hm hI' => go_again (ih m hm s' hI')
  exact go_first (key n s h0)

/-! ### Beginning and end -/

def resOne (sl : List (Nat × SV)) (ty : TypeId → Option TI) (own : List (Nat × Nat × OO)) : ResultVar → Option SV
  | .tmp t => lk t sl
  | .cell x T => match ty T, lk x sl with
    | some ti, some (.p h b off) => match lk h own with
      | some (b', .c _ cells) => if b' = b then ldOwn ti.k.agg ti.size cells off else none
      | _ => none
    | _, _ => none
def resAll (sl : List (Nat × SV)) (ty : TypeId → Option TI) (own : List (Nat × Nat × OO)) : List ResultVar → Option (List SV)
  | [] => some []
  | r :: l => match resOne sl ty own r with
    | some x => (resAll sl ty own l).map (x :: ·)
    | none => none
def resV : List SV → SV
  | [x] => x
  | l => .t l

def resSem (tmps : Array Value) : ResultVar → Sem Value
  | .tmp t => pure (tmps.getD t undef)
  | .cell q t => do loadVar t (← asAddr (tmps.getD q undef))

theorem resOne_ok {a : Act} {w : World} (hS : Sat C s a w) {r : ResultVar} {x : SV} (h : resOne s.sl C.ty s.own r = some x) : (resSem a.tmps r).run C.P w = .ok x.den w := by
  cases r with
  | tmp t =>
    simp only [resOne] at h
    have := hS.sl t x h
    simp [resSem, this]
  | cell q T =>
    simp only [resOne] at h
    split at h
    · rename_i ti k b off hT hq
      split at h
      · rename_i b' e cells hk
        split at h
        · rename_i hb; subst hb
          have hm : w.heap[b']? = some (.cells (dens cells).toArray e) := (hS.mem.own _ _ _ hk).1
          have hv := hS.sl q _ hq
          simp only [SV.den] at hv
          simp only [resSem, Array.getD_eq_getD_getElem?, hv, Option.getD_some, asAddr, Sem.run_bind, Sem.run_pure, Result.andThen_ok, ld_ok (C.tyok _ _ hT) hm h]
        · cases h
      · cases h
    · cases h

theorem resAll_ok {a : Act} {w : World} (hS : Sat C s a w) : ∀ {l : List ResultVar} {xs : List SV}, resAll s.sl C.ty s.own l = some xs →
    (l.mapM (resSem a.tmps)).run C.P w = .ok (dens xs) w
  | [], xs, h => by simp only [resAll, Option.some.injEq] at h; subst h; simp [dens]
  | r :: l, xs, h => by
    simp only [resAll] at h
    split at h
    · rename_i x hx
      simp only [Option.map_eq_some_iff] at h
      obtain ⟨ys, h1, rfl⟩ := h
      rw [List.mapM_cons, Sem.run_bind, resOne_ok hS hx, Result.andThen_ok, Sem.run_bind, resAll_ok hS h1, Result.andThen_ok, Sem.run_pure]
      simp [dens]
    · cases h

theorem results_eq (fn : Func) (tmps : Array Value) : results fn tmps = (do let vs ← fn.results.mapM (resSem tmps); pure (if h : vs.size = 1 then vs[0] else .tuple vs)) := by
  unfold results
  congr 2

theorem results_ok {a : Act} {w : World} (hS : Sat C s a w) {fn : Func} {xs : List SV} (h : resAll s.sl C.ty s.own fn.results.toList = some xs) : (results fn a.tmps).run C.P w = .ok (resV xs).den w := by
  have h1 := resAll_ok hS h
  rw [results_eq, Array.mapM_eq_mapM_toList, Sem.run_bind, Sem.run_map, h1, Result.andThen_ok, Result.andThen_ok, Sem.run_pure]
  congr 1
  match xs with
  | [] => simp [resV, SV.den, dens]
  | [x] => simp [resV, dens]
  | x :: y :: l => simp [resV, SV.den, dens]

theorem go_ret (hnb : noBr K = true) {fn : Func} {mb : List Nat} {φ : Value → Hp → Prop} (hQ : C.Q = bodyPost C.P fn (Ret mb C.w0 C.G0 φ)) (hmb : C.mb = mb) {xs : List SV} (hr : resAll s.sl C.ty s.own fn.results.toList = some xs) (hdf : s.df = []) (h : φ (resV xs).den s.G) :
    SGo C (.code .ret :: K) s := by
  intro a w hS
  refine wpIn_ret ?_
  rw [wpK_ret _ _ _ hnb, hQ]
  refine ⟨by rw [hS.df, hdf], _, results_ok hS hr, _, _, rfl, ?_, h⟩
  have := hS.mem.grow
  rw [hmb] at this
  exact this

/-- The end of a body without a return statement. -/
theorem go_end {fn : Func} {mb : List Nat} {φ : Value → Hp → Prop} (hQ : C.Q = bodyPost C.P fn (Ret mb C.w0 C.G0 φ)) (hmb : C.mb = mb) {xs : List SV} (hr : resAll s.sl C.ty s.own fn.results.toList = some xs) (hdf : s.df = []) (h : φ (resV xs).den s.G) :
    SGo C [] s := by
  intro a w hS
  show C.Q .normal a w
  rw [hQ]
  refine ⟨by rw [hS.df, hdf], _, results_ok hS hr, _, _, rfl, ?_, h⟩
  have := hS.mem.grow
  rw [hmb] at this
  exact this

theorem slots_args (args : List Value) (n : Nat) (sv : List (Nat × SV)) (h : ∀ i x, lk i sv = some x → args[i]? = some x.den) : Slots sv { tmps := args.toArray ++ Array.replicate n undef, defers := [] } := by
  intro i x hx
  have h1 := h i x hx
  have hlt : i < args.length := by
    rcases Nat.lt_or_ge i args.length with q | q
    · exact q
    · rw [List.getElem?_eq_none q] at h1; cases h1
  simp only
  rw [Array.getElem?_append_left (by simpa using hlt)]
  simpa using h1

/-- A function's beginning. -/
theorem enter {P : Program} {f : FuncId} {fn : Func} {c : Code} {args : List Value} {G : Hp} {φ : Value → Hp → Prop} (ty : TypeId → Option TI) (tyok : ∀ T i, ty T = some i → i.ok P T) (nt : Nat)
    (hf : P.funcs[f]? = some fn) (hb : fn.body = some c) (hn : fn.ntmps = nt) (hargs : args.length ≤ nt) (sv : List (Nat × SV)) (hsv : ∀ i x, lk i sv = some x → args[i]? = some x.den)
    (h : ∀ C : Ctx, C.P = P → C.Q = bodyPost C.P fn (Ret [] C.w0 C.G0 φ) → C.nt = nt → C.ty = ty → C.mb = [] → C.mh = 0 → C.ro = none → SGo C [.code c] ⟨sv, [], G, []⟩) : Pure P f args G φ := by
  intro w hw
  refine calls_of_wp hf hb ((wpIn_wide (n := 0)).1 ?_)
  have := h ⟨P, bodyPost P fn (Ret [] w G φ), nt, ty, tyok, w, G, [], 0, none⟩ rfl rfl rfl rfl rfl rfl rfl { tmps := args.toArray ++ Array.replicate (fn.ntmps - args.toArray.size) undef, defers := [] } w
    ⟨slots_args _ _ _ hsv, by simp [hn]; omega, rfl, ⟨fun _ _ _ e => by simp [lk] at e, fun _ _ _ _ _ _ _ e => by simp [lk] at e, Grow.refl hw⟩⟩
  simp only [wpK] at this
  exact this

def enumS : Nat → List SV → List (Nat × SV)
  | _, [] => []
  | n, x :: l => (n, x) :: enumS (n + 1) l
theorem lk_enumS : ∀ (l : List SV) (n i : Nat) (x : SV), lk i (enumS n l) = some x → n ≤ i ∧ (dens l)[i - n]? = some x.den
  | [], n, i, x, h => by simp [enumS, lk] at h
  | y :: l, n, i, x, h => by
    simp only [enumS, lk] at h
    split at h
    · rename_i e; subst e; cases h; simp [dens]
    · rename_i e
      obtain ⟨h1, h2⟩ := lk_enumS l (n + 1) i x h
      refine ⟨by omega, ?_⟩
      rw [show i - n = (i - (n + 1)) + 1 by omega]
      simpa [dens] using h2

/-- A function's beginning, its arguments as the walk knows them. -/
theorem enterS {P : Program} {f : FuncId} {fn : Func} {c : Code} {G : Hp} {φ : Value → Hp → Prop} (ty : TypeId → Option TI) (tyok : ∀ T i, ty T = some i → i.ok P T) {nt : Nat}
    (hf : P.funcs[f]? = some fn) (hb : fn.body = some c) (hn : fn.ntmps = nt) (svs : List SV) (hargs : svs.length ≤ nt)
    (h : ∀ C : Ctx, C.P = P → C.Q = bodyPost C.P fn (Ret [] C.w0 C.G0 φ) → C.nt = nt → C.ty = ty → C.mb = [] → C.mh = 0 → C.ro = none → SGo C [.code c] ⟨enumS 0 svs, [], G, []⟩) : Pure P f (dens svs) G φ :=
  enter ty tyok nt hf hb hn (by rw [dens_eq]; simpa using hargs) (enumS 0 svs) (fun i x e => by have := (lk_enumS svs 0 i x e).2; simpa using this) h

end
end Go.Sx
