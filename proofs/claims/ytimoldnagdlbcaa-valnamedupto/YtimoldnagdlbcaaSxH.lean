/-
  A symbolic walk over the model's code: quiet operations by hand; slices that grow; regions that draw their order. Generic: names no program.
-/
import Derived.Test.YtimoldnagdlbcaaSxG
namespace Go.Sx
set_option linter.unusedSimpArgs false
set_option linter.unusedVariables false
open Go.RowKit

/-! ### Regions that draw, in a round or not -/

section
variable {P : Program} {ro : Option Nat} {ops : Array Oper} {md : Region.Mode} {M : World → Prop}

theorem opIn_of_quiet {o : Oper} {a : Act} {K : Act → Prop} {K' : Act → World → Prop} {Q' : Exit → Act → World → Prop} {w : World} (hw : M w) (h : ∀ a w', M w' → K a → K' a w') (hh : o.quiet P a M K) : o.wpIn (FR ro) 0 P a w K' Q' := by
  obtain ⟨v, h1, h2⟩ := hh
  have h3 := h1 w hw
  unfold Oper.quietAt at h3
  cases hr : (execOp a.eval o).run P w with
  | ok n w' =>
    rw [hr] at h3
    cases n <;> simp only [Oper.quietUpon] at h3
    case value u =>
      obtain ⟨e1, e2⟩ := h3
      subst e1 e2
      exact op_value hr (h _ _ hw h2)
    case skip =>
      obtain ⟨e1, e2⟩ := h3
      subst e1 e2
      exact op_skip hr (h _ _ hw h2)
    case enter f args =>
      obtain ⟨e1, hc⟩ := h3
      subst e1
      exact op_enter hr (hc.mono fun e w'' ⟨he, hw''⟩ => ⟨v, he, h _ _ hw'' h2⟩)
  | halt x w' => rw [hr] at h3; simp only [Oper.quietUpon] at h3

theorem wpOpIn_of_qOp {i : Nat} {a : Act} {K : Act → Prop} {K' : Act → World → Prop} {Q' : Exit → Act → World → Prop} {w : World} (hC : M w) (h : ∀ a w', M w' → K a → K' a w') (hh : qOp P ops M i K a) : wpOpIn (FR ro) 0 P ops Q' i K' a w := by
  unfold qOp at hh
  unfold wpOpIn
  split
  · rename_i ho; simp only [ho] at hh; exact h _ _ hC hh
  · rename_i o ho
    simp only [ho] at hh
    split
    · rename_i hw; simp only [hw, if_true] at hh; exact opIn_of_quiet hC h hh
    · rename_i hw; simp only [hw] at hh; exact ⟨fun _ _ => trivial, h _ _ hC hh⟩

theorem wpAnyIn_of_quiet {Q : Act → Prop} {Q' : Exit → Act → World → Prop} (hQ : ∀ a w, M w → Q a → Q' .normal a w) : ∀ (fuel : Nat) (listed : Array Bool) (a : Act) (w : World), M w →
    wpAnyQ P md ops M Q fuel listed a → wpAnyIn (FR ro) 0 P md ops Q' fuel listed a w
  | 0, _, _, _, hw, h => ⟨h.1, hQ _ _ hw h.2⟩
  | fuel + 1, _, _, _, hw, h => ⟨fun h0 => hQ _ _ hw (h.1 h0), fun i hi => wpOpIn_of_qOp hw (fun a' w' hw' => wpAnyIn_of_quiet hQ fuel _ a' w' hw') (h.2 i hi)⟩

theorem wpIn_region_quiet {id : Nat} {Q : Exit → Act → World → Prop} {a : Act} {w : World} (hm : P.follows .mixedOrders = true) (hB : Region.lexB .any ops = true) (hC : M { w with drawn := w.drawn + 1 })
    (h : wpQuiet P ops M (fun a' => ∀ w', M w' → Q .normal a' w') ops.toList a) : (Code.region id ops true).wpIn (FR ro) 0 P Q a w := by
  simp only [Region.lexB, Bool.and_eq_true] at hB
  refine wpIn_region_any hm (wpAnyIn_of_quiet (Q := fun a' => ∀ w', M w' → Q .normal a' w') (fun _ w' hw' h => h w' hw') _ _ _ _ hC ?_)
  have := wpAnyQ_lex (C := M) (md := .any) hB.1 ops.toList 0 (Array.replicate ops.size false) a (by simp) (by simpa using hB.2) h
  simpa using this

theorem yieldsIf_wpOpIn {S : World → Prop} {Q : Exit → Act → World → Prop} {i : Nat} {o : Oper} {v : Value} {a : Act} (hi : ops[i]? = some o) (hy : YieldsIf P ops S o v a)
    {K : Act → World → Prop} {w : World} (hS : S w) (h : K (a.put o.dst v) w) : wpOpIn (FR ro) 0 P ops Q i K a w := by
  unfold wpOpIn
  simp only [hi]
  rcases hy with ⟨hw, hv⟩ | ⟨hw, rfl⟩
  · simp only [hw, if_true]; exact op_value (hv w hS) h
  · simp only [hw, Bool.false_eq_true, if_false]; exact ⟨fun _ _ => trivial, h⟩

theorem semAt_put (o : Oper) (hs : ∀ cs b, o.op ≠ .select cs b) (a : Act) (dst : Option Tmp) (v : Value) (h : ∀ d, dst = some d → d ∉ o.looksAt ops) : o.semAt ro (a.put dst v).eval = o.semAt ro a.eval := by
  have e := execOp_put (ops := ops) o hs a dst v h
  cases ro with
  | none => exact e
  | some l =>
    by_cases hd : ∃ c, o.op = .defer c
    · obtain ⟨c, hc⟩ := hd
      have := resolve_congr (ρ := (a.put dst v).eval) (ρ' := a.eval) c o.type (fun x hx => Act.eval_put fun d hd hxd => h d hd (by
        subst hxd
        exact List.mem_append_left _ (List.mem_filterMap.2 ⟨.tmp d, by rw [hc]; simpa [Op.operands] using hx, rfl⟩)))
      simp only [Oper.semAt, hc, this]
    · have hn : ∀ c, o.op ≠ .defer c := fun c hc => hd ⟨c, hc⟩
      rw [Oper.semAt_eq _ _ _ hn, Oper.semAt_eq _ _ _ hn, e]

theorem wpOpIn_putIf {S : World → Prop} {Q : Exit → Act → World → Prop} {j : Nat} {oi oj : Oper} {v : Value} (hj : ops[j]? = some oj) (hap : oi.apart ops oj = true)
    (hsi : ∀ cs b, oi.op ≠ .select cs b) (hsj : ∀ cs b, oj.op ≠ .select cs b)
    (hQ : ∀ c a w, Q (.panic c) (a.put oi.dst v) w → Q (.panic c) a w) {K : Act → World → Prop} {a : Act} {w : World}
    (hy : YieldsIf P ops S oi v a) (h : wpOpIn (FR ro) 0 P ops Q j K (a.put oi.dst v) w) :
    wpOpIn (FR ro) 0 P ops Q j (fun a' w' => YieldsIf P ops S oi v a' ∧ K (a'.put oi.dst v) w') a w := by
  obtain ⟨h1, h2, h3⟩ := Oper.apart_spec hap
  have keep : ∀ (a : Act), YieldsIf P ops S oi v a → ∀ u, YieldsIf P ops S oi v (a.put oj.dst u) := fun a hy u =>
    hy.of_same (execOp_put oi hsi a oj.dst u h3) (wanted_put oi a oj.dst u h3)
  have keepD : ∀ d, YieldsIf P ops S oi v { a with defers := d :: a.defers } := fun d => hy.of_same rfl rfl
  unfold wpOpIn at *
  simp only [hj] at *
  rw [wanted_put oj a oi.dst v h1] at h
  split
  · rename_i hw
    simp only [hw, if_true] at h
    refine ⟨fun _ _ => trivial, ?_⟩
    have h := h.2
    rw [semAt_put oj hsj a oi.dst v h1] at h
    generalize (oj.semAt (FR ro).round a.eval).run P w = r at *
    cases r with
    | ok n w' =>
      cases n <;> simp only [Oper.uponIn] at h ⊢
      case value u => exact ⟨keep a hy u, by rw [← Act.put_comm a v u h2]; exact h⟩
      case skip => exact ⟨keep a hy _, by rw [← Act.put_comm a v undef h2]; exact h⟩
      case defer d =>
        refine ⟨keep _ (keepD d) _, ?_⟩
        rw [← Act.put_comm _ v undef h2, ← Act.put_defers]
        exact h
      case enter f args =>
        refine ⟨h.1, h.2.mono fun e w'' he => ?_⟩
        cases e with
        | returned u => exact ⟨keep a hy u, by rw [← Act.put_comm a v u h2]; exact he⟩
        | panicked c => exact hQ _ _ _ he
        | outgrown => exact he
      case row row args => exact ⟨h.1, h.2.mono fun u w'' he => ⟨keep a hy u, by rw [← Act.put_comm a v u h2]; exact he⟩⟩
      case round l f tmps assign body =>
        refine ⟨h.1, h.2.mono fun e w'' he => ?_⟩
        cases e with
        | returned u => exact ⟨keep a hy u, by rw [← Act.put_comm a v u h2]; exact he⟩
        | panicked c => exact hQ _ _ _ he
        | outgrown => exact he
    | halt x w' =>
      cases x <;> simp only [Oper.uponIn] at h ⊢
      case panic u => exact hQ _ _ _ h
  · rename_i hw
    simp only [hw] at h
    exact ⟨fun _ _ => trivial, keep a hy _, by rw [← Act.put_comm a v undef h2]; exact h.2⟩

theorem wpAnyHI_first {S : World → Prop} {Q : Exit → Act → World → Prop} {i : Nat} {oi : Oper} {v : Value} (hi : ops[i]? = some oi) (hsel : ∀ (j : Nat) (o : Oper) cs b, ops[j]? = some o → o.op ≠ .select cs b)
    (hQ : ∀ c a w, Q (.panic c) (a.put oi.dst v) w → Q (.panic c) a w) :
    ∀ (fuel : Nat) (listed : Array Bool) (a : Act) (w : World),
      (∀ j oj, ops[j]? = some oj → j ≠ i → listed.getD j true = false → (∀ e ∈ oj.after, Region.binds md e = true → e.on ≠ i) → oi.apart ops oj = true) →
      i ∈ Region.ready md ops listed → YieldsIf P ops S oi v a → S w →
      wpAnyHI P ro md ops Q S fuel (listed.setIfInBounds i true) (a.put oi.dst v) w → wpAnyHI P ro md ops Q S (fuel + 1) listed a w := by
  intro fuel
  induction fuel with
  | zero =>
    intro listed a w _ hr hy hS H
    refine ⟨fun h => (by rw [h] at hr; cases hr), fun j hj => ?_⟩
    by_cases hji : j = i
    · subst hji; exact yieldsIf_wpOpIn hi hy hS ⟨hS, H⟩
    · have := ready_mono hj hji
      rw [H.1] at this
      cases this
  | succ fuel ih =>
    intro listed a w hfree hr hy hS H
    refine ⟨fun h => (by rw [h] at hr; cases hr), fun j hj => ?_⟩
    by_cases hji : j = i
    · subst hji; exact yieldsIf_wpOpIn hi hy hS ⟨hS, H⟩
    · have h1 := H.2 j (ready_mono hj hji)
      obtain ⟨hjun, oj, hoj, hall⟩ := mem_ready.1 hj
      have hnot : ∀ e ∈ oj.after, Region.binds md e = true → e.on ≠ i := fun e he hb heq => by
        have h1 := hall e he hb
        have h0 := (mem_ready.1 hr).1
        rw [heq] at h1
        rcases Nat.lt_or_ge i listed.size with h' | h'
        · simp [h'] at h0 h1; rw [h0] at h1; cases h1
        · simp [Array.getElem?_eq_none h'] at h1
      have h2 := wpOpIn_putIf hoj (hfree j oj hoj hji hjun hnot) (fun cs b => hsel i oi cs b hi) (fun cs b => hsel j oj cs b hoj) hQ hy h1
      have hfree' : ∀ k ok, ops[k]? = some ok → k ≠ i → (listed.setIfInBounds j true).getD k true = false →
          (∀ e ∈ ok.after, Region.binds md e = true → e.on ≠ i) → oi.apart ops ok = true := fun k ok hk hki hun hno => by
        refine hfree k ok hk hki ?_ hno
        by_cases hjk : j = k
        · subst hjk; exact hjun
        · rw [getD_set_ne true hjk] at hun; exact hun
      refine wpOpIn_mono (fun a' w' h3 => ⟨h3.2.1, ih (listed.setIfInBounds j true) a' w' hfree' (ready_mono hr (Ne.symm hji)) h3.1 h3.2.1 ?_⟩) h2
      rw [Array.setIfInBounds_comm _ _ hji]
      exact h3.2.2

theorem wpAnyHI_take {S : World → Prop} {Q : Exit → Act → World → Prop} {i : Nat} {oi : Oper} {v : Value} {fuel : Nat} {listed : Array Bool} {a : Act} {w : World} (hi : ops[i]? = some oi)
    (hs : Region.noSelect ops = true) (hf : Region.free md ops listed i = true) (hr : (Region.ready md ops listed).contains i = true)
    (hQ : ∀ c a w, Q (.panic c) (a.put oi.dst v) w → Q (.panic c) a w) (hy : YieldsIf P ops S oi v a) (hS : S w)
    (h : wpAnyHI P ro md ops Q S fuel (listed.setIfInBounds i true) (a.put oi.dst v) w) : wpAnyHI P ro md ops Q S (fuel + 1) listed a w :=
  wpAnyHI_first hi (Region.noSelect_spec hs) hQ fuel listed a w (Region.free_spec hi hf) (by simpa using hr) hy hS h
theorem wpAnyHI_all {S : World → Prop} {Q : Exit → Act → World → Prop} {rs : List Nat} {fuel : Nat} {listed : Array Bool} {a : Act} {w : World} (hr : Region.ready md ops listed = rs) (hne : rs ≠ [])
    (h : ∀ i ∈ rs, wpOpIn (FR ro) 0 P ops Q i (fun a' w' => S w' ∧ wpAnyHI P ro md ops Q S fuel (listed.setIfInBounds i true) a' w') a w) : wpAnyHI P ro md ops Q S (fuel + 1) listed a w :=
  ⟨fun h0 => absurd (hr ▸ h0) hne, hr ▸ h⟩
theorem wpAnyHI_done {S : World → Prop} {Q : Exit → Act → World → Prop} {listed : Array Bool} {a : Act} {w : World} (hr : Region.ready md ops listed = []) (h : Q .normal a w) :
    ∀ fuel, wpAnyHI P ro md ops Q S fuel listed a w
  | 0 => ⟨hr, h⟩
  | _ + 1 => ⟨fun _ => h, by rw [hr]; simp⟩
theorem wpAnyIn_of_held {S : World → Prop} {Q : Exit → Act → World → Prop} : ∀ (fuel : Nat) (listed : Array Bool) (a : Act) (w : World), wpAnyHI P ro md ops Q S fuel listed a w → wpAnyIn (FR ro) 0 P md ops Q fuel listed a w
  | 0, _, _, _, h => h
  | fuel + 1, _, _, _, h => ⟨h.1, fun i hi => wpOpIn_mono (fun a' w' h' => wpAnyIn_of_held fuel _ a' w' h'.2) (h.2 i hi)⟩
theorem wpIn_region_held {S : World → Prop} {Q : Exit → Act → World → Prop} {id : Nat} {a : Act} {w : World} (hm : P.follows .mixedOrders = true)
    (h : wpAnyHI P ro .any ops Q S ops.size (Array.replicate ops.size false) a { w with drawn := w.drawn + 1 }) : (Code.region id ops true).wpIn (FR ro) 0 P Q a w :=
  wpIn_region_any hm (wpAnyIn_of_held _ _ _ _ h)
end

/-! ### Quiet operations -/

def Hold (C : Ctx) (own : List (Nat × Nat × OO)) (G : Hp) (w : World) : Prop := (∀ h b o, lk h own = some (b, o) → o.holds C.w0.heap.size w b) ∧ Has w G
theorem Mem.hold {C : Ctx} {own : List (Nat × Nat × OO)} {G : Hp} {w : World} (h : Mem C own G w) : Hold C own G w := ⟨fun k b o e => (h.own k b o e).1, h.has⟩
theorem Hold.owns {C : Ctx} {own : List (Nat × Nat × OO)} {G : Hp} {w : World} (h : Hold C own G w) : Own own w := fun k b e cells q => h.1 k b _ q

/-- Where the slots and the memory are as told the operation yields v and leaves the world alone. -/
def Quiet (C : Ctx) (sl : List (Nat × SV)) (own : List (Nat × Nat × OO)) (G : Hp) (op : Op) (v : Value) : Prop :=
  ∀ (a : Act) (w : World) (d : Option Tmp) (t : TypeId) (pos : String) (aft : Array Edge) (g : Option (Nat × Bool)), Slots sl a → Hold C own G w → (execOp a.eval ⟨d, op, t, pos, aft, g⟩).run C.P w = .ok (.value v) w

section
variable {C : Ctx} {K : List KI} {s : St} {sl : List (Nat × SV)} {own : List (Nat × Nat × OO)} {G : Hp} {R : Array Oper} {l : List Oper} {d : Option Tmp} {t : TypeId} {pos : String} {aft : Array Edge} {op : Op} {v : Value}

theorem Quiet.cast {v' : Value} (h : Quiet C sl own G op v) (e : v = v') : Quiet C sl own G op v' := e ▸ h
theorem quiet_op {x : SV} (h : opQ C.ty sl own op = some x) : Quiet C sl own G op x.den := fun _ _ _ _ _ _ _ hs hh => q_all C.tyok hs hh.owns h

theorem quiet_load {T : TypeId} {x : Operand} {ti : TI} {b off : Nat} {vs : List Value}
    (hT : C.ty T = some ti) (hx : ev sl x = some (.v (.pointer (some ⟨b, off, none⟩)))) (h1 : ti.k.agg = false → ti.size = 1) (ha : At G b off vs) (hl : vs.length = ti.size) : Quiet C sl own G (.load T x) (ldV ti.k.agg vs) := by
  intro a w d t pos aft g hs hh
  have hxv := ev_ok hs hx
  simp only [SV.den] at hxv
  simp only [execOp, hxv, Instr.loadAt, Instr.sureAddr, Sem.run_bind, Sem.run_pure, Result.andThen_ok, at_load (C.tyok _ _ hT) hh.2 ha hl h1]

theorem row_load {P : Program} {w : World} {base : Nat} {e : TypeId} {size n cap b : Nat} {xs : List Value} (h : w.ownsRow base e size (.slice (some ⟨b, 0, none⟩) n cap) n xs) : At (fun j => w.heap[j]?) b 0 xs := by
  obtain ⟨h1, h2⟩ := h
  rcases h2 with ⟨h2, _⟩ | ⟨g, cap', cur, hv, hb, hg, hn, hm, hs, ht⟩
  · cases h2
  · cases hv
    refine ⟨cur, e, (0, 0), hg, ?_, fun i hi => ?_⟩
    · rw [← ht]; simp; omega
    · have := congrArg (fun l => l[i]?) ht
      simp only [List.getElem?_take] at this
      rw [if_pos (by rw [← h1]; exact hi)] at this
      simpa using this

theorem At.sub {G : Hp} {b off : Nat} {vs : List Value} (h : At G b off vs) (m n : Nat) (hm : m + n ≤ vs.length) : At G b (off + m) ((vs.drop m).take n) := by
  obtain ⟨arr, e, fz, h1, h2, h3⟩ := h
  refine ⟨arr, e, fz, h1, by simp; omega, fun i hi => ?_⟩
  have hi' : i < n := by simp at hi; omega
  rw [Nat.add_assoc, h3 (m + i) (by omega)]
  simp [List.getElem?_take, hi']
theorem At.drop {G : Hp} {b off : Nat} {vs : List Value} (h : At G b off vs) (m : Nat) (hm : m ≤ vs.length) : At G b (off + m) (vs.drop m) := by
  have := h.sub m (vs.length - m) (by omega)
  rwa [List.take_of_length_le (by simp)] at this

/-- A load out of a growing slice of the call's own. -/
theorem quiet_loadR {T : TypeId} {x : Operand} {ti : TI} {k b b' off n cap size : Nat} {e : TypeId} {xs : List Value}
    (hT : C.ty T = some ti) (hx : ev sl x = some (.v (.pointer (some ⟨b, off, none⟩)))) (h1 : ti.k.agg = false → ti.size = 1) (hk : lk k own = some (b', .row (.slice (some ⟨b, 0, none⟩) n cap) e size n xs)) (hl : off + ti.size ≤ xs.length) :
    Quiet C sl own G (.load T x) (ldV ti.k.agg ((xs.drop off).take ti.size)) := by
  intro a w d t pos aft g hs hh
  have hxv := ev_ok hs hx
  simp only [SV.den] at hxv
  have hrow := hh.1 _ _ _ hk
  simp only [OO.holds] at hrow
  have hat := (row_load (P := C.P) hrow).sub off ti.size hl
  rw [Nat.zero_add] at hat
  simp only [execOp, hxv, Instr.loadAt, Instr.sureAddr, Sem.run_bind, Sem.run_pure, Result.andThen_ok, at_load (C.tyok _ _ hT) (w := w) (G := fun j => w.heap[j]?) (fun _ _ e => e) hat (by simp; omega) h1]

theorem quiet_index {T e : TypeId} {x ix : Operand} {te : TI} {sz by' : Nat} {ze : List Value} {fl : List (Nat × Nat × Bool)} {b off len cap : Nat} {k : IntKind} {n : Int} {y : SV}
    (hT : C.ty T = some ⟨.slice e, sz, by', ze, fl⟩) (he : C.ty e = some te) (hx : ev sl x = some y) (hy : y.den = .slice (some ⟨b, off, none⟩) len cap) (hi : ev sl ix = some (.v (.int k n))) (h0 : 0 ≤ n) (h1 : n < (len : Int)) :
    Quiet C sl own G (.indexAddr T x ix) (.pointer (some ⟨b, off + n.toNat * te.size, none⟩)) := by
  intro a w d t pos aft g hs hh
  have hxv := ev_ok hs hx
  have hiv := ev_ok hs hi
  rw [hy] at hxv
  simp only [SV.den] at hiv
  have g1 := (C.tyok _ _ hT).k
  simp only [TK.fits] at g1
  simp only [execOp, hxv, hiv]
  rw [Sem.run_bind, indexAt_slice g1 (C.tyok _ _ he) h0 h1]
  simp

/-- The length of a growing slice. -/
theorem quiet_lenR {T e' e : TypeId} {x : Operand} {sz by' : Nat} {ze : List Value} {fl : List (Nat × Nat × Bool)} {k b' n size : Nat} {u : Value} {xs : List Value}
    (hT : C.ty T = some ⟨.slice e', sz, by', ze, fl⟩) (hx : ev sl x = some (.v u)) (hk : lk k own = some (b', .row u e size n xs)) : Quiet C sl own G (.call ⟨.builtin .len, #[x], #[T]⟩) (.int .i64 n) := by
  intro a w d t pos aft g hs hh
  have hxv := ev_ok hs hx
  simp only [SV.den] at hxv
  have hrow := hh.1 _ _ _ hk
  simp only [OO.holds] at hrow
  have g1 := (C.tyok _ _ hT).k
  simp only [TK.fits] at g1
  have : ∃ ad cap, u = .slice ad n cap := by
    rcases hrow.2 with ⟨h2, h3⟩ | ⟨g, cap', cur, hv, _⟩
    · exact ⟨none, 0, by rw [h2, h3]⟩
    · exact ⟨_, _, hv⟩
  obtain ⟨ad, cap, rfl⟩ := this
  simp [execOp, resolve, invoke, builtin, Builtin.len_, hxv, run_und w g1, goInt]

theorem sliceBound_ok {P : Program} {w : World} {k : IntKind} {n : Int} {y : Nat} {code : BoundsCode} (h0 : 0 ≤ n) (h1 : n ≤ (y : Int)) : (Instr.sliceBound (.int k n) y code).run P w = .ok n.toNat w := by
  simp only [Instr.sliceBound, asIntOf, Sem.run_bind, Sem.run_pure, Result.andThen_ok]
  rw [if_pos ⟨h0, h1⟩]; simp

def sliced (ad : Option Addr) (cap lo hi size : Nat) : Value := .slice (if cap = lo then ad else ad.map (·.add (lo * size))) (hi - lo) (cap - lo)
theorem sliced_some (b off cap lo hi size : Nat) (h : lo < hi) (h' : hi ≤ cap) : sliced (some ⟨b, off, none⟩) cap lo hi size = .slice (some ⟨b, off + lo * size, none⟩) (hi - lo) (cap - lo) := by
  simp only [sliced, show ¬ cap = lo by omega, if_false, Option.map_some, add_none]
theorem sliced_eq (ad : Option Addr) (cap lo hi size : Nat) : ∃ ad' c, sliced ad cap lo hi size = .slice ad' (hi - lo) c := ⟨_, _, rfl⟩

/-- x[lo:], x[lo:hi], x[:hi] of a slice. -/
theorem quiet_sliceLo {T e : TypeId} {x lo : Operand} {te : TI} {sz by' : Nat} {ze : List Value} {fl : List (Nat × Nat × Bool)} {ad : Option Addr} {len cap : Nat} {k : IntKind} {n : Int} {y : SV}
    (hT : C.ty T = some ⟨.slice e, sz, by', ze, fl⟩) (he : C.ty e = some te) (hx : ev sl x = some y) (hy : y.den = .slice ad len cap) (hi : ev sl lo = some (.v (.int k n))) (h0 : 0 ≤ n) (h1 : n ≤ (len : Int)) :
    Quiet C sl own G (.slice T x (some lo) none none) (sliced ad cap n.toNat len te.size) := by
  intro a w d t pos aft g hs hh
  have hxv := ev_ok hs hx
  have hiv := ev_ok hs hi
  rw [hy] at hxv
  simp only [SV.den] at hiv
  have g1 := (C.tyok _ _ hT).k
  simp only [TK.fits] at g1
  simp only [execOp, hxv, hiv, Option.map_some, Option.map_none, Instr.sliceAt, Instr.slice, Instr.sliceBounds, Sem.run_bind, run_und w g1, Result.andThen_ok, Sem.run_pure, sliceBound_ok h0 h1, run_size w (C.tyok _ _ he), sliced]
theorem quiet_sliceLoHi {T e : TypeId} {x lo hi : Operand} {te : TI} {sz by' : Nat} {ze : List Value} {fl : List (Nat × Nat × Bool)} {ad : Option Addr} {len cap : Nat} {k k' : IntKind} {n m : Int} {y : SV}
    (hT : C.ty T = some ⟨.slice e, sz, by', ze, fl⟩) (he : C.ty e = some te) (hx : ev sl x = some y) (hy : y.den = .slice ad len cap) (hi1 : ev sl lo = some (.v (.int k n))) (hi2 : ev sl hi = some (.v (.int k' m))) (h0 : 0 ≤ n) (h1 : n ≤ m) (h2 : m ≤ (cap : Int)) :
    Quiet C sl own G (.slice T x (some lo) (some hi) none) (sliced ad cap n.toNat m.toNat te.size) := by
  intro a w d t pos aft g hs hh
  have hxv := ev_ok hs hx
  have hiv := ev_ok hs hi1
  have hiv2 := ev_ok hs hi2
  rw [hy] at hxv
  simp only [SV.den] at hiv hiv2
  have g1 := (C.tyok _ _ hT).k
  simp only [TK.fits] at g1
  simp only [execOp, hxv, hiv, hiv2, Option.map_some, Option.map_none, Instr.sliceAt, Instr.slice, Instr.sliceBounds, Sem.run_bind, run_und w g1, Result.andThen_ok, Sem.run_pure, sliceBound_ok (y := cap) (Int.le_trans h0 h1) h2, sliceBound_ok (y := m.toNat) h0 (by omega), run_size w (C.tyok _ _ he), sliced]
theorem quiet_sliceHi {T e : TypeId} {x hi : Operand} {te : TI} {sz by' : Nat} {ze : List Value} {fl : List (Nat × Nat × Bool)} {ad : Option Addr} {len cap : Nat} {k' : IntKind} {m : Int} {y : SV}
    (hT : C.ty T = some ⟨.slice e, sz, by', ze, fl⟩) (he : C.ty e = some te) (hx : ev sl x = some y) (hy : y.den = .slice ad len cap) (hi2 : ev sl hi = some (.v (.int k' m))) (h0 : 0 ≤ m) (h2 : m ≤ (cap : Int)) :
    Quiet C sl own G (.slice T x none (some hi) none) (sliced ad cap 0 m.toNat te.size) := by
  intro a w d t pos aft g hs hh
  have hxv := ev_ok hs hx
  have hiv2 := ev_ok hs hi2
  rw [hy] at hxv
  simp only [SV.den] at hiv2
  have g1 := (C.tyok _ _ hT).k
  simp only [TK.fits] at g1
  simp only [execOp, hxv, hiv2, Option.map_some, Option.map_none, Instr.sliceAt, Instr.slice, Instr.sliceBounds, Sem.run_bind, run_und w g1, Result.andThen_ok, Sem.run_pure, sliceBound_ok (y := cap) h0 h2, run_size w (C.tyok _ _ he), sliced]

/-- One quiet operation. -/
theorem go_q (hd : dOk C.nt d = true) (hq : Quiet C s.sl s.own s.G op v) (h : SGo C (.ops R l :: K) ⟨putS d (rv v) s.sl, s.own, s.G, s.df⟩) : SGo C (.ops R (⟨d, op, t, pos, aft, none⟩ :: l) :: K) s := by
  intro a w hS
  have hrun := hq a w d t pos aft none hS.sl hS.mem.hold
  refine K_value rfl hrun ?_
  have hS' := hS.put hd (rv v) hS.mem
  rw [rv_den] at hS'
  have := h _ _ hS'
  exact this

/-! ### Regions that draw their order: all quiet -/

theorem go_draw {id : Nat} (hm : C.P.follows .mixedOrders = true) (hB : Region.lexB .any R = true) (h : SGo C (.q (Mem C s.own s.G) R R.toList :: K) s) : SGo C (.code (.region id R true) :: K) s := by
  intro a w hS
  have := h a w hS
  simp only [wpK] at this ⊢
  exact wpIn_region_quiet (M := Mem C s.own s.G) hm hB hS.mem.drew this

theorem q_end (h : SGo C K s) : SGo C (.q (Mem C s.own s.G) R [] :: K) s := by
  intro a w hS
  simp only [wpK]
  exact wpQuiet_nil fun w' hw' => h a w' ⟨hS.sl, hS.nt, hS.df, hw'⟩

theorem q_q (hd : dOk C.nt d = true) (hq : Quiet C s.sl s.own s.G op v) (h : SGo C (.q (Mem C s.own s.G) R l :: K) ⟨putS d (rv v) s.sl, s.own, s.G, s.df⟩) : SGo C (.q (Mem C s.own s.G) R (⟨d, op, t, pos, aft, none⟩ :: l) :: K) s := by
  intro a w hS
  simp only [wpK, wpQuiet]
  rw [if_pos (by simp [Region.wanted])]
  refine ⟨v, fun w' hw' => ?_, ?_⟩
  · unfold Oper.quietAt
    rw [hq a w' d t pos aft none hS.sl hw'.hold]
    exact ⟨rfl, rfl⟩
  · have hS' := hS.put hd (rv v) hS.mem
    rw [rv_den] at hS'
    have := h _ _ hS'
    simpa only [wpK] using this

theorem Mem.call0 {G' : Hp} {w w' : World} (h : Mem C own G w) (hg : Grow [] w G w' G') : Mem C own G w' := by
  have h1 := h.call hg
  refine ⟨fun k b o e => ?_, h.inj, ?_⟩
  · obtain ⟨f1, f2⟩ := h1.own k b o e
    exact ⟨f1, (h.own k b o e).2⟩
  · have g := h1.grow
    exact ⟨g.os, g.tape, g.output, g.size, g.blk, fun b o e => g.has b o (hg.keep h.has e), h.grow.old⟩

theorem q_callf {f : FuncId} {args : Array Operand} {tys : Array TypeId} {vs : List SV} (hd : dOk C.nt d = true) (hf : canCall C.P f = true) (ha : evs s.sl args.toList = some vs) (hc : Pure C.P f (dens vs) s.G (fun r _ => r = v))
    (h : SGo C (.q (Mem C s.own s.G) R l :: K) ⟨putS d (rv v) s.sl, s.own, s.G, s.df⟩) : SGo C (.q (Mem C s.own s.G) R (⟨d, .call ⟨.value (.func f), args, tys⟩, t, pos, aft, none⟩ :: l) :: K) s := by
  intro a w hS
  have hargs : args.map a.eval = (dens vs).toArray := by apply Array.ext'; rw [Array.toList_map]; exact evs_ok hS.sl ha
  have hrun : ∀ w', (execOp a.eval ⟨d, .call ⟨.value (.func f), args, tys⟩, t, pos, aft, none⟩).run C.P w' = .ok (.enter f (dens vs).toArray) w' := by
    intro w'
    simp only [execOp, resolve, hargs, Act.eval, Deferred.ofValue, Sem.run_bind, Sem.run_pure, Result.andThen_ok, invoke]
    simp [callFunc_ok hf]
  simp only [wpK, wpQuiet]
  rw [if_pos (by simp [Region.wanted])]
  refine ⟨v, fun w' hw' => ?_, ?_⟩
  · unfold Oper.quietAt
    rw [hrun w']
    refine ⟨rfl, (hc w' hw'.has).mono ?_⟩
    rintro e w'' ⟨u, G', rfl, hg, rfl⟩
    exact ⟨rfl, hw'.call0 hg⟩
  · have hS' := hS.put hd (rv v) hS.mem
    rw [rv_den] at hS'
    have := h _ _ hS'
    simpa only [wpK] using this

theorem q_guard {j g : Nat} {want u : Bool} (hj : (R[j]?).bind (·.dst) = some g) (hd : dOk C.nt d = true) (hu : lk g s.sl = some (.b u))
    (h1 : u = want → SGo C (.q (Mem C s.own s.G) R (⟨d, op, t, pos, aft, none⟩ :: l) :: K) s)
    (h2 : u ≠ want → SGo C (.q (Mem C s.own s.G) R l :: K) ⟨putS d (.v undef) s.sl, s.own, s.G, s.df⟩) : SGo C (.q (Mem C s.own s.G) R (⟨d, op, t, pos, aft, some (j, want)⟩ :: l) :: K) s := by
  intro a w hS
  have hy := yielded_ok hS hj ⟨_, hu, rfl⟩
  simp only [wpK, wpQuiet, Region.wanted, hy]
  by_cases e : u = want
  · have := h1 e a w hS
    simp only [wpK, wpQuiet, Region.wanted, if_true] at this
    rw [if_pos (by simp [e])]
    obtain ⟨v, h3, h4⟩ := this
    exact ⟨v, fun w' hw' => h3 w' hw', h4⟩
  · have := h2 e _ _ (hS.put hd (.v undef) hS.mem)
    simp only [wpK] at this
    rw [if_neg (by simpa using e)]
    exact this

/-- The walk through a region that draws, as far as it goes by itself. -/
def sq (ty : TypeId → Option TI) (nt : Nat) (R : Array Oper) : Nat → List Oper → St → List Oper × St
  | 0, l, s => (l, s)
  | _ + 1, [], s => ([], s)
  | n + 1, ⟨d, op, t, pos, aft, none⟩ :: l, s => match dOk nt d, opQ ty s.sl s.own op with
    | true, some r => sq ty nt R n l ⟨putS d r s.sl, s.own, s.G, s.df⟩
    | _, _ => (⟨d, op, t, pos, aft, none⟩ :: l, s)
  | n + 1, ⟨d, op, t, pos, aft, some (j, want)⟩ :: l, s => match (R[j]?).bind (·.dst) with
    | some g => match lk g s.sl, dOk nt d with
      | some (.b u), true => match eqB u want with
        | true => sq ty nt R n (⟨d, op, t, pos, aft, none⟩ :: l) s
        | false => sq ty nt R n l ⟨putS d (.v undef) s.sl, s.own, s.G, s.df⟩
      | _, _ => (⟨d, op, t, pos, aft, some (j, want)⟩ :: l, s)
    | none => (⟨d, op, t, pos, aft, some (j, want)⟩ :: l, s)

def SQ' (C : Ctx) (M : World → Prop) (R : Array Oper) (K : List KI) (x : List Oper × St) : Prop := SGo C (.q M R x.1 :: K) x.2

theorem q_opq {x : SV} (hd : dOk C.nt d = true) (hq : opQ C.ty s.sl s.own op = some x) (h : SGo C (.q (Mem C s.own s.G) R l :: K) ⟨putS d x s.sl, s.own, s.G, s.df⟩) : SGo C (.q (Mem C s.own s.G) R (⟨d, op, t, pos, aft, none⟩ :: l) :: K) s := by
  intro a w hS
  simp only [wpK, wpQuiet]
  rw [if_pos (by simp [Region.wanted])]
  refine ⟨x.den, fun w' hw' => ?_, ?_⟩
  · unfold Oper.quietAt
    rw [quiet_op (G := s.G) hq a w' d t pos aft none hS.sl hw'.hold]
    exact ⟨rfl, rfl⟩
  · have := h _ _ (hS.put hd x hS.mem)
    simpa only [wpK] using this

theorem sq_sound (C : Ctx) (R : Array Oper) (K : List KI) : ∀ (n : Nat) (l : List Oper) (s : St), SQ' C (Mem C s.own s.G) R K (sq C.ty C.nt R n l s) → SGo C (.q (Mem C s.own s.G) R l :: K) s := by
  intro n
  induction n with
  | zero => intro l s h; exact h
  | succ n ih =>
    intro l s h
    match l with
    | [] => exact h
    | ⟨d, op, t, pos, aft, none⟩ :: l =>
      cases hd : dOk C.nt d with
      | false => simpa only [SQ', sq, hd] using h
      | true =>
        cases ho : opQ C.ty s.sl s.own op with
        | none => simpa only [SQ', sq, hd, ho] using h
        | some r => exact q_opq hd ho (ih l ⟨putS d r s.sl, s.own, s.G, s.df⟩ (by simpa only [sq, hd, ho] using h))
    | ⟨d, op, t, pos, aft, some (j, want)⟩ :: l =>
      cases hj : (R[j]?).bind (·.dst) with
      | none => simpa only [SQ', sq, hj] using h
      | some g =>
        cases hl : lk g s.sl with
        | none => simpa only [SQ', sq, hj, hl] using h
        | some z =>
          cases z with
          | b u =>
            cases hd : dOk C.nt d with
            | false => simpa only [SQ', sq, hj, hl, hd] using h
            | true =>
              refine q_guard hj hd hl (fun e => ?_) (fun e => ?_)
              · have e' : eqB u want = true := by rw [e]; exact eqB_self _
                exact ih _ _ (by simpa only [sq, hj, hl, hd, e'] using h)
              · have e' : eqB u want = false := eqB_ne e
                exact ih l ⟨putS d (.v undef) s.sl, s.own, s.G, s.df⟩ (by simpa only [sq, hj, hl, hd, e'] using h)
          | _ => simpa only [SQ', sq, hj, hl] using h

theorem runq (n : Nat) {ty : TypeId → Option TI} {nt : Nat} (h1 : C.ty = ty) (h2 : C.nt = nt) (h : SQ' C (Mem C s.own s.G) R K (sq ty nt R n l s)) : SGo C (.q (Mem C s.own s.G) R l :: K) s := by
  subst h1 h2
  exact sq_sound C R K n l s h
end
end Go.Sx
