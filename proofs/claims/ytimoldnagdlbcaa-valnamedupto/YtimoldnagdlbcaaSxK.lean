/-
  A symbolic walk over the model's code: further rules. Generic: names no program.
-/
import Derived.Test.YtimoldnagdlbcaaSxJ
import Derived.Test.YtimoldnagdlbcaaVRep
namespace Go.Sx
set_option linter.unusedSimpArgs false
set_option linter.unusedVariables false
open Go.RowKit

section
variable {C : Ctx} {K : List KI} {s : St} {R : Array Oper} {l : List Oper} {d : Option Tmp} {t : TypeId} {pos : String} {aft : Array Edge} {v : Value}

/-- The call of a function whose answer is known: what it laid is forgotten. -/
theorem go_callf {f : FuncId} {args : Array Operand} {tys : Array TypeId} {vs : List SV} (hd : dOk C.nt d = true) (hf : canCall C.P f = true) (ha : evs s.sl args.toList = some vs) (hc : Pure C.P f (dens vs) s.G (fun r _ => r = v))
    (h : SGo C (.ops R l :: K) ⟨putS d (rv v) s.sl, s.own, s.G, s.df⟩) : SGo C (.ops R (⟨d, .call ⟨.value (.func f), args, tys⟩, t, pos, aft, none⟩ :: l) :: K) s := by
  intro a w hS
  have hargs : args.map a.eval = (dens vs).toArray := by apply Array.ext'; rw [Array.toList_map]; exact evs_ok hS.sl ha
  have hrun : (execOp a.eval ⟨d, .call ⟨.value (.func f), args, tys⟩, t, pos, aft, none⟩).run C.P w = .ok (.enter f (dens vs).toArray) w := by
    simp only [execOp, resolve, hargs, Act.eval, Deferred.ofValue, Sem.run_bind, Sem.run_pure, Result.andThen_ok, invoke]
    simp [callFunc_ok hf]
  refine K_enter rfl hrun ((hc w hS.mem.has).mono ?_)
  rintro e w' ⟨v', G', rfl, hg, rfl⟩
  have hS' := hS.put hd (rv v') (hS.mem.call0 hg)
  rw [rv_den] at hS'
  have := h _ _ hS'
  exact ⟨_, rfl, this⟩

theorem Pure.val {P : Program} {f : FuncId} {args : List Value} {G : Hp} {v v' : Value} (h : Pure P f args G (fun r _ => r = v)) (e : v = v') : Pure P f args G (fun r _ => r = v') := e ▸ h

/-- The call of a function that answers a bool that is decided. -/
theorem go_callb {f : FuncId} {args : Array Operand} {tys : Array TypeId} {vs : List SV} {u : Bool} (hd : dOk C.nt d = true) (hf : canCall C.P f = true) (ha : evs s.sl args.toList = some vs) (hc : Pure C.P f (dens vs) s.G (fun r _ => r = .bool u))
    (h : SGo C (.ops R l :: K) ⟨putS d (.b u) s.sl, s.own, s.G, s.df⟩) : SGo C (.ops R (⟨d, .call ⟨.value (.func f), args, tys⟩, t, pos, aft, none⟩ :: l) :: K) s := by
  refine go_callf hd hf ha hc ?_
  cases d with
  | none => exact h
  | some d =>
    refine SGo.weaken (s' := ⟨putS (some d) (.b u) s.sl, s.own, s.G, s.df⟩) rfl rfl (fun i x e => ?_) (fun _ _ e => e) h
    simp only [putS, lk_stk] at e ⊢
    split at e
    · rename_i q; cases e; exact .inr ⟨rv (.bool u), by simp [q], by rw [rv_den]; rfl⟩
    · rename_i q; rw [if_neg q]; exact .inl e

/-- A thing of the call's own is forgotten. -/
theorem go_drop (k : Nat) (h : SGo C K ⟨s.sl, rmk k s.own, s.G, s.df⟩) : SGo C K s :=
  SGo.weaken (s' := ⟨s.sl, rmk k s.own, s.G, s.df⟩) rfl rfl (fun _ _ e => .inl e) (fun i x e => by
    simp only [lk_rmk] at e
    split at e
    · cases e
    · exact e) h

/-- A slice of trees that grew goes to what is known for good. -/
theorem go_pubS (k : Nat) {b n : Nat} {e : TypeId} {v : Value} {xs : List Value} {ts : List VT} (hk : lk k s.own = some (b, .row v e 3 n xs)) (hmh : C.mh ≤ k) (hn : n = ts.length) (h63 : n ≤ 9223372036854775807) (hr : repV s.G ts xs)
    (h : ∀ G' ad cap, Le s.G G' → v = .slice ad ts.length cap → repS G' ts (.slice ad ts.length cap) → SGo C K ⟨s.sl, rmk k s.own, G', s.df⟩) : SGo C K s := by
  subst hn
  refine go_rowcases k hk (fun hv hn0 hx => ?_) (fun g cap hv hc hl => ?_)
  · have h0 : ts = [] := List.length_eq_zero_iff.1 hn0
    refine go_drop k (h s.G none 0 (Le.refl _) (by rw [hv, h0]; rfl) ⟨h63, none, 0, rfl, .inl h0⟩)
  · subst hv
    refine go_pubrow k hk hmh ?_
    intro G' hle hat
    exact h G' _ _ hle rfl ⟨h63, _, _, rfl, .inr ⟨g, 0, xs, rfl, hat, repV_mono hle hr⟩⟩

/-- A growing slice is a slice. -/
theorem go_rowS (k : Nat) {b n size : Nat} {e : TypeId} {v : Value} {xs : List Value} (hk : lk k s.own = some (b, .row v e size n xs)) (h : ∀ ad cap, v = .slice ad n cap → SGo C K s) : SGo C K s :=
  go_rowcases k hk (fun hv hn _ => h none 0 (by rw [hv, hn])) (fun g cap hv _ _ => h _ _ hv)

/-- The cells of a block of the call's own, seen otherwise. -/
theorem go_see (k : Nat) {b : Nat} {e : TypeId} {cells : List SV} (cells' : List SV) (hk : lk k s.own = some (b, .c e cells)) (he : dens cells' = dens cells) (h : SGo C K ⟨s.sl, stk k (b, .c e cells') s.own, s.G, s.df⟩) : SGo C K s := by
  intro a w hS
  refine h a w ⟨hS.sl, hS.nt, hS.df, ?_⟩
  obtain ⟨f1, f2⟩ := hS.mem.own _ _ _ hk
  refine hS.mem.put hk rfl rfl rfl (Nat.le_refl _) (fun _ _ _ => rfl) ?_ (fun g => ⟨.inl, .inl⟩)
  simp only [OO.holds] at f1 ⊢
  rw [he]; exact f1

/-! ### Lending: a block of the call's own is read by a callee, and stays the call's own -/

theorem Mem.stay {own : List (Nat × Nat × OO)} {G G1 G' : Hp} {w w' : World} (h : Mem C own G w) (hg : Grow [] w G1 w' G') : Mem C own G w' := by
  refine ⟨fun k b o e => ?_, h.inj, ?_⟩
  · obtain ⟨f1, f2⟩ := h.own k b o e
    exact ⟨OO.holds_same f1 hg.fr fun g hb => hg.blk g (h.lt e hb) (by simp), f2⟩
  · have q := h.grow
    refine ⟨hg.os.trans q.os, hg.tape.trans q.tape, hg.output.trans q.output, Nat.le_trans q.size hg.size, fun k hk hm => ?_, fun b o e => ?_, q.old⟩
    · rw [hg.blk k (Nat.lt_of_lt_of_le hk q.size) (by simp)]; exact q.blk k hk hm
    · have := q.has b o e
      rw [hg.blk b (lt_of_heap this) (by simp)]; exact this

theorem Mem.lent {own : List (Nat × Nat × OO)} {G : Hp} {w : World} (h : Mem C own G w) {k b g : Nat} {o : OO} {x : Obj} (hk : lk k own = some (b, o)) (hg : o.mut b g) (hx : w.heap[g]? = some x) :
    Le G (fun j => if j = g then some x else G j) ∧ Has w (fun j => if j = g then some x else G j) := by
  refine ⟨fun j y e => ?_, fun j y e => ?_⟩
  · have : j ≠ g := by intro q; subst q; rw [((h.own _ _ _ hk).2 j hg).1] at e; cases e
    simp [this, e]
  · simp only at e
    split at e
    · rename_i q; subst q; cases e; exact hx
    · exact h.has j y e

theorem row_block {w : World} {base : Nat} {e : TypeId} {size n cap g : Nat} {xs : List Value} (h : w.ownsRow base e size (.slice (some ⟨g, 0, none⟩) n cap) n xs) : ∃ x, w.heap[g]? = some x ∧ ∀ G : Hp, G g = some x → At G g 0 xs := by
  obtain ⟨arr, e', fz, q1, q2, q3⟩ := row_load (P := default) h
  exact ⟨_, q1, fun G hG => ⟨arr, e', fz, hG, q2, q3⟩⟩

/-- A call that reads a growing slice of the call's own. -/
theorem go_lendR (k : Nat) {f : FuncId} {args : Array Operand} {tys : Array TypeId} {vs : List SV} {b g n cap size : Nat} {e : TypeId} {xs : List Value} (hd : dOk C.nt d = true) (hf : canCall C.P f = true) (ha : evs s.sl args.toList = some vs)
    (hk : lk k s.own = some (b, .row (.slice (some ⟨g, 0, none⟩) n cap) e size n xs)) (hc : ∀ G1, Le s.G G1 → At G1 g 0 xs → Pure C.P f (dens vs) G1 (fun r _ => r = v))
    (h : SGo C (.ops R l :: K) ⟨putS d (rv v) s.sl, s.own, s.G, s.df⟩) : SGo C (.ops R (⟨d, .call ⟨.value (.func f), args, tys⟩, t, pos, aft, none⟩ :: l) :: K) s := by
  intro a w hS
  have hargs : args.map a.eval = (dens vs).toArray := by apply Array.ext'; rw [Array.toList_map]; exact evs_ok hS.sl ha
  have hrun : (execOp a.eval ⟨d, .call ⟨.value (.func f), args, tys⟩, t, pos, aft, none⟩).run C.P w = .ok (.enter f (dens vs).toArray) w := by
    simp only [execOp, resolve, hargs, Act.eval, Deferred.ofValue, Sem.run_bind, Sem.run_pure, Result.andThen_ok, invoke]
    simp [callFunc_ok hf]
  obtain ⟨x, hx, hat⟩ := row_block (hS.mem.own _ _ _ hk).1
  obtain ⟨l1, l2⟩ := hS.mem.lent hk rfl hx
  refine K_enter rfl hrun ((hc _ l1 (hat _ (by simp)) w l2).mono ?_)
  rintro e w' ⟨v', G', rfl, hg, rfl⟩
  have hS' := hS.put hd (rv v') (hS.mem.stay hg)
  rw [rv_den] at hS'
  have := h _ _ hS'
  exact ⟨_, rfl, this⟩

theorem q_lendR (k : Nat) {f : FuncId} {args : Array Operand} {tys : Array TypeId} {vs : List SV} {b g n cap size : Nat} {e : TypeId} {xs : List Value} (hd : dOk C.nt d = true) (hf : canCall C.P f = true) (ha : evs s.sl args.toList = some vs)
    (hk : lk k s.own = some (b, .row (.slice (some ⟨g, 0, none⟩) n cap) e size n xs)) (hc : ∀ G1, Le s.G G1 → At G1 g 0 xs → Pure C.P f (dens vs) G1 (fun r _ => r = v))
    (h : SGo C (.q (Mem C s.own s.G) R l :: K) ⟨putS d (rv v) s.sl, s.own, s.G, s.df⟩) : SGo C (.q (Mem C s.own s.G) R (⟨d, .call ⟨.value (.func f), args, tys⟩, t, pos, aft, none⟩ :: l) :: K) s := by
  intro a w hS
  have hargs : args.map a.eval = (dens vs).toArray := by apply Array.ext'; rw [Array.toList_map]; exact evs_ok hS.sl ha
  have hrun : ∀ w', (execOp a.eval ⟨d, .call ⟨.value (.func f), args, tys⟩, t, pos, aft, none⟩).run C.P w' = .ok (.enter f (dens vs).toArray) w' := by
    intro w'
    simp only [execOp, resolve, hargs, Act.eval, Deferred.ofValue, Sem.run_bind, Sem.run_pure, Result.andThen_ok, invoke]
    simp [callFunc_ok hf]
  simp only [wpK, wpQuiet]
  rw [if_pos (by simp [Region.wanted])]
  refine ⟨v, fun w' hw' => ?_, ?_⟩
  · obtain ⟨x, hx, hat⟩ := row_block (hw'.own _ _ _ hk).1
    obtain ⟨l1, l2⟩ := hw'.lent hk rfl hx
    unfold Oper.quietAt
    rw [hrun w']
    refine ⟨rfl, (hc _ l1 (hat _ (by simp)) w' l2).mono ?_⟩
    rintro e w'' ⟨u, G', rfl, hg, rfl⟩
    exact ⟨rfl, hw'.stay hg⟩
  · have hS' := hS.put hd (rv v) hS.mem
    rw [rv_den] at hS'
    have := h _ _ hS'
    simpa only [wpK] using this

/-- A call that reads a growing slice of trees of the call's own. -/
theorem go_lendS (k : Nat) {f : FuncId} {args : Array Operand} {tys : Array TypeId} {vs : List SV} {b n : Nat} {e : TypeId} {u : Value} {xs : List Value} {ts : List VT} (hd : dOk C.nt d = true) (hf : canCall C.P f = true) (ha : evs s.sl args.toList = some vs)
    (hk : lk k s.own = some (b, .row u e 3 n xs)) (hn : n = ts.length) (h63 : n ≤ 9223372036854775807) (hr : repV s.G ts xs) (hc : ∀ G1, Le s.G G1 → repS G1 ts u → Pure C.P f (dens vs) G1 (fun r _ => r = v))
    (h : SGo C (.ops R l :: K) ⟨putS d (rv v) s.sl, s.own, s.G, s.df⟩) : SGo C (.ops R (⟨d, .call ⟨.value (.func f), args, tys⟩, t, pos, aft, none⟩ :: l) :: K) s := by
  subst hn
  refine go_rowcases k hk (fun hv hn0 hx => ?_) (fun g cap hv hc' hl => ?_)
  · have h0 : ts = [] := List.length_eq_zero_iff.1 hn0
    exact go_callf hd hf ha (hc s.G (Le.refl _) ⟨h63, none, 0, by rw [hv, h0]; rfl, .inl h0⟩) h
  · subst hv
    exact go_lendR k hd hf ha hk (fun G1 hle hat => hc G1 hle ⟨h63, _, _, rfl, .inr ⟨g, 0, xs, rfl, hat, repV_mono hle hr⟩⟩) h
theorem q_lendS (k : Nat) {f : FuncId} {args : Array Operand} {tys : Array TypeId} {vs : List SV} {b n : Nat} {e : TypeId} {u : Value} {xs : List Value} {ts : List VT} (hd : dOk C.nt d = true) (hf : canCall C.P f = true) (ha : evs s.sl args.toList = some vs)
    (hk : lk k s.own = some (b, .row u e 3 n xs)) (hn : n = ts.length) (h63 : n ≤ 9223372036854775807) (hr : repV s.G ts xs) (hc : ∀ G1, Le s.G G1 → repS G1 ts u → Pure C.P f (dens vs) G1 (fun r _ => r = v))
    (h : SGo C (.q (Mem C s.own s.G) R l :: K) ⟨putS d (rv v) s.sl, s.own, s.G, s.df⟩) : SGo C (.q (Mem C s.own s.G) R (⟨d, .call ⟨.value (.func f), args, tys⟩, t, pos, aft, none⟩ :: l) :: K) s := by
  subst hn
  refine go_rowcases k hk (fun hv hn0 hx => ?_) (fun g cap hv hc' hl => ?_)
  · have h0 : ts = [] := List.length_eq_zero_iff.1 hn0
    exact q_callf hd hf ha (hc s.G (Le.refl _) ⟨h63, none, 0, by rw [hv, h0]; rfl, .inl h0⟩) h
  · subst hv
    exact q_lendR k hd hf ha hk (fun G1 hle hat => hc G1 hle ⟨h63, _, _, rfl, .inr ⟨g, 0, xs, rfl, hat, repV_mono hle hr⟩⟩) h

/-! ### Functions that hand out a new block that nobody else knows -/

/-- How a call ends that returns, and hands a growing slice out (its block: new, unknown to G'). -/
def RetR (w : World) (G : Hp) (φ : Value → Hp → Value → TypeId → Nat → Nat → List Value → Prop) : Ending → World → Prop :=
  fun e w' => ∃ v G' r e' size n xs, e = .returned v ∧ Grow [] w G w' G' ∧ w'.ownsRow 0 e' size r n xs ∧ (∀ g, r.ownBlock = some g → G' g = none ∧ w.heap.size ≤ g) ∧ φ v G' r e' size n xs
def PureR (P : Program) (f : FuncId) (args : List Value) (G : Hp) (φ : Value → Hp → Value → TypeId → Nat → Nat → List Value → Prop) : Prop :=
  ∀ w, Has w G → Calls P f args.toArray w (RetR w G φ)

theorem PureR.pure {P : Program} {f : FuncId} {args : List Value} {G : Hp} {φ : Value → Hp → Value → TypeId → Nat → Nat → List Value → Prop} {ψ : Value → Hp → Prop} (h : PureR P f args G φ)
    (h0 : ∀ v G' e size, Le G G' → φ v G' (.slice none 0 0) e size 0 [] → ψ v G') (h1 : ∀ v G' G'' g cap e size n xs, Le G G' → Le G' G'' → At G'' g 0 xs → φ v G' (.slice (some ⟨g, 0, none⟩) n cap) e size n xs → ψ v G'') : Pure P f args G ψ := by
  intro w hw
  refine (h w hw).mono ?_
  rintro e w' ⟨v, G', r, e', size, n, xs, rfl, hg, hr, hb, hφ⟩
  have hle : Le G G' := fun b o e => hg.keep hw e
  rcases hr.2 with ⟨q1, q2⟩ | ⟨g0, cap, cur, q1, hbg, hgg, hnc, hcm, hcs, htake⟩
  · subst q1 q2
    have : xs = [] := List.eq_nil_of_length_eq_zero (by have := hr.1; simpa using this)
    subst this
    exact ⟨v, G', rfl, hg, h0 _ _ _ _ hle hφ⟩
  · subst q1
    obtain ⟨x, hx, hat⟩ := row_block hr
    obtain ⟨b1, b2⟩ := hb g0 rfl
    refine ⟨v, fun j => if j = g0 then some x else G' j, rfl, ?_, h1 _ G' _ g0 cap _ _ _ _ hle ?_ (hat _ (by simp)) hφ⟩
    · refine ⟨hg.os, hg.tape, hg.output, hg.size, hg.blk, fun j y e => ?_, fun j hj => ?_⟩
      · change (if j = g0 then some x else G' j) = some y at e
        split at e
        · rename_i q; subst q; cases e; exact hx
        · exact hg.has j y e
      · show (if j = g0 then some x else G' j) = _
        rw [if_neg (by omega)]
        exact hg.old j hj
    · intro j y e
      have : j ≠ g0 := by intro q; subst q; rw [b1] at e; cases e
      simp [this, e]

theorem enterR {P : Program} {f : FuncId} {fn : Func} {G : Hp} {φ : Value → Hp → Value → TypeId → Nat → Nat → List Value → Prop} (ty : TypeId → Option TI) (tyok : ∀ T i, ty T = some i → i.ok P T) {nt : Nat}
    (hf : P.funcs[f]? = some fn) (hb : fn.body.isSome = true) (hn : fn.ntmps = nt) (svs : List SV) (hargs : svs.length ≤ nt)
    (h : ∀ C : Ctx, C.P = P → C.Q = bodyPost C.P fn (RetR C.w0 C.G0 φ) → C.nt = nt → C.ty = ty → C.mb = [] → C.mh = 0 → C.ro = none → SGo C [.code (fn.body.getD .skip)] ⟨enumS 0 svs, [], G, []⟩) : PureR P f (dens svs) G φ := by
  intro w hw
  refine calls_of_wp hf (body_eq hb) ((wpIn_wide (n := 0)).1 ?_)
  have := h ⟨P, bodyPost P fn (RetR w G φ), nt, ty, tyok, w, G, [], 0, none⟩ rfl rfl rfl rfl rfl rfl rfl { tmps := (dens svs).toArray ++ Array.replicate (fn.ntmps - (dens svs).toArray.size) undef, defers := [] } w
    ⟨slots_args _ _ _ (fun i x e => by have := (lk_enumS svs 0 i x e).2; simpa using this), by simp [hn, dens_eq]; omega, rfl, ⟨fun _ _ _ e => by simp [lk] at e, fun _ _ _ _ _ _ _ e => by simp [lk] at e, Grow.refl hw⟩⟩
  simp only [wpK] at this
  exact this

/-- A return that hands out the thing k. -/
theorem x_retr (k : Nat) {kc : Code} (ht : tag kc = 7) {fn : Func} {φ : Value → Hp → Value → TypeId → Nat → Nat → List Value → Prop} (hQ : C.Q = bodyPost C.P fn (RetR C.w0 C.G0 φ)) (hmb : C.mb = []) (hmh : C.mh = 0) {r : ResultVar} {rs : List ResultVar} (hrs : fn.results.toList = r :: rs) {xs : List SV}
    (hr : resAll s.sl C.ty s.own (r :: rs) = some xs) (hdf : s.df = []) {b : Nat} {u : Value} {e : TypeId} {size n : Nat} {ys : List Value} (hk : lk k s.own = some (b, .row u e size n ys)) (h : φ (resV xs).den s.G u e size n ys) (hnb : noBr K = true := by rfl) : SGo C (.code kc :: K) s := by
  intro a w hS
  cases kc <;> simp [tag] at ht
  · rename_i a b c; cases c <;> simp at ht
  refine wpIn_ret ?_
  rw [wpK_ret _ _ _ hnb, hQ]
  obtain ⟨g1, g2⟩ := hS.mem.own _ _ _ hk
  have hg := hS.mem.grow
  rw [hmb] at hg
  refine ⟨by rw [hS.df, hdf], _, results_ok hS (by rw [hrs]; exact hr), _, _, _, _, _, _, _, rfl, hg, g1, fun g hb => ?_, h⟩
  obtain ⟨q1, q2, _⟩ := g2 g hb
  exact ⟨q1, q2 (by omega)⟩

/-- A call that hands a growing slice out: it becomes the thing k of the call's own. -/
theorem go_callr (k : Nat) {f : FuncId} {args : Array Operand} {tys : Array TypeId} {vs : List SV} {φ : Value → Hp → Value → TypeId → Nat → Nat → List Value → Prop} (hd : dOk C.nt d = true) (hf : canCall C.P f = true) (ha : evs s.sl args.toList = some vs)
    (hk : lk k s.own = none) (hmh : C.mh ≤ k) (hc : PureR C.P f (dens vs) s.G φ)
    (h : ∀ v G' r e size n xs, Le s.G G' → φ v G' r e size n xs → SGo C (.ops R l :: K) ⟨putS d (rv v) s.sl, stk k (0, .row r e size n xs) s.own, G', s.df⟩) : SGo C (.ops R (⟨d, .call ⟨.value (.func f), args, tys⟩, t, pos, aft, none⟩ :: l) :: K) s := by
  intro a w hS
  have hargs : args.map a.eval = (dens vs).toArray := by apply Array.ext'; rw [Array.toList_map]; exact evs_ok hS.sl ha
  have hrun : (execOp a.eval ⟨d, .call ⟨.value (.func f), args, tys⟩, t, pos, aft, none⟩).run C.P w = .ok (.enter f (dens vs).toArray) w := by
    simp only [execOp, resolve, hargs, Act.eval, Deferred.ofValue, Sem.run_bind, Sem.run_pure, Result.andThen_ok, invoke]
    simp [callFunc_ok hf]
  refine K_enter rfl hrun ((hc w hS.mem.has).mono ?_)
  rintro e w' ⟨v, G', r, e', size, n, xs, rfl, hg, hr, hb, hφ⟩
  have hle : Le s.G G' := fun b o e => hg.keep hS.mem.has e
  have hm := hS.mem.call hg
  have hm' : Mem C (stk k (0, .row r e' size n xs) s.own) G' w' := by
    refine ⟨fun j c x e => ?_, fun j j' c c' x x' g e e' f f' => ?_, hm.grow⟩
    · rw [lk_stk] at e
      split at e
      · rename_i hj; subst hj; cases e
        refine ⟨⟨hr.1, ?_⟩, fun g hg' => ?_⟩
        · rcases hr.2 with q | ⟨g0, cap, cur, q1, hbg, rest⟩
          · exact .inl q
          · exact .inr ⟨g0, cap, cur, q1, hbg, rest⟩
        · obtain ⟨b1, b2⟩ := hb g hg'
          exact ⟨b1, fun _ => Nat.le_trans hS.mem.grow.size b2, fun q => by omega⟩
      · exact hm.own _ _ _ e
    · have key : ∀ {j c x}, lk j s.own = some (c, x) → x.blks c g → r.ownBlock = some g → False := by
        intro j c x e f f'
        have := hS.mem.lt e f
        have := (hb g f').2
        omega
      rw [lk_stk] at e e'
      split at e <;> split at e'
      · omega
      · cases e; exact (key e' f' f).elim
      · cases e'; exact (key e f f').elim
      · exact hm.inj _ _ _ _ _ _ _ e e' f f'
  have hS' := hS.put hd (rv v) hm'
  rw [rv_den] at hS'
  have := h v G' r e' size n xs hle hφ _ _ hS'
  exact ⟨_, rfl, this⟩
end

end Go.Sx
