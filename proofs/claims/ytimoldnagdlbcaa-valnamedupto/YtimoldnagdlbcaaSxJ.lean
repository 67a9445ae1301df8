/-
  A symbolic walk over the model's code, the code kept behind its name: every step of control is a rule whose side condition is reckoned. Generic: names no program.
-/
import Derived.Test.YtimoldnagdlbcaaSxI
namespace Go.Sx
set_option linter.unusedSimpArgs false
set_option linter.unusedVariables false
open Go.RowKit

/-! ### Looking at code without writing it out -/

def tag : Code → Nat
  | .skip => 0
  | .seq _ _ => 1
  | .block _ _ => 2
  | .region _ _ false => 3
  | .exit _ => 4
  | .cond _ _ _ => 5
  | .loop _ => 6
  | .ret => 7
  | .label _ => 8
  | .region _ _ true => 9
  | .rangeFunc _ _ _ _ => 10
  | .scope _ => 11
  | .goto _ => 12
  | .refuse _ => 13
def c1 : Code → Code
  | .seq a _ => a
  | .block _ a => a
  | .cond _ a _ => a
  | .loop a => a
  | .scope a => a
  | .rangeFunc _ _ a _ => a
  | _ => .skip
def c2 : Code → Code
  | .seq _ b => b
  | .cond _ _ b => b
  | .rangeFunc _ _ _ b => b
  | _ => .skip
def cid : Code → Nat
  | .block i _ => i
  | .exit i => i
  | .label i => i
  | .goto i => i
  | .region i _ _ => i
  | _ => 0
def cop : Code → Operand
  | .cond c _ _ => c
  | .rangeFunc f _ _ _ => f
  | _ => .tmp 0
def cops : Code → Array Oper
  | .region _ R _ => R
  | _ => #[]

/-- The walk through a list of operations, as far as it goes by itself. -/
def so (ty : TypeId → Option TI) (nt mh : Nat) (R : Array Oper) : Nat → List Nat → List Oper → St → List Oper × St
  | 0, _, l, s => (l, s)
  | _ + 1, _, [], s => ([], s)
  | n + 1, bs, ⟨d, op, t, pos, aft, none⟩ :: l, s => match dOk nt d, opQ ty s.sl s.own op with
    | true, some r => so ty nt mh R n bs l ⟨putS d r s.sl, s.own, s.G, s.df⟩
    | true, none => match opStore ty s.sl s.own op with
      | some own' => so ty nt mh R n bs l ⟨putS d (.v undef) s.sl, own', s.G, s.df⟩
      | none => match opAlloc ty s.sl op, bs with
        | some r, b :: bs' => so ty nt mh R n bs' l ⟨putS d (r.2.2 (fk mh s.own) b) s.sl, stk (fk mh s.own) (b, .c r.1 r.2.1) s.own, s.G, s.df⟩
        | _, _ => (⟨d, op, t, pos, aft, none⟩ :: l, s)
    | false, _ => (⟨d, op, t, pos, aft, none⟩ :: l, s)
  | n + 1, bs, ⟨d, op, t, pos, aft, some (j, want)⟩ :: l, s => match (R[j]?).bind (·.dst) with
    | some g => match lk g s.sl, dOk nt d with
      | some (.b u), true => match eqB u want with
        | true => so ty nt mh R n bs (⟨d, op, t, pos, aft, none⟩ :: l) s
        | false => so ty nt mh R n bs l ⟨putS d (.v undef) s.sl, s.own, s.G, s.df⟩
      | _, _ => (⟨d, op, t, pos, aft, some (j, want)⟩ :: l, s)
    | none => (⟨d, op, t, pos, aft, some (j, want)⟩ :: l, s)

def SO' (C : Ctx) (R : Array Oper) (K : List KI) (x : List Oper × St) : Prop := SGo C (.ops R x.1 :: K) x.2

section
variable {C : Ctx} {K : List KI} {s : St} {k : Code} {R : Array Oper} {l : List Oper}

theorem so_sound (C : Ctx) (R : Array Oper) (K : List KI) : ∀ (n j : Nat) (l : List Oper) (s : St), (∀ bs : List Nat, bs.length = j → SO' C R K (so C.ty C.nt C.mh R n bs l s)) → SGo C (.ops R l :: K) s := by
  intro n
  induction n with
  | zero => intro j l s h; exact h (List.replicate j 0) (by simp)
  | succ n ih =>
    intro k l s h
    have base := h (List.replicate k 0) (by simp)
    match l with
    | [] => exact base
    | ⟨d, op, t, pos, aft, none⟩ :: l =>
      cases hd : dOk C.nt d with
      | false => simpa only [SO', so, hd] using base
      | true =>
        cases ho : opQ C.ty s.sl s.own op with
        | some r => exact go_op (o := ⟨d, op, t, pos, aft, none⟩) rfl hd ho (ih k _ _ fun bs hb => by simpa only [so, hd, ho] using h bs hb)
        | none =>
          cases hs : opStore C.ty s.sl s.own op with
          | some own' => exact go_st (o := ⟨d, op, t, pos, aft, none⟩) rfl hd hs (ih k _ _ fun bs hb => by simpa only [so, hd, ho, hs] using h bs hb)
          | none =>
            cases hn : opAlloc C.ty s.sl op with
            | none => simpa only [SO', so, hd, ho, hs, hn] using base
            | some r =>
              cases k with
              | zero =>
                have := h [] rfl
                simpa only [SO', so, hd, ho, hs, hn] using this
              | succ k =>
                exact go_new (o := ⟨d, op, t, pos, aft, none⟩) rfl hd hn fun b => ih k _ _ fun bs hb => by
                  have := h (b :: bs) (by simp [hb])
                  simpa only [so, hd, ho, hs, hn] using this
    | ⟨d, op, t, pos, aft, some (j, want)⟩ :: l =>
      cases hj : (R[j]?).bind (·.dst) with
      | none => simpa only [SO', so, hj] using base
      | some g =>
        cases hl : lk g s.sl with
        | none => simpa only [SO', so, hj, hl] using base
        | some z =>
          cases z with
          | b u =>
            cases hd : dOk C.nt d with
            | false => simpa only [SO', so, hj, hl, hd] using base
            | true =>
              refine go_guarded hj hd hl (fun e => ?_) (fun e => ?_)
              · have e' : eqB u want = true := by rw [e]; exact eqB_self _
                exact ih k _ _ fun bs hb => by simpa only [so, hj, hl, hd, e'] using h bs hb
              · have e' : eqB u want = false := eqB_ne e
                exact ih k _ _ fun bs hb => by simpa only [so, hj, hl, hd, e'] using h bs hb
          | _ => simpa only [SO', so, hj, hl] using base

theorem runo0 (n : Nat) {ty : TypeId → Option TI} {nt mh : Nat} (h1 : C.ty = ty) (h2 : C.nt = nt) (h3 : C.mh = mh) (h : SO' C R K (so ty nt mh R n [] l s)) : SGo C (.ops R l :: K) s := by
  subst h1 h2 h3
  exact so_sound C R K n 0 l s fun bs hb => by rw [List.length_eq_zero_iff.1 hb]; exact h
theorem runo1 (n : Nat) {ty : TypeId → Option TI} {nt mh : Nat} (h1 : C.ty = ty) (h2 : C.nt = nt) (h3 : C.mh = mh) (h : ∀ b1, SO' C R K (so ty nt mh R n [b1] l s)) : SGo C (.ops R l :: K) s := by
  subst h1 h2 h3
  exact so_sound C R K n 1 l s fun bs hb => by
    match bs, hb with
    | [b1], _ => exact h b1
theorem runo2 (n : Nat) {ty : TypeId → Option TI} {nt mh : Nat} (h1 : C.ty = ty) (h2 : C.nt = nt) (h3 : C.mh = mh) (h : ∀ b1 b2, SO' C R K (so ty nt mh R n [b1, b2] l s)) : SGo C (.ops R l :: K) s := by
  subst h1 h2 h3
  exact so_sound C R K n 2 l s fun bs hb => by
    match bs, hb with
    | [b1, b2], _ => exact h b1 b2
theorem runo4 (n : Nat) {ty : TypeId → Option TI} {nt mh : Nat} (h1 : C.ty = ty) (h2 : C.nt = nt) (h3 : C.mh = mh) (h : ∀ b1 b2 b3 b4, SO' C R K (so ty nt mh R n [b1, b2, b3, b4] l s)) : SGo C (.ops R l :: K) s := by
  subst h1 h2 h3
  exact so_sound C R K n 4 l s fun bs hb => by
    match bs, hb with
    | [b1, b2, b3, b4], _ => exact h b1 b2 b3 b4
theorem runo8 (n : Nat) {ty : TypeId → Option TI} {nt mh : Nat} (h1 : C.ty = ty) (h2 : C.nt = nt) (h3 : C.mh = mh) (h : ∀ b1 b2 b3 b4 b5 b6 b7 b8, SO' C R K (so ty nt mh R n [b1, b2, b3, b4, b5, b6, b7, b8] l s)) : SGo C (.ops R l :: K) s := by
  subst h1 h2 h3
  exact so_sound C R K n 8 l s fun bs hb => by
    match bs, hb with
    | [b1, b2, b3, b4, b5, b6, b7, b8], _ => exact h b1 b2 b3 b4 b5 b6 b7 b8

theorem x_skip (ht : tag k = 0) (h : SGo C K s) : SGo C (.code k :: K) s := by
  cases k <;> simp_all [tag]
  · exact go_skip h
  · rename_i a b c; cases c <;> simp at ht
theorem x_label (ht : tag k = 8) (h : SGo C K s) : SGo C (.code k :: K) s := by
  cases k <;> simp_all [tag]
  · rename_i a b c; cases c <;> simp at ht
  · exact go_label h
theorem x_seq (ht : tag k = 1) (h : SGo C (.code (c1 k) :: .code (c2 k) :: K) s) : SGo C (.code k :: K) s := by
  cases k <;> simp [tag] at ht
  · rename_i a b c; cases c <;> simp at ht
  · exact go_seq h
theorem x_blk (ht : tag k = 2) {id : Nat} (hi : cid k = id) (h : SGo C (.code (c1 k) :: .blk id :: K) s) : SGo C (.code k :: K) s := by
  subst hi
  cases k <;> simp [tag] at ht
  · rename_i a b c; cases c <;> simp at ht
  · exact go_block h
theorem x_exit (ht : tag k = 4) {id : Nat} (hi : cid k = id) {K' : List KI} (hp : popTo id K = some K') (h : SGo C K' s) : SGo C (.code k :: K) s := by
  subst hi
  cases k <;> simp [tag] at ht
  · rename_i a b c; cases c <;> simp at ht
  · exact go_exit hp h
theorem x_reg (ht : tag k = 3) {o : Oper} (hR : cops k = (o :: l).toArray) (h : SGo C (.ops (o :: l).toArray (o :: l) :: K) s) : SGo C (.code k :: K) s := by
  cases k <;> simp [tag] at ht
  rename_i a b c
  cases c <;> simp at ht
  simp only [cops] at hR
  subst hR
  exact go_region h
theorem x_if (ht : tag k = 5) {c : Operand} (hc : cop k = c) {z : SV} {t : Bool} (hz : ev s.sl c = some z) (hzt : z.den = .bool t) (h1 : t = true → SGo C (.code (c1 k) :: K) s) (h2 : t = false → SGo C (.code (c2 k) :: K) s) : SGo C (.code k :: K) s := by
  subst hc
  cases k <;> simp [tag] at ht
  · rename_i a b c; cases c <;> simp at ht
  · exact go_if hz hzt h1 h2
theorem x_ift (ht : tag k = 5) {c : Operand} (hc : cop k = c) (hz : ev s.sl c = some (.b true)) (h : SGo C (.code (c1 k) :: K) s) : SGo C (.code k :: K) s :=
  x_if ht hc hz rfl (fun _ => h) (fun e => by cases e)
theorem x_iff (ht : tag k = 5) {c : Operand} (hc : cop k = c) (hz : ev s.sl c = some (.b false)) (h : SGo C (.code (c2 k) :: K) s) : SGo C (.code k :: K) s :=
  x_if ht hc hz rfl (fun e => by cases e) (fun _ => h)
/-- A test is decided, and stays so. -/
theorem x_split (ht : tag k = 5) {d : Nat} (hc : cop k = .tmp d) {t : Bool} (hz : lk d s.sl = some (.v (.bool t))) (h1 : t = true → SGo C (.code k :: K) ⟨stk d (.b true) s.sl, s.own, s.G, s.df⟩) (h2 : t = false → SGo C (.code k :: K) ⟨stk d (.b false) s.sl, s.own, s.G, s.df⟩) : SGo C (.code k :: K) s :=
  go_split d hz h1 h2
theorem x_loop (ht : tag k = 6) (I : Nat → St → Prop) {n : Nat} (h0 : I n s)
    (step : ∀ n s, I n s → (∀ m s', m < n → I m s' → SGo C (.loop (c1 k) :: K) s') → SGo C (.code (c1 k) :: .loop (c1 k) :: K) s) : SGo C (.code k :: K) s := by
  cases k <;> simp [tag] at ht
  · rename_i a b c; cases c <;> simp at ht
  · exact go_loop I h0 step
theorem x_draw (ht : tag k = 9) (hm : C.P.follows .mixedOrders = true) {o : Oper} (hR : cops k = (o :: l).toArray) (hB : Region.lexB .any (o :: l).toArray = true) (h : SGo C (.q (Mem C s.own s.G) (o :: l).toArray (o :: l) :: K) s) : SGo C (.code k :: K) s := by
  cases k <;> simp [tag] at ht
  rename_i a b c
  cases c <;> simp at ht
  simp only [cops] at hR
  subst hR
  exact go_draw hm hB h
theorem x_held (own0 : List (Nat × Nat × OO)) (ht : tag k = 9) (hm : C.P.follows .mixedOrders = true) {o : Oper} (hR : cops k = (o :: l).toArray) {n : Nat} (hn : (o :: l).length = n) {ls : List Bool} (hls : List.replicate n false = ls) (h : SGo C (.h (Hold C own0 s.G) (o :: l).toArray n ls.toArray :: K) s) : SGo C (.code k :: K) s := by
  subst hls hn
  cases k <;> simp [tag] at ht
  rename_i a b c
  cases c <;> simp at ht
  simp only [cops] at hR
  subst hR
  refine go_held own0 hm ?_
  simpa using h
theorem x_ret (ht : tag k = 7) {fn : Func} {mb : List Nat} {φ : Value → Hp → Prop} (hQ : C.Q = bodyPost C.P fn (Ret mb C.w0 C.G0 φ)) (hmb : C.mb = mb) {xs : List SV} (hr : resAll s.sl C.ty s.own fn.results.toList = some xs) (hdf : s.df = []) (h : φ (resV xs).den s.G) (hnb : noBr K = true := by rfl) : SGo C (.code k :: K) s := by
  cases k <;> simp [tag] at ht
  · rename_i a b c; cases c <;> simp at ht
  · exact go_ret hnb hQ hmb hr hdf h

theorem x_retc (ht : tag k = 7) {fn : Func} {mb : List Nat} {φ : Value → Hp → Prop} (hQ : C.Q = bodyPost C.P fn (Ret mb C.w0 C.G0 φ)) (hmb : C.mb = mb) {r : ResultVar} {rs : List ResultVar} (hrs : fn.results.toList = r :: rs) {xs : List SV}
    (hr : resAll s.sl C.ty s.own (r :: rs) = some xs) (hdf : s.df = []) (h : φ (resV xs).den s.G) (hnb : noBr K = true := by rfl) : SGo C (.code k :: K) s :=
  x_ret ht hQ hmb (by rw [hrs]; exact hr) hdf h hnb

/-- A new block. -/
theorem go_newx {d : Option Tmp} {op : Op} {t : TypeId} {pos : String} {aft : Array Edge} {ty : TypeId → Option TI} {nt mh : Nat} (h1 : C.ty = ty) (h2 : C.nt = nt) (h3 : C.mh = mh) (hd : dOk nt d = true) {r : TypeId × List SV × (Nat → Nat → SV)} (ho : opAlloc ty s.sl op = some r)
    (h : ∀ b, SGo C (.ops R l :: K) ⟨putS d (r.2.2 (fk mh s.own) b) s.sl, stk (fk mh s.own) (b, .c r.1 r.2.1) s.own, s.G, s.df⟩) : SGo C (.ops R (⟨d, op, t, pos, aft, none⟩ :: l) :: K) s := by
  subst h1 h2 h3
  exact go_new (o := ⟨d, op, t, pos, aft, none⟩) rfl hd ho h

theorem body_eq {fn : Func} (h : fn.body.isSome = true) : fn.body = some (fn.body.getD .skip) := by
  cases hb : fn.body with
  | none => rw [hb] at h; cases h
  | some c => rfl

/-- A function's beginning, its arguments as the walk knows them, its code behind its name. -/
theorem enterX {P : Program} {f : FuncId} {fn : Func} {G : Hp} {φ : Value → Hp → Prop} (ty : TypeId → Option TI) (tyok : ∀ T i, ty T = some i → i.ok P T) {nt : Nat}
    (hf : P.funcs[f]? = some fn) (hb : fn.body.isSome = true) (hn : fn.ntmps = nt) (svs : List SV) (hargs : svs.length ≤ nt)
    (h : ∀ C : Ctx, C.P = P → C.Q = bodyPost C.P fn (Ret [] C.w0 C.G0 φ) → C.nt = nt → C.ty = ty → C.mb = [] → C.mh = 0 → C.ro = none → SGo C [.code (fn.body.getD .skip)] ⟨enumS 0 svs, [], G, []⟩) : Pure P f (dens svs) G φ :=
  enterS ty tyok hf (body_eq hb) hn svs hargs h
end
/-- Plain laws, in one, for the walks. -/
theorem zz : (∀ (α β : Type) (f : α → β) (a : α) (l : List α), List.map f (a :: l) = f a :: List.map f l) ∧ (∀ (α β : Type) (f : α → β), List.map f [] = []) ∧
    (∀ (α : Type) (a : α) (l r : List α), (a :: l) ++ r = a :: (l ++ r)) ∧ (∀ (α : Type) (l : List α), [] ++ l = l) ∧ (∀ (α : Type) (l : List α), l ++ [] = l) ∧
    (∀ (α : Type) (a : α) (l : List α), (a :: l).length = l.length + 1) ∧ (∀ (α : Type), ([] : List α).length = 0) ∧ (∀ (α : Type) (p : α → Bool) (a : α) (l : List α), (a :: l).all p = (p a && l.all p)) ∧ (∀ (α : Type) (p : α → Bool), ([] : List α).all p = true) ∧
    (∀ b : Bool, (b && true) = b) ∧ (∀ b : Bool, (true && b) = b) ∧ (∀ b : Bool, (b && b) = b) ∧
    (∀ (α β : Type) (f : α → β) (a : α), (some a).map f = some (f a)) ∧ (∀ (α β : Type) (f : α → β), (none : Option α).map f = none) ∧ (∀ (α β : Type) (f : α → Option β) (a : α), (some a).bind f = f a) ∧ (∀ (α β : Type) (f : α → Option β), (none : Option α).bind f = none) ∧
    (∀ (α : Type) (l : List α) (i : Nat), l.toArray[i]? = l[i]?) ∧ (∀ (α : Type) (a : α) (l : List α), (a :: l)[0]? = some a) ∧ (∀ (α : Type) (a : α) (l : List α) (i : Nat), (a :: l)[i + 1]? = l[i]?) ∧ (∀ (α : Type) (a d : α) (l : List α), (a :: l).headD d = a) ∧
    (∀ n : Nat, 0 + n = n) ∧ (∀ n : Nat, n + 0 = n) ∧ (∀ n : Nat, n ≤ n) ∧ (∀ n : Nat, 0 ≤ n) ∧ (∀ n : Nat, n.succ ≠ 0) ∧ (∀ n : Nat, ¬ n < n) ∧ (∀ n : Nat, ((n : Int)).toNat = n) ∧ (∀ m n : Nat, m.add n = m + n) ∧ ¬ (false = true) ∧ ¬ (true = false) := by
  refine ⟨fun _ _ _ _ _ => rfl, fun _ _ _ => rfl, fun _ _ _ _ => rfl, fun _ _ => rfl, fun _ l => List.append_nil l, fun _ _ _ => rfl, fun _ => rfl, fun _ _ _ _ => List.all_cons, fun _ _ => rfl, by simp, by simp, by simp, fun _ _ _ _ => rfl, fun _ _ _ => rfl, fun _ _ _ _ => rfl, fun _ _ _ => rfl,
    fun _ l i => by simp, fun _ _ _ => rfl, fun _ _ _ _ => by simp, fun _ _ _ _ => rfl, by simp, by simp, by simp, by simp, by simp, by simp, by simp, fun _ _ => rfl, by simp, by simp⟩
/-- What the walks unfold, in one. -/
theorem zy : type_of% (And.intro @enumS.eq_1 <| And.intro @enumS.eq_2 <| And.intro @evs.eq_1 <| And.intro @evs.eq_2 <| And.intro @evParts.eq_1 <| And.intro @evParts.eq_2 <| And.intro @lk.eq_1 <| And.intro @lk.eq_2 <| And.intro @stk.eq_1 <| And.intro @stk.eq_2 <| And.intro @rmk.eq_1 <| And.intro @rmk.eq_2 <| And.intro @fk.eq_1 <| And.intro @fk.eq_2 <| And.intro @sub.eq_1 <| And.intro @sub.eq_2 <| And.intro @sub.eq_3 <| And.intro @sub.eq_4 <| And.intro @nth.eq_1 <| And.intro @nth.eq_2 <| And.intro @nth.eq_3 <| And.intro @lay.eq_1 <| And.intro @lay.eq_2 <| And.intro @lay.eq_3 <| And.intro @lay.eq_4 <| And.intro @fillS.eq_1 <| And.intro @fillS.eq_2 <| And.intro @rep.eq_1 <| And.intro @rep.eq_2 <| And.intro @popTo.eq_1 <| And.intro @popTo.eq_2 <| And.intro @popTo.eq_3 <| And.intro @popTo.eq_4 <| And.intro @popTo.eq_5 <| And.intro @popTo.eq_6 <| And.intro @popTo.eq_7 <| And.intro @popTo.eq_8 <| And.intro @popTo.eq_9 <| And.intro @keepK.eq_1 <| And.intro @keepK.eq_2 <| And.intro @dens.eq_1 <| And.intro @dens.eq_2 <| And.intro @SV.den.eq_1 <| And.intro @SV.den.eq_2 <| And.intro @SV.den.eq_3 <| And.intro @SV.den.eq_4 <| And.intro @SV.den.eq_5 <| And.intro @SV.den.eq_6 <| And.intro @SV.den.eq_7 <| And.intro @SV.den.eq_8 <| And.intro @resAll.eq_1 <| And.intro @resAll.eq_2 <| And.intro @List.append_eq.{0} <| And.intro @decide_true <| And.intro @decide_false <| And.intro @and_self <| And.intro @and_true <| And.intro @true_and <| @beq_self_eq_true.{0}) := And.intro @enumS.eq_1 <| And.intro @enumS.eq_2 <| And.intro @evs.eq_1 <| And.intro @evs.eq_2 <| And.intro @evParts.eq_1 <| And.intro @evParts.eq_2 <| And.intro @lk.eq_1 <| And.intro @lk.eq_2 <| And.intro @stk.eq_1 <| And.intro @stk.eq_2 <| And.intro @rmk.eq_1 <| And.intro @rmk.eq_2 <| And.intro @fk.eq_1 <| And.intro @fk.eq_2 <| And.intro @sub.eq_1 <| And.intro @sub.eq_2 <| And.intro @sub.eq_3 <| And.intro @sub.eq_4 <| And.intro @nth.eq_1 <| And.intro @nth.eq_2 <| And.intro @nth.eq_3 <| And.intro @lay.eq_1 <| And.intro @lay.eq_2 <| And.intro @lay.eq_3 <| And.intro @lay.eq_4 <| And.intro @fillS.eq_1 <| And.intro @fillS.eq_2 <| And.intro @rep.eq_1 <| And.intro @rep.eq_2 <| And.intro @popTo.eq_1 <| And.intro @popTo.eq_2 <| And.intro @popTo.eq_3 <| And.intro @popTo.eq_4 <| And.intro @popTo.eq_5 <| And.intro @popTo.eq_6 <| And.intro @popTo.eq_7 <| And.intro @popTo.eq_8 <| And.intro @popTo.eq_9 <| And.intro @keepK.eq_1 <| And.intro @keepK.eq_2 <| And.intro @dens.eq_1 <| And.intro @dens.eq_2 <| And.intro @SV.den.eq_1 <| And.intro @SV.den.eq_2 <| And.intro @SV.den.eq_3 <| And.intro @SV.den.eq_4 <| And.intro @SV.den.eq_5 <| And.intro @SV.den.eq_6 <| And.intro @SV.den.eq_7 <| And.intro @SV.den.eq_8 <| And.intro @resAll.eq_1 <| And.intro @resAll.eq_2 <| And.intro @List.append_eq.{0} <| And.intro @decide_true <| And.intro @decide_false <| And.intro @and_self <| And.intro @and_true <| And.intro @true_and <| @beq_self_eq_true.{0}
end Go.Sx
