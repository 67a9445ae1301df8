/-
  A symbolic walk over the model's code: functions compared with nil; a way that several ways lead to. Generic: names no program.
-/
import Derived.Test.YtcaohcmlicbjhaaZ1
import Derived.MapKept
import Derived.Test.YtcaohcmlicbjhaaRows
import Derived.RecoverIn
import Derived.DefersIn
import Derived.ArgAppend
import Derived.Laws.BytesArg
import Derived.Laws.IdiomStrings
import Derived.Shelf.SlIterI.Nil
import Derived.Shelf.SortM.Plain
import Derived.Shelf.SortM.SortNone
import Derived.Maps.RangeRun
set_option linter.unusedSimpArgs false
set_option linter.unusedVariables false
namespace Go.Sx
set_option linter.unusedSimpArgs false
set_option linter.unusedVariables false
open Go.RowKit
section
variable {C : Ctx} {K : List KI} {s : St} {sl : List (Nat × SV)} {own : Owns} {G : Hp}

theorem equalIn_f {P : Program} {T : TypeId} {a b c} (hT : P.underlying T = some (.func a b c)) (d : Nat) (fn : Fn) (p q : Array Value) (w : World) : (Op.equalIn (d + 1) T (.func fn p q) .nilFunc).run P w = .ok false w := by
  simp only [Op.equalIn, Sem.run_bind, run_und w hT, Result.andThen_ok, Sem.run_pure]
theorem equal_f {P : Program} {T : TypeId} {a b c} (hT : P.underlying T = some (.func a b c)) (fn : Fn) (p q : Array Value) (w : World) : (Op.equal T (.func fn p q) .nilFunc).run P w = .ok false w := equalIn_f hT 9999 fn p q w

theorem quiet_feq {T T' : TypeId} {x : Operand} {vx : SV} {fn : Fn} {p q : Array Value} {sz by' : Nat} {ze : List Value} {fl : List (Nat × Nat × Bool)} (hT : C.ty T = some ⟨.func, sz, by', ze, fl⟩) (hx : ev sl x = some vx) (hv : vx.den = .func fn p q) : Quiet C sl own G (.binOp .eql T x (.const .nilFunc) T') (.bool false) := by
  intro a w d t pos aft g hs hh
  have hxv := ev_ok hs hx
  rw [hv] at hxv
  obtain ⟨u1, u2, u3, hu⟩ := (C.tyok _ _ hT).k
  have hc : a.eval (.const .nilFunc) = .nilFunc := rfl
  simp only [execOp, hxv, hc]
  have h1 : (eqGuard .eql T x (.const .nilFunc) (.func fn p q) .nilFunc).run C.P w = .ok () w := by simp [eqGuard]
  have h2 : (binOp .eql T (.func fn p q) .nilFunc).run C.P w = .ok (.bool false) w := by
    simp [binOp, equal_f hu]
  rw [Sem.run_bind]
  simp [h1, h2, Sem.run_bind]

def cps : Code → Array Tmp
  | .rangeFunc _ ps _ _ => ps
  | _ => #[]
theorem x_range (kd : Nat) {kc : Code} (ht : tag kc = 10) {g : Operand} (hcg : cop kc = g) {ps : Array Tmp} (hcp : cps kc = ps) {gf : FuncId} {cap : List Value} {zg : SV} {enc : Nat → List Value → Hp → Prop} {N bd : Nat} {ds : List Nat}
    (hro : C.ro = none) (hmh : C.mh = 0) (hg : ev s.sl g = some zg) (hgv : zg.den = .func (.func gf) #[] cap.toArray) (hcall : canCall C.P gf = true) (hps : ∀ p ∈ ps.toList, p < C.nt)
    (hit : Iter C.P gf cap s.G enc N) (hmono : ∀ k vs G G', Le G G' → enc k vs G → enc k vs G') (hlen : ∀ k vs G, enc k vs G → vs.length = ps.size)
    (I : Nat → Owns → Prop) (J : Code → Owns → Prop) (hI : ∀ k own, I k own → (∀ h x, lk h own = some x → h < 998) ∧ Plain own ∧ lk kd own = some (bd, dzO ds)) (hJ : ∀ c own, J c own → Plain own ∧ lk kd own = some (bd, dzO ds)) (h0 : I 0 s.own)
    (hbody : ∀ C' C0 k own vs G1 l D r, k < N → I k own → Le s.G G1 → enc k vs G1 → Round C' C0 C I J l D r k →
      SGo C' [.code (c1 kc), .br l, .code (c2 kc)] ⟨putsS ps.toList vs s.sl, (998, D, .o (.deferred (some []))) :: (999, l, .o (.loop r)) :: own, G1, []⟩)
    (hdone : ∀ D own G', I N own → Le s.G G' → SGo C K ⟨s.sl, stk kd (bd, dzO (D :: ds)) own, G', mkD D :: s.df⟩)
    (hstop : ∀ D c own G', J c own → Le s.G G' → SGo C (.code c :: K) ⟨s.sl, stk kd (bd, dzO (D :: ds)) own, G', mkD D :: s.df⟩) : SGo C (.code kc :: K) s := by
  subst hcg hcp
  cases kc <;> simp [tag] at ht
  · rename_i a b c; cases c <;> simp at ht
  · exact go_range kd hro hmh hg hgv hcall hps hit hmono hlen I J hI hJ h0 hbody hdone hstop

theorem plain_nil : Plain [] := fun _ _ _ e => by simp [lk] at e
theorem plain_cons {x : Nat × Nat × OO} {own : Owns} (h : ∀ g, x.2.2.blks x.2.1 g → x.2.2.mut x.2.1 g) (h' : Plain own) : Plain (x :: own) := by
  intro k b o e
  obtain ⟨i, c, p⟩ := x
  simp only [lk] at e
  split at e
  · cases e; exact h
  · exact h' k b o e
def keysLt (n : Nat) : Owns → Bool
  | [] => true
  | x :: own => decide (x.1 < n) && keysLt n own
theorem keys_lt {n : Nat} : ∀ {own : Owns}, keysLt n own = true → ∀ h x, lk h own = some x → h < n
  | [], _, h, x, e => by simp [lk] at e
  | y :: own, hk, h, x, e => by
    simp only [keysLt, Bool.and_eq_true, decide_eq_true_eq] at hk
    simp only [lk] at e
    split at e
    · rename_i q; omega
    · exact keys_lt hk.2 h x e

theorem cut_tail (n : Nat) (P : St → Prop) (key : ∀ s', P s' → SGo C (K.drop n) s') (h : (∀ s', P s' → SGo C (K.drop n) s') → SGo C K s) : SGo C K s := h key
end
end Go.Sx
namespace Go.Sx
set_option linter.unusedSimpArgs false
set_option linter.unusedVariables false
open Go.RowKit

def diff (G' G : Hp) : Hp := fun b => match G b with | some _ => none | none => G' b
theorem diff_le (G' G : Hp) : Le (diff G' G) G' := fun b o e => by
  unfold diff at e
  cases hG : G b with
  | none => rw [hG] at e; exact e
  | some x => rw [hG] at e; cases e
theorem at_diff {G' G : Hp} {b off : Nat} {vs : List Value} (h : At G' b off vs) (hG : G b = none) : At (diff G' G) b off vs := by
  obtain ⟨arr, e, fz, h1, h2, h3⟩ := h
  exact ⟨arr, e, fz, by unfold diff; rw [hG]; exact h1, h2, h3⟩

theorem Iter.mono {P : Program} {f : FuncId} {cap : List Value} {G G' : Hp} {enc : Nat → List Value → Hp → Prop} {N : Nat} (h : Iter P f cap G enc N) (hl : Le G G') : Iter P f cap G' enc N := by
  intro l A B hy w Z M hw hA hM
  have hw0 : Has w G := fun b o e => hw b o (hl b o e)
  have hM0 : ∀ g, M g → G g = none := fun g hg => by
    cases hq : G g with
    | none => rfl
    | some o => have := hl g o hq; rw [hM g hg] at this; cases this
  refine (h l A B hy w Z M hw0 hA hM0).mono ?_
  rintro e w' ⟨v, G1, Y, Z', M', rfl, hr, hh, hold, hm, hY, hφ⟩
  refine ⟨v, fun b => if b < w.heap.size then G' b else G1 b, Y, Z', M', rfl, hr, ?_, ?_, ?_, hY, hφ⟩
  · intro b o e
    simp only at e
    split at e
    · rename_i hb
      have hnm : ¬ M b := fun q => by rw [hM b q] at e; cases e
      rw [hr.same b hb hnm]
      exact hw b o e
    · exact hh b o e
  · intro b hb
    simp only [hb, if_true]
  · intro g hg
    simp only
    split
    · rename_i hb
      rcases hr.m g hg with q | q
      · exact hM g q
      · omega
    · exact hm g hg

section
variable {C : Ctx} {K : List KI} {s : St} {R : Array Oper} {l : List Oper} {d : Option Tmp} {t : TypeId} {pos : String} {aft : Array Edge} {v : Value}

theorem go_known {P : Prop} (h : ∀ a w, Sat C s a w → P) (h' : P → SGo C K s) : SGo C K s := fun a w hS => h' (h a w hS) a w hS

theorem go_new0 (k : Nat) {b g : Nat} {o : OO} (hk : lk k s.own = some (b, o)) (hg : o.mut b g) (h : s.G g = none → SGo C K s) : SGo C K s :=
  go_known (fun _ _ hS => ((hS.mem.own _ _ _ hk).2 g hg).1) h

theorem go_rekey (i j : Nat) {b : Nat} {o : OO} (hi : lk i s.own = some (b, o)) (hj : lk j s.own = none) (hmi : C.mh ≤ i) (hmj : C.mh ≤ j) (h : SGo C K ⟨s.sl, stk j (b, o) (rmk i s.own), s.G, s.df⟩) : SGo C K s := by
  intro a w hS
  refine h a w ⟨hS.sl, hS.nt, hS.df, ?_⟩
  have key : ∀ k c x, lk k (stk j (b, o) (rmk i s.own)) = some (c, x) → ∃ k', lk k' s.own = some (c, x) ∧ (k = j ∧ k' = i ∨ k ≠ j ∧ k' = k ∧ k ≠ i) := by
    intro k c x e
    rw [lk_stk] at e
    split at e
    · rename_i q; cases e; exact ⟨i, hi, .inl ⟨q, rfl⟩⟩
    · rename_i q
      rw [lk_rmk] at e
      split at e
      · cases e
      · rename_i q2; exact ⟨k, e, .inr ⟨q, rfl, q2⟩⟩
  refine ⟨fun k c x e => ?_, fun k k' c c' x x' g e e' f f' => ?_, hS.mem.grow⟩
  · obtain ⟨k', e1, hk⟩ := key k c x e
    obtain ⟨f1, f2⟩ := hS.mem.own _ _ _ e1
    refine ⟨f1, fun g hg => ?_⟩
    obtain ⟨q1, q2, q3⟩ := f2 g hg
    rcases hk with ⟨rfl, rfl⟩ | ⟨_, rfl, _⟩
    · exact ⟨q1, fun _ => q2 hmi, fun q => by omega⟩
    · exact ⟨q1, q2, q3⟩
  · obtain ⟨k1, e1, hk1⟩ := key k c x e
    obtain ⟨k2, e2, hk2⟩ := key k' c' x' e'
    have := hS.mem.inj _ _ _ _ _ _ g e1 e2 f f'
    rcases hk1 with ⟨rfl, rfl⟩ | ⟨_, rfl, h3⟩ <;> rcases hk2 with ⟨rfl, rfl⟩ | ⟨_, rfl, h4⟩
    · rfl
    · exact absurd this.symm h4
    · exact absurd this h3
    · exact this

theorem go_callw {g : Operand} {f : FuncId} {cap : List Value} {args : Array Operand} {tys : Array TypeId} {vs : List SV} {z : SV} {φ : Value → Hp → Prop} (hd : dOk C.nt d = true) (hf : canCall C.P f = true) (hg : ev s.sl g = some z) (hz : z.den = .func (.func f) #[] cap.toArray) (ha : evs s.sl args.toList = some vs) (hc : Pure C.P f (dens vs ++ cap) s.G φ)
    (h : ∀ v G', Le s.G G' → φ v G' → SGo C (.ops R l :: K) ⟨putS d (rv v) s.sl, s.own, G', s.df⟩) : SGo C (.ops R (⟨d, .call ⟨.value g, args, tys⟩, t, pos, aft, none⟩ :: l) :: K) s := by
  intro a w hS
  have hargs : args.map a.eval = (dens vs).toArray := by apply Array.ext'; rw [Array.toList_map]; exact evs_ok hS.sl ha
  have hgv := ev_ok hS.sl hg
  rw [hz] at hgv
  have hrun : (execOp a.eval ⟨d, .call ⟨.value g, args, tys⟩, t, pos, aft, none⟩).run C.P w = .ok (.enter f (dens vs ++ cap).toArray) w := by
    simp only [execOp, resolve, hargs, hgv, Deferred.ofValue, Sem.run_bind, Sem.run_pure, Result.andThen_ok, invoke]
    simp [callFunc_ok hf]
  refine K_enter rfl hrun ((hc w hS.mem.has).mono ?_)
  rintro e w' ⟨v, G', rfl, hg', hφ⟩
  have hle : Le s.G G' := fun b o e => hg'.keep hS.mem.has e
  have hS' := hS.put hd (rv v) (hS.mem.call hg')
  rw [rv_den] at hS'
  exact ⟨_, rfl, h v G' hle hφ _ _ hS'⟩
end
end Go.Sx
namespace Go.Sx
set_option linter.unusedSimpArgs false
set_option linter.unusedVariables false
open Go.RowKit


structure Rp (α : Type) where
  size : Nat
  e : Hp → α → List Value → Prop
  mono : ∀ {G G' x cs}, Le G G' → e G x cs → e G' x cs
  len : ∀ {G x cs}, e G x cs → cs.length = size
  one : ∀ {G x cs}, e G x cs → ∀ u ∈ cs, u.oneCell' = true

section
variable {α : Type} (r : Rp α)

def Rp.L (G : Hp) : List α → List Value → Prop
  | [], cs => cs = []
  | x :: l, cs => ∃ c d, cs = c ++ d ∧ r.e G x c ∧ Rp.L G l d
def Rp.S (G : Hp) (l : List α) (v : Value) : Prop :=
  l.length ≤ 9223372036854775807 ∧ ∃ ad cap, v = .slice ad l.length cap ∧ (l = [] ∨ ∃ b off cs, ad = some ⟨b, off, none⟩ ∧ At G b off cs ∧ r.L G l cs)
variable {r} {G G' : Hp}
theorem Rp.L_mono (hl : Le G G') : ∀ {l : List α} {cs : List Value}, r.L G l cs → r.L G' l cs
  | [], _, h => h
  | x :: l, cs, h => by
    obtain ⟨c, d, h1, h2, h3⟩ := h
    exact ⟨c, d, h1, r.mono hl h2, Rp.L_mono hl h3⟩
theorem Rp.S_mono (hl : Le G G') {l : List α} {v : Value} (h : r.S G l v) : r.S G' l v := by
  obtain ⟨h3, ad, cap, h4, h5⟩ := h
  refine ⟨h3, ad, cap, h4, ?_⟩
  rcases h5 with h5 | ⟨b, off, cs, h5, h6, h7⟩
  · exact .inl h5
  · exact .inr ⟨b, off, cs, h5, h6.mono hl, Rp.L_mono hl h7⟩
theorem Rp.S_slice {l : List α} {v : Value} (h : r.S G l v) : ∃ ad cap, v = .slice ad l.length cap := by
  obtain ⟨_, ad, cap, h, _⟩ := h; exact ⟨ad, cap, h⟩
theorem Rp.S_len {l : List α} {v : Value} (h : r.S G l v) : l.length ≤ 9223372036854775807 := h.1
theorem Rp.S_nil (ad : Option Addr) (cap : Nat) : r.S G [] (.slice ad 0 cap) := ⟨by simp, ad, cap, rfl, .inl rfl⟩
theorem Rp.L_len : ∀ {l : List α} {cs : List Value}, r.L G l cs → cs.length = l.length * r.size
  | [], cs, h => by have h : cs = [] := h; simp [h]
  | x :: l, cs, h => by
    obtain ⟨c, d, rfl, h2, h3⟩ := h
    have := Rp.L_len h3
    have := r.len h2
    simp only [List.length_cons, List.length_append, Nat.succ_mul]; omega
theorem Rp.L_one : ∀ {l : List α} {cs : List Value}, r.L G l cs → ∀ u ∈ cs, u.oneCell' = true
  | [], cs, h => by have h : cs = [] := h; simp [h]
  | x :: l, cs, h => by
    obtain ⟨c, d, rfl, h2, h3⟩ := h
    intro u hu
    rcases List.mem_append.1 hu with hu | hu
    · exact r.one h2 u hu
    · exact Rp.L_one h3 u hu
theorem Rp.L_append : ∀ {l l' : List α} {cs cs' : List Value}, r.L G l cs → r.L G l' cs' → r.L G (l ++ l') (cs ++ cs')
  | [], l', cs, cs', h, h' => by have h : cs = [] := h; subst h; simpa using h'
  | x :: l, l', cs, cs', h, h' => by
    obtain ⟨c, d, rfl, h2, h3⟩ := h
    exact ⟨c, d ++ cs', by simp, h2, Rp.L_append h3 h'⟩
theorem Rp.L_single {x : α} {cs : List Value} (h : r.e G x cs) : r.L G [x] cs := ⟨cs, [], by simp, h, rfl⟩
theorem Rp.L_drop : ∀ {l : List α} {cs : List Value} (i : Nat), r.L G l cs → r.L G (l.drop i) (cs.drop (i * r.size))
  | l, cs, 0, h => by simpa using h
  | [], cs, i + 1, h => by have h : cs = [] := h; subst h; simp [Rp.L]
  | x :: l, cs, i + 1, h => by
    obtain ⟨c, d, rfl, h2, h3⟩ := h
    have := Rp.L_drop i h3
    have hc := r.len h2
    have e : (c ++ d).drop ((i + 1) * r.size) = d.drop (i * r.size) := by rw [Nat.succ_mul, Nat.add_comm, ← hc, List.drop_length_add_append]
    rw [e]
    simpa using this
theorem Rp.L_take : ∀ {l : List α} {cs : List Value} (i : Nat), r.L G l cs → r.L G (l.take i) (cs.take (i * r.size))
  | l, cs, 0, h => by simp [Rp.L]
  | [], cs, i + 1, h => by have h : cs = [] := h; subst h; simp [Rp.L]
  | x :: l, cs, i + 1, h => by
    obtain ⟨c, d, rfl, h2, h3⟩ := h
    have := Rp.L_take i h3
    have hc := r.len h2
    refine ⟨c, d.take (i * r.size), ?_, h2, this⟩
    rw [Nat.succ_mul, Nat.add_comm, ← hc, List.take_length_add_append]
theorem Rp.L_get {l : List α} {cs : List Value} (h : r.L G l cs) {i : Nat} (hi : i < l.length) : ∃ c, (cs.drop (i * r.size)).take r.size = c ∧ r.e G l[i] c := by
  have h1 := Rp.L_drop i h
  rw [List.drop_eq_getElem_cons hi] at h1
  obtain ⟨c, d, h2, h3, _⟩ := h1
  refine ⟨c, ?_, h3⟩
  rw [h2, ← r.len h3, List.take_left]
theorem Rp.at_get {l : List α} {cs : List Value} {b off : Nat} (ha : At G b off cs) (h : r.L G l cs) {i : Nat} (hi : i < l.length) : ∃ c, At G b (off + i * r.size) c ∧ r.e G l[i] c := by
  obtain ⟨c, h1, h2⟩ := Rp.L_get h hi
  have hlen := Rp.L_len h
  have h3 := ha.sub (i * r.size) r.size (by rw [hlen]; have := Nat.mul_le_mul_right r.size (show i + 1 ≤ l.length from hi); rw [Nat.succ_mul] at this; omega)
  rw [h1] at h3
  exact ⟨c, h3, h2⟩
theorem Rp.S_get {l : List α} {v : Value} (h : r.S G l v) {i : Nat} (hi : i < l.length) : ∃ b off cap c, v = .slice (some ⟨b, off, none⟩) l.length cap ∧ At G b (off + i * r.size) c ∧ r.e G l[i] c := by
  obtain ⟨_, ad, cap, rfl, h | ⟨b, off, cs, rfl, ha, hL⟩⟩ := h
  · subst h; simp at hi
  · obtain ⟨c, h1, h2⟩ := Rp.at_get ha hL hi
    exact ⟨b, off, cap, c, rfl, h1, h2⟩
theorem lay_0 : ∀ (vs z x : List Value), z.length = vs.length → lay (z ++ x) 0 vs = some (vs ++ x)
  | [], z, x, h => by have := List.length_eq_zero_iff.1 h; subst this; simp [lay]
  | v :: vs, [], x, h => by simp at h
  | v :: vs, y :: z, x, h => by
    simp only [List.cons_append, lay]
    rw [lay_0 vs z x (by simpa using h)]
    rfl
theorem lay_m : ∀ (y vs z x : List Value), z.length = vs.length → lay (y ++ (z ++ x)) y.length vs = some (y ++ (vs ++ x))
  | [], vs, z, x, h => by simpa using lay_0 vs z x h
  | u :: y, vs, z, x, h => by
    have := lay_m y vs z x h
    cases vs with
    | nil => have := List.length_eq_zero_iff.1 h; subst this; simp [lay]
    | cons v vs =>
      simp only [List.cons_append, List.length_cons, lay]
      rw [this]
      rfl
theorem lay_put {xs c : List Value} {m : Nat} (h : m + c.length ≤ xs.length) : lay xs m c = some (xs.take m ++ c ++ xs.drop (m + c.length)) := by
  have h0 : xs = xs.take m ++ ((xs.drop m).take c.length ++ xs.drop (m + c.length)) := by
    rw [← List.drop_drop, List.take_append_drop, List.take_append_drop]
  have h1 : m = (xs.take m).length := by rw [List.length_take]; omega
  have h2 := lay_m (xs.take m) c ((xs.drop m).take c.length) (xs.drop (m + c.length)) (by simp; omega)
  rw [← h1, ← h0] at h2
  rw [h2, List.append_assoc]
theorem Rp.src {l : List α} {ad : Option Addr} {cap : Nat} (h : l = [] ∨ ∃ b off cs, ad = some ⟨b, off, none⟩ ∧ At G b off cs ∧ r.L G l cs) :
    ∃ cs, r.L G l cs ∧ ((∃ c, (SV.v (.slice ad l.length cap)).den = .slice none 0 c ∧ l.length = 0 ∧ cs = []) ∨ ∀ (C : Ctx) (s : St), s.G = G → Src C s (.v (.slice ad l.length cap)) l.length cs) := by
  rcases h with rfl | ⟨b, off, cs, rfl, ha, hr⟩
  · refine ⟨[], by simp [Rp.L], ?_⟩
    cases ad with
    | none => exact .inl ⟨cap, rfl, rfl, rfl⟩
    | some a => exact .inr fun _ _ _ => src_empty rfl
  · exact ⟨cs, hr, .inr fun _ s hs => src_at (by rw [hs]; exact ha)⟩

variable {C : Ctx} {K : List KI} {s : St} {R : Array Oper} {l : List Oper} {d : Option Tmp} {t : TypeId} {pos : String} {aft : Array Edge} {v : Value}

theorem go_pubL (r : Rp α) (k : Nat) {b n : Nat} {e : TypeId} {v : Value} {xs : List Value} {ts : List α} (hk : lk k s.own = some (b, .row v e r.size n xs)) (hmh : C.mh ≤ k) (hn : n = ts.length) (h63 : n ≤ 9223372036854775807) (hr : r.L s.G ts xs)
    (h : ∀ G' ad cap, Le s.G G' → v = .slice ad ts.length cap → r.S G' ts (.slice ad ts.length cap) → SGo C K ⟨s.sl, rmk k s.own, G', s.df⟩) : SGo C K s := by
  subst hn
  refine go_rowcases k hk (fun hv hn0 hx => ?_) (fun g cap hv hc hl => ?_)
  · have h0 : ts = [] := List.length_eq_zero_iff.1 hn0
    refine go_drop k (h s.G none 0 (Le.refl _) (by rw [hv, h0]; rfl) ⟨h63, none, 0, rfl, .inl h0⟩)
  · subst hv
    refine go_pubrow k hk hmh ?_
    intro G' hle hat
    exact h G' _ _ hle rfl ⟨h63, _, _, rfl, .inr ⟨g, 0, xs, rfl, hat, Rp.L_mono hle hr⟩⟩
end

def rI : Rp Int where
  size := 1
  e _ n cs := cs = [.int .i64 n] ∧ isI64 n
  mono _ h := h
  len h := by rw [h.1]; rfl
  one h u hu := by rw [h.1] at hu; simp at hu; subst hu; rfl
theorem rI_L {G : Hp} : ∀ {l : List Int} {cs : List Value}, rI.L G l cs ↔ cs = l.map (.int .i64 ·) ∧ ∀ n ∈ l, isI64 n
  | [], cs => by simp [Rp.L]
  | x :: l, cs => by
    constructor
    · rintro ⟨c, d, rfl, ⟨rfl, h1⟩, h2⟩
      obtain ⟨rfl, h3⟩ := rI_L.1 h2
      exact ⟨by simp, by simpa using ⟨h1, h3⟩⟩
    · rintro ⟨rfl, h⟩
      exact ⟨[.int .i64 x], _, by simp, ⟨rfl, h x (by simp)⟩, rI_L.2 ⟨rfl, fun n hn => h n (by simp [hn])⟩⟩


abbrev Lds := List (Nat × OO)
structure Lent (ow : Lds) (G : Hp) (w : World) : Prop where
  own : ∀ (i b : Nat) (o : OO), ow[i]? = some (b, o) → o.holds 0 w b ∧ ∀ g, o.mut b g → G g = none
  inj : ∀ (i j b b' : Nat) (o o' : OO) (g : Nat), ow[i]? = some (b, o) → ow[j]? = some (b', o') → o.blks b g → o'.blks b' g → i = j
def mutOf (ow : Lds) (g : Nat) : Prop := ∃ (i b : Nat) (o : OO), ow[i]? = some (b, o) ∧ o.mut b g
section
variable {C : Ctx} {K : List KI} {s : St} {R : Array Oper} {l : List Oper} {d : Option Tmp} {t : TypeId} {pos : String} {aft : Array Edge} {v : Value}

def lkAll (own : Owns) : List Nat → Option Lds
  | [] => some []
  | k :: ks => match lk k own with
    | some x => match lkAll own ks with
      | some l => some (x :: l)
      | none => none
    | none => none
def noDup : List Nat → Bool
  | [] => true
  | k :: ks => !ks.contains k && noDup ks
theorem lkAll_get {own : Owns} : ∀ {ks : List Nat} {l : Lds}, lkAll own ks = some l → l.length = ks.length ∧ ∀ (i k : Nat), ks[i]? = some k → ∃ x, l[i]? = some x ∧ lk k own = some x
  | [], l, h => by simp only [lkAll, Option.some.injEq] at h; subst h; simp
  | k :: ks, l, h => by
    simp only [lkAll] at h
    cases h1 : lk k own with
    | none => rw [h1] at h; cases h
    | some x =>
      rw [h1] at h
      cases h2 : lkAll own ks with
      | none => rw [h2] at h; cases h
      | some l' =>
        rw [h2] at h
        simp only [Option.some.injEq] at h
        subst h
        obtain ⟨q1, q2⟩ := lkAll_get h2
        refine ⟨by simp [q1], fun i k' hi => ?_⟩
        cases i with
        | zero => simp at hi; subst hi; exact ⟨x, by simp, h1⟩
        | succ i => simp only [List.getElem?_cons_succ] at hi ⊢; exact q2 i k' hi
end
section
variable {C : Ctx} {K : List KI} {s : St} {R : Array Oper} {l : List Oper} {d : Option Tmp} {t : TypeId} {pos : String} {aft : Array Edge}
theorem go_gundef {op : Op} {j g : Nat} {want : Bool} (hj : (R[j]?).bind (·.dst) = some g) (hd : dOk C.nt d = true) (hu : lk g s.sl = some (.v undef))
    (h2 : SGo C (.ops R l :: K) ⟨putS d (.v undef) s.sl, s.own, s.G, s.df⟩) : SGo C (.ops R (⟨d, op, t, pos, aft, some (j, want)⟩ :: l) :: K) s := by
  intro a w hS
  have hy : yielded R a.tmps j = none := by
    have := hS.sl g _ hu
    simp [yielded, hj, this, SV.den, undef]
  simp only [wpK, wpListIn, Region.wanted, hy]
  have := h2 _ _ (hS.put hd (.v undef) hS.mem)
  simp only [wpK] at this
  rw [if_neg (by simp)]
  exact ⟨fun _ _ => trivial, this⟩
end
end Go.Sx
namespace Go.Sx
set_option linter.unusedSimpArgs false
set_option linter.unusedVariables false
open Go.RowKit
section
variable {C : Ctx} {K : List KI} {s : St} {R : Array Oper} {l : List Oper} {d : Option Tmp} {t : TypeId} {pos : String} {aft : Array Edge}
end
end Go.Sx
namespace Go.Sx
set_option linter.unusedSimpArgs false
set_option linter.unusedVariables false
open Go.RowKit
section
variable {C : Ctx} {K : List KI} {s : St} {R : Array Oper} {l : List Oper} {d : Option Tmp} {t : TypeId} {pos : String} {aft : Array Edge}
end
end Go.Sx
namespace Go.Sx
set_option linter.unusedSimpArgs false
set_option linter.unusedVariables false
open Go.RowKit

structure Rw where
  e : TypeId
  size : Nat
  v : Value
  n : Nat
  xs : List Value
def Rw.nil (e : TypeId) (size : Nat) : Rw := ⟨e, size, .slice none 0 0, 0, []⟩

theorem ownsRow_same {w w' : World} {base : Nat} {e : TypeId} {size n : Nat} {v : Value} {xs : List Value} (h : w.ownsRow base e size v n xs) (hs : ∀ g, v.ownBlock = some g → w'.heap[g]? = w.heap[g]?) : w'.ownsRow base e size v n xs := by
  refine ⟨h.1, ?_⟩
  rcases h.2 with h2 | ⟨g, cap, cur, rfl, hb, hg, rest⟩
  · exact .inl h2
  · exact .inr ⟨g, cap, cur, rfl, hb, by rw [hs g rfl]; exact hg, rest⟩
theorem ownsRow_nil (w : World) (e : TypeId) (size : Nat) : w.ownsRow 0 e size (.slice none 0 0) 0 [] := ⟨by simp, .inl ⟨rfl, rfl⟩⟩

def ZR (rs : List Rw) : Zn where
  A Z M w := (∀ (i : Nat) (r : Rw), rs[i]? = some r → w.ownsRow 0 r.e r.size r.v r.n r.xs) ∧ (∀ (i j : Nat) (r r' : Rw) (g : Nat), rs[i]? = some r → rs[j]? = some r' → r.v.ownBlock = some g → r'.v.ownBlock = some g → i = j) ∧
    (∀ g, Z g ↔ ∃ (i : Nat) (r : Rw), rs[i]? = some r ∧ r.v.ownBlock = some g) ∧ (∀ g, M g → Z g)
  lt Z M w h g hg := by
    obtain ⟨i, r, e, hb⟩ := (h.2.2.1 g).1 hg
    exact ((h.1 i r e).lt g hb).2
  sub Z M w h := h.2.2.2
  st Z M w w' h _ hs := ⟨fun i r e => ownsRow_same (h.1 i r e) fun g hg => hs g ((h.2.2.1 g).2 ⟨i, r, e, hg⟩), h.2⟩

def RowAt (G : Hp) (r : Rw) : Prop := (r.v = .slice none 0 0 ∧ r.n = 0 ∧ r.xs = []) ∨ ∃ g cap, r.v = .slice (some ⟨g, 0, none⟩) r.n cap ∧ At G g 0 r.xs
theorem RowAt.mono {G G' : Hp} {r : Rw} (h : RowAt G r) (hl : Le G G') : RowAt G' r := by
  rcases h with h | ⟨g, cap, h1, h2⟩
  · exact .inl h
  · exact .inr ⟨g, cap, h1, h2.mono hl⟩
theorem RowAt.S {α : Type} {G : Hp} {rp : Rp α} {e : TypeId} {size n : Nat} {v : Value} {xs : List Value} {ts : List α} (h : RowAt G ⟨e, size, v, n, xs⟩) (hn : n = ts.length) (h63 : n ≤ 9223372036854775807) (hL : rp.L G ts xs) : rp.S G ts v := by
  subst hn
  rcases h with ⟨h1, h2, h3⟩ | ⟨g, cap, h1, h2⟩
  · simp only at h1 h2
    subst h1
    have := List.length_eq_zero_iff.1 h2
    subst this
    exact Rp.S_nil _ _
  · simp only at h1 h2
    subst h1
    exact ⟨h63, _, _, rfl, .inr ⟨_, _, _, rfl, h2, hL⟩⟩
theorem row_at {w : World} {G : Hp} {r : Rw} (h : w.ownsRow 0 r.e r.size r.v r.n r.xs) (hG : ∀ g, r.v.ownBlock = some g → G g = w.heap[g]?) : RowAt G r := by
  obtain ⟨e, size, v, n, xs⟩ := r
  simp only at h hG
  rcases h.2 with ⟨h1, h2⟩ | ⟨g, cap, cur, rfl, rest⟩
  · refine .inl ⟨h1, h2, ?_⟩
    have := h.1
    simp only at this ⊢
    exact List.eq_nil_of_length_eq_zero (by rw [this, h2]; simp)
  · obtain ⟨x, hx, hat⟩ := row_block h
    exact .inr ⟨g, cap, rfl, hat G (by rw [hG g rfl]; exact hx)⟩

section
variable {C : Ctx} {K : List KI} {s : St} {R : Array Oper} {l : List Oper} {d : Option Tmp} {t : TypeId} {pos : String} {aft : Array Edge} {v : Value}

theorem Mem.split {own : Owns} {G : Hp} {w : World} (h : Mem C own G w) {k j b b1 b2 : Nat} {o o1 o2 : OO} (hk : lk k own = some (b, o)) (hj : lk j own = none) (hmk : C.mh ≤ k) (hmj : C.mh ≤ j)
    (h1 : o1.holds C.w0.heap.size w b1) (h2 : o2.holds C.w0.heap.size w b2) (hb1 : ∀ g, o1.blks b1 g → o.blks b g) (hb2 : ∀ g, o2.blks b2 g → o.blks b g) (hd : ∀ g, o1.blks b1 g → o2.blks b2 g → False)
    (hm1 : ∀ g, o1.mut b1 g → o.mut b g) (hm2 : ∀ g, o2.mut b2 g → o.mut b g) : Mem C (stk j (b2, o2) (stk k (b1, o1) own)) G w := by
  obtain ⟨_, f⟩ := h.own _ _ _ hk
  have hkj : k ≠ j := by rintro rfl; rw [hj] at hk; cases hk
  have hl : ∀ {i c x}, lk i (stk j (b2, o2) (stk k (b1, o1) own)) = some (c, x) → (i = j ∧ c = b2 ∧ x = o2) ∨ (i = k ∧ c = b1 ∧ x = o1) ∨ (i ≠ j ∧ i ≠ k ∧ lk i own = some (c, x)) := by
    intro i c x e
    rw [lk_stk] at e
    split at e
    · cases e; exact .inl ⟨by assumption, rfl, rfl⟩
    · rw [lk_stk] at e
      split at e
      · cases e; exact .inr (.inl ⟨by assumption, rfl, rfl⟩)
      · exact .inr (.inr ⟨by assumption, by assumption, e⟩)
  refine ⟨fun i c x e => ?_, fun i i' c c' x x' g e e' q q' => ?_, h.grow⟩
  · rcases hl e with ⟨rfl, rfl, rfl⟩ | ⟨rfl, rfl, rfl⟩ | ⟨_, _, e⟩
    · refine ⟨h2, fun g hg => ?_⟩
      obtain ⟨f1, f2, _⟩ := f g (hm2 g hg)
      exact ⟨f1, fun _ => f2 hmk, fun q => by omega⟩
    · exact ⟨h1, fun g hg => f g (hm1 g hg)⟩
    · exact h.own _ _ _ e
  · rcases hl e with ⟨rfl, rfl, rfl⟩ | ⟨rfl, rfl, rfl⟩ | ⟨n1, n2, e0⟩ <;> rcases hl e' with ⟨e1, e2, e3⟩ | ⟨e1, e2, e3⟩ | ⟨n3, n4, e0'⟩
    · exact e1.symm
    · subst e1 e2 e3; exact (hd g q' q).elim
    · exact absurd (h.inj _ _ _ _ _ _ g e0' hk q' (hb2 g q)) n4
    · subst e1 e2 e3; exact (hd g q q').elim
    · exact e1.symm
    · exact absurd (h.inj _ _ _ _ _ _ g e0' hk q' (hb1 g q)) n4
    · subst e1 e2 e3; exact absurd (h.inj _ _ _ _ _ _ g e0 hk q (hb2 g q')) n2
    · subst e1 e2 e3; exact absurd (h.inj _ _ _ _ _ _ g e0 hk q (hb1 g q')) n2
    · exact h.inj _ _ _ _ _ _ g e0 e0' q q'

theorem Mem.join {own : Owns} {G : Hp} {w : World} (h : Mem C own G w) {k j b b1 b2 : Nat} {o o1 o2 : OO} (hk : lk k own = some (b1, o1)) (hj : lk j own = some (b2, o2)) (hmk : C.mh ≤ k) (hmj : C.mh ≤ j) (hkj : k ≠ j)
    (ho : o.holds C.w0.heap.size w b) (hb : ∀ g, o.blks b g → o1.blks b1 g ∨ o2.blks b2 g) (hm : ∀ g, o.mut b g → o1.mut b1 g ∨ o2.mut b2 g) : Mem C (stk k (b, o) (rmk j own)) G w := by
  obtain ⟨_, f1⟩ := h.own _ _ _ hk
  obtain ⟨_, f2⟩ := h.own _ _ _ hj
  have hl : ∀ {i c x}, lk i (stk k (b, o) (rmk j own)) = some (c, x) → (i = k ∧ c = b ∧ x = o) ∨ (i ≠ k ∧ i ≠ j ∧ lk i own = some (c, x)) := by
    intro i c x e
    rw [lk_stk] at e
    split at e
    · cases e; exact .inl ⟨by assumption, rfl, rfl⟩
    · rw [lk_rmk] at e
      split at e
      · cases e
      · exact .inr ⟨by assumption, by assumption, e⟩
  refine ⟨fun i c x e => ?_, fun i i' c c' x x' g e e' q q' => ?_, h.grow⟩
  · rcases hl e with ⟨rfl, rfl, rfl⟩ | ⟨_, _, e⟩
    · refine ⟨ho, fun g hg => ?_⟩
      rcases hm g hg with q | q
      · exact f1 g q
      · obtain ⟨q1, q2, _⟩ := f2 g q
        exact ⟨q1, fun _ => q2 hmj, fun q => by omega⟩
    · exact h.own _ _ _ e
  · have key : ∀ {i c x}, i ≠ k → i ≠ j → lk i own = some (c, x) → x.blks c g → o.blks b g → False := by
      intro i c x n1 n2 e q q'
      rcases hb g q' with q2 | q2
      · exact n1 (h.inj _ _ _ _ _ _ g e hk q q2)
      · exact n2 (h.inj _ _ _ _ _ _ g e hj q q2)
    rcases hl e with ⟨rfl, rfl, rfl⟩ | ⟨n1, n2, e0⟩ <;> rcases hl e' with ⟨e1, e2, e3⟩ | ⟨n3, n4, e0'⟩
    · exact e1.symm
    · exact (key n3 n4 e0' q' q).elim
    · subst e1 e2 e3; exact (key n1 n2 e0 q q').elim
    · exact h.inj _ _ _ _ _ _ g e0 e0' q q'

theorem go_ztake (k j i : Nat) {b : Nat} {rs : List Rw} {Z : Nat → Prop} {r : Rw} (hk : lk k s.own = some (b, .z (ZR rs) Z Z)) (hi : rs[i]? = some r) (hj : lk j s.own = none) (hmk : C.mh ≤ k) (hmj : C.mh ≤ j)
    (h : ∀ Z', SGo C K ⟨s.sl, stk j (0, .row r.v r.e r.size r.n r.xs) (stk k (b, .z (ZR (rs.set i (Rw.nil r.e r.size))) Z' Z') s.own), s.G, s.df⟩) : SGo C K s := by
  intro a w hS
  obtain ⟨z1, z2, z3, z4⟩ := (hS.mem.own _ _ _ hk).1
  have hlt : i < rs.length := (List.getElem?_eq_some_iff.1 hi).1
  have hget : ∀ {m r'}, (rs.set i (Rw.nil r.e r.size))[m]? = some r' → (m = i ∧ r' = Rw.nil r.e r.size) ∨ (m ≠ i ∧ rs[m]? = some r') := by
    intro m r' e
    by_cases q : i = m
    · subst q; rw [List.getElem?_set_self hlt] at e; cases e; exact .inl ⟨rfl, rfl⟩
    · rw [List.getElem?_set_ne q] at e; exact .inr ⟨fun q' => q q'.symm, e⟩
  refine h (fun g => Z g ∧ r.v.ownBlock ≠ some g) a w ⟨hS.sl, hS.nt, hS.df, hS.mem.split hk hj hmk hmj ?_ (z1 i r hi) (fun g hg => hg.1) (fun g hg => (z3 g).2 ⟨i, r, hi, hg⟩) (fun g hg hg' => hg.2 hg') (fun g hg => hg.1) (fun g hg => (z3 g).2 ⟨i, r, hi, hg⟩)⟩
  refine ⟨fun m r' e => ?_, fun m m' r1 r2 g e e' q q' => ?_, fun g => ⟨fun hg => ?_, fun hg => ?_⟩, fun g hg => hg⟩
  · rcases hget e with ⟨_, rfl⟩ | ⟨_, e⟩
    · exact ownsRow_nil _ _ _
    · exact z1 m r' e
  · rcases hget e with ⟨_, rfl⟩ | ⟨n1, e⟩
    · cases q
    · rcases hget e' with ⟨_, rfl⟩ | ⟨n2, e'⟩
      · cases q'
      · exact z2 m m' r1 r2 g e e' q q'
  · obtain ⟨m, r', e, q⟩ := (z3 g).1 hg.1
    have hm : m ≠ i := by rintro rfl; rw [hi] at e; cases e; exact hg.2 q
    exact ⟨m, r', by rw [List.getElem?_set, if_neg (Ne.symm hm)]; exact e, q⟩
  · obtain ⟨m, r', e, q⟩ := hg
    rcases hget e with ⟨_, rfl⟩ | ⟨n1, e⟩
    · cases q
    · exact ⟨(z3 g).2 ⟨m, r', e, q⟩, fun q' => n1 (z2 m i r' r g e hi q q')⟩

theorem zput {rs : List Rw} {Z : Nat → Prop} {w : World} (hz : (ZR rs).A Z Z w) {i : Nat} {r : Rw} (hr : w.ownsRow 0 r.e r.size r.v r.n r.xs) (hdis : ∀ g, Z g → r.v.ownBlock ≠ some g) {rs' : List Rw}
    (hget : ∀ {m r'}, rs'[m]? = some r' → (m = i ∧ r' = r) ∨ (m ≠ i ∧ rs[m]? = some r')) (hold : ∀ {m r'}, rs[m]? = some r' → m ≠ i ∨ r'.v.ownBlock = none) (hin : rs'[i]? = some r) (hkeep : ∀ {m r'}, m ≠ i → rs[m]? = some r' → rs'[m]? = some r') :
    (ZR rs').A (fun g => Z g ∨ r.v.ownBlock = some g) (fun g => Z g ∨ r.v.ownBlock = some g) w := by
  obtain ⟨z1, z2, z3, z4⟩ := hz
  refine ⟨fun m r' e => ?_, fun m m' r1 r2 g e e' q q' => ?_, fun g => ⟨fun hg => ?_, fun hg => ?_⟩, fun g hg => hg⟩
  · rcases hget e with ⟨_, rfl⟩ | ⟨_, e⟩
    · exact hr
    · exact z1 m r' e
  · rcases hget e with ⟨e1, rfl⟩ | ⟨n1, e⟩ <;> rcases hget e' with ⟨e1', e2'⟩ | ⟨n2, e'⟩
    · omega
    · exact absurd q (hdis g ((z3 g).2 ⟨_, _, e', q'⟩))
    · subst e2'; exact absurd q' (hdis g ((z3 g).2 ⟨_, _, e, q⟩))
    · exact z2 m m' r1 r2 g e e' q q'
  · rcases hg with hg | hg
    · obtain ⟨m, r', e, q⟩ := (z3 g).1 hg
      rcases hold e with n | n
      · exact ⟨m, r', hkeep n e, q⟩
      · rw [n] at q; cases q
    · exact ⟨i, r, hin, hg⟩
  · obtain ⟨m, r', e, q⟩ := hg
    rcases hget e with ⟨_, rfl⟩ | ⟨_, e⟩
    · exact .inr q
    · exact .inl ((z3 g).2 ⟨m, r', e, q⟩)

theorem go_zgive (k j i : Nat) {b b2 size n : Nat} {e : TypeId} {xs : List Value} {rs : List Rw} {Z : Nat → Prop} {r0 : Rw} {u : Value} (hk : lk k s.own = some (b, .z (ZR rs) Z Z)) (hi : rs[i]? = some r0) (hr0 : r0.v.ownBlock = none) (hj : lk j s.own = some (b2, .row u e size n xs)) (hmk : C.mh ≤ k) (hmj : C.mh ≤ j) (hkj : k ≠ j)
    (h : ∀ Z', SGo C K ⟨s.sl, stk k (b, .z (ZR (rs.set i ⟨e, size, u, n, xs⟩)) Z' Z') (rmk j s.own), s.G, s.df⟩) : SGo C K s := by
  intro a w hS
  have hz := (hS.mem.own _ _ _ hk).1
  have hrow := (hS.mem.own _ _ _ hj).1
  have hlt : i < rs.length := (List.getElem?_eq_some_iff.1 hi).1
  have hdis : ∀ g, Z g → u.ownBlock ≠ some g := fun g hg q => hkj (hS.mem.inj _ _ _ _ _ _ g hk hj hg q)
  refine h _ a w ⟨hS.sl, hS.nt, hS.df, hS.mem.join hk hj hmk hmj hkj (zput (i := i) (r := ⟨e, size, u, n, xs⟩) hz hrow hdis ?_ ?_ ?_ ?_) (fun g hg => hg) (fun g hg => hg)⟩
  · intro m r' e'
    by_cases q : i = m
    · subst q; rw [List.getElem?_set_self hlt] at e'; cases e'; exact .inl ⟨rfl, rfl⟩
    · rw [List.getElem?_set_ne q] at e'; exact .inr ⟨fun q' => q q'.symm, e'⟩
  · intro m r' e'
    by_cases hm : m = i
    · subst hm; rw [hi] at e'; cases e'; exact .inr hr0
    · exact .inl hm
  · rw [List.getElem?_set, if_pos rfl, if_pos hlt]
  · intro m r' hm e'
    rw [List.getElem?_set, if_neg (Ne.symm hm)]; exact e'

theorem go_zadd (k j : Nat) {b b2 size n : Nat} {e : TypeId} {xs : List Value} {rs : List Rw} {Z : Nat → Prop} {u : Value} (hk : lk k s.own = some (b, .z (ZR rs) Z Z)) (hj : lk j s.own = some (b2, .row u e size n xs)) (hmk : C.mh ≤ k) (hmj : C.mh ≤ j) (hkj : k ≠ j)
    (h : ∀ Z', SGo C K ⟨s.sl, stk k (b, .z (ZR (rs ++ [⟨e, size, u, n, xs⟩])) Z' Z') (rmk j s.own), s.G, s.df⟩) : SGo C K s := by
  intro a w hS
  have hz := (hS.mem.own _ _ _ hk).1
  have hrow := (hS.mem.own _ _ _ hj).1
  have hdis : ∀ g, Z g → u.ownBlock ≠ some g := fun g hg q => hkj (hS.mem.inj _ _ _ _ _ _ g hk hj hg q)
  refine h _ a w ⟨hS.sl, hS.nt, hS.df, hS.mem.join hk hj hmk hmj hkj (zput (i := rs.length) (r := ⟨e, size, u, n, xs⟩) hz hrow hdis ?_ ?_ ?_ ?_) (fun g hg => hg) (fun g hg => hg)⟩
  · intro m r' e'
    rcases Nat.lt_or_ge m rs.length with q | q
    · rw [List.getElem?_append_left q] at e'; exact .inr ⟨by omega, e'⟩
    · rw [List.getElem?_append_right q] at e'
      cases hm : m - rs.length with
      | zero => rw [hm] at e'; simp at e'; exact .inl ⟨by omega, e'.symm⟩
      | succ x => rw [hm] at e'; simp at e'
  · intro m r' e'
    have := (List.getElem?_eq_some_iff.1 e').1
    exact .inl (by omega)
  · simp
  · intro m r' hm e'
    rw [List.getElem?_append_left (List.getElem?_eq_some_iff.1 e').1]; exact e'

theorem go_znil (k : Nat) (hk : lk k s.own = none) (hmk : C.mh ≤ k) (h : ∀ Z, SGo C K ⟨s.sl, stk k (0, .z (ZR []) Z Z) s.own, s.G, s.df⟩) : SGo C K s := by
  intro a w hS
  refine h (fun _ => False) a w ⟨hS.sl, hS.nt, hS.df, hS.mem.new hk hmk rfl rfl rfl (Nat.le_refl _) (fun _ _ => rfl) ?_ (fun g hg => hg.elim)⟩
  exact ⟨fun i r e => by simp at e, fun i j r r' g e => by simp at e, fun g => ⟨fun q => q.elim, fun ⟨i, r, e, _⟩ => by simp at e⟩, fun g q => q⟩

theorem zlent {own : Owns} {G : Hp} {w : World} (h : Mem C own G w) {k b : Nat} {rs : List Rw} {Z : Nat → Prop} (hk : lk k own = some (b, .z (ZR rs) Z Z)) :
    ∃ G1 : Hp, Le G G1 ∧ Has w G1 ∧ (∀ (i : Nat) (r : Rw), rs[i]? = some r → RowAt G1 r) ∧ (∀ g, Z g → G1 g = w.heap[g]?) ∧ (∀ g, ¬ Z g → G1 g = G g) := by
  classical
  obtain ⟨hz, hm⟩ := h.own _ _ _ hk
  obtain ⟨z1, z2, z3, z4⟩ := hz
  refine ⟨fun g => if Z g then w.heap[g]? else G g, fun g o e => ?_, fun g o e => ?_, fun i r e => row_at (z1 i r e) fun g hg => ?_, fun g hg => by simp [hg], fun g hg => by simp [hg]⟩
  · have : ¬ Z g := fun q => by rw [(hm g q).1] at e; cases e
    simp [this, e]
  · simp only at e
    split at e
    · exact e
    · exact h.has g o e
  · simp [(z3 g).2 ⟨i, r, e, hg⟩]

theorem go_zpub (k : Nat) {b : Nat} {rs : List Rw} {Z : Nat → Prop} (hk : lk k s.own = some (b, .z (ZR rs) Z Z)) (hmk : C.mh ≤ k)
    (h : ∀ G', Le s.G G' → (∀ (i : Nat) (r : Rw), rs[i]? = some r → RowAt G' r) → SGo C K ⟨s.sl, rmk k s.own, G', s.df⟩) : SGo C K s := by
  intro a w hS
  obtain ⟨G1, l1, l2, l3, l4, l5⟩ := zlent hS.mem hk
  obtain ⟨hz, hm⟩ := hS.mem.own _ _ _ hk
  refine h G1 l1 l3 a w ⟨hS.sl, hS.nt, hS.df, ⟨fun j c x e => ?_, fun j j' c c' x x' g e e' q q' => ?_, ?_⟩⟩
  · rw [lk_rmk] at e
    split at e
    · cases e
    · rename_i hj
      obtain ⟨f1, f2⟩ := hS.mem.own _ _ _ e
      refine ⟨f1, fun g hg => ?_⟩
      obtain ⟨f3, f4⟩ := f2 g hg
      have : ¬ Z g := fun q => hj (hS.mem.inj _ _ _ _ _ _ g e hk (OO.mut_blks f1 hg) q)
      exact ⟨by show G1 g = none; rw [l5 g this]; exact f3, f4⟩
  · rw [lk_rmk] at e e'
    split at e
    · cases e
    · split at e'
      · cases e'
      · exact hS.mem.inj _ _ _ _ _ _ g e e' q q'
  · have hg := hS.mem.grow
    refine ⟨hg.os, hg.tape, hg.output, hg.size, hg.blk, l2, fun g hlt => ?_⟩
    have : ¬ Z g := fun q => by have := (hm g q).2.1 hmk; omega
    show G1 g = _
    rw [l5 g this]; exact hg.old g hlt

end
end Go.Sx
namespace Go.Sx
set_option linter.unusedSimpArgs false
set_option linter.unusedVariables false
open Go.RowKit
section
variable {C : Ctx} {sl : List (Nat × SV)} {own : Owns} {G : Hp}
end
end Go.Sx
namespace Go.Sx
set_option linter.unusedSimpArgs false
set_option linter.unusedVariables false
open Go.RowKit
section
variable {C : Ctx} {sl : List (Nat × SV)} {own : Owns} {G : Hp}
end
end Go.Sx
namespace Go.Sx
set_option linter.unusedSimpArgs false
set_option linter.unusedVariables false
open Go.RowKit

abbrev MEs := List (Int × Value × Nat)
def mEnt (kd : IntKind) (x : Int × Value × Nat) : MapEntry := ⟨.int kd x.1, x.2.1, x.2.2⟩
def mObj (kd : IntKind) (l : MEs) (c : Nat) : Obj := .map (l.map (mEnt kd)).toArray c
def mget (k : Int) : MEs → Option Value
  | [] => none
  | x :: l => if x.1 = k then some x.2.1 else mget k l
def mput (k : Int) (v : Value) (c : Nat) : MEs → MEs
  | [] => [(k, v, c)]
  | x :: l => if x.1 = k then (k, v, x.2.2) :: l else x :: mput k v c l
def mclk (k : Int) (c : Nat) (l : MEs) : Nat := if (mget k l).isSome then c else c + 1

theorem findNow_none {q kd : IntKind} {k : Int} : ∀ {l : MEs} (i : Nat), mget k l = none → Instr.findNow (.int q) (.int kd k) (l.map (mEnt kd)) i = some none
  | [], i, _ => by simp [Instr.findNow]
  | x :: l, i, h => by
    simp only [mget] at h
    split at h
    · cases h
    · rename_i hne
      have : (k == x.1) = false := by simp; omega
      simp only [List.map_cons, Instr.findNow, mEnt, Instr.sameNow, if_true, this]
      exact findNow_none (i + 1) h
theorem findNow_some {q kd : IntKind} {k : Int} {v : Value} : ∀ {l : MEs} (i : Nat), mget k l = some v → ∃ j b, Instr.findNow (.int q) (.int kd k) (l.map (mEnt kd)) i = some (some (i + j, v)) ∧ l[j]? = some (k, v, b) ∧ ∀ v' c, mput k v' c l = l.modify j fun x => (k, v', x.2.2)
  | [], i, h => by simp [mget] at h
  | x :: l, i, h => by
    simp only [mget] at h
    split at h
    · rename_i he
      cases h
      refine ⟨0, x.2.2, ?_, ?_, fun v' c => ?_⟩
      · have : (k == x.1) = true := by simp [he]
        simp only [List.map_cons, Instr.findNow, mEnt, Instr.sameNow, if_true, this, Nat.add_zero]
      · simp [← he]
      · simp [mput, he]
    · rename_i hne
      obtain ⟨j, b, h1, h2, h3⟩ := findNow_some (l := l) (q := q) (kd := kd) (i + 1) h
      refine ⟨j + 1, b, ?_, by simpa using h2, fun v' c => ?_⟩
      · have : (k == x.1) = false := by simp; omega
        simp only [List.map_cons, Instr.findNow, mEnt, Instr.sameNow, if_true, this]
        rw [show i + (j + 1) = i + 1 + j by omega]
        exact h1
      · simp [mput, hne, h3 v' c]

section
variable {P : Program} {w : World} {q kd : IntKind} {K E T : TypeId} {b c : Nat} {l : MEs} {z : Value} {k : Int}
theorem run_checkKey' (hK : P.underlying K = some (.int q)) (e : Bool) (d : Nat) (k : Int) : (Instr.checkKey e (d + 1) K (.int kd k)).run P w = .ok () w := by
  simp only [Instr.checkKey, Sem.run_bind, run_und w hK, Result.andThen_ok]
  simp
theorem run_checkKey (hK : P.underlying K = some (.int q)) (e : Bool) (k : Int) : (Instr.checkKey e 10000 K (.int kd k)).run P w = .ok () w := run_checkKey' hK e 9999 k
theorem run_mlookup (hT : P.underlying T = some (.map K E)) (hK : P.underlying K = some (.int q)) (hz : ∃ x, P.info? E = some x ∧ x.zero = some z) (hb : w.heap[b]? = some (mObj kd l c)) (k : Int) (ok : Bool) :
    (Instr.lookup T (.map (some b)) (.int kd k) ok).run P w = .ok (if ok then .tuple #[(mget k l).getD z, .bool (mget k l).isSome] else (mget k l).getD z) w := by
  obtain ⟨x, hx1, hx2⟩ := hz
  have hz' : (zeroValue E).run P w = .ok z w := by simp [zeroValue, typeInfo, hx1, hx2]
  simp only [Instr.lookup, Sem.run_bind, run_und w hT, Result.andThen_ok, Go.MapKept.run_getObj_map (show w.heap[b]? = some (.map (l.map (mEnt kd)).toArray c) from hb), Sem.run_pure, run_checkKey hK, Instr.findKey, run_und w hK]
  cases hm : mget k l with
  | none =>
    simp only [findNow_none (q := q) (kd := kd) 0 hm, Sem.run_pure, Result.andThen_ok, Sem.run_bind, hz']
    cases ok <;> simp
  | some v =>
    obtain ⟨j, b', h1, _, _⟩ := findNow_some (q := q) (kd := kd) 0 hm
    simp only [h1, Sem.run_pure, Result.andThen_ok]
    cases ok <;> simp
theorem mEnt_modify (l : MEs) (j : Nat) (k : Int) (v : Value) : (l.map (mEnt kd)).toArray.modify j (fun e => { e with key := .int kd k, val := v }) = ((l.modify j fun x => (k, v, x.2.2)).map (mEnt kd)).toArray := by
  apply Array.ext'
  simp only [Array.toList_modify]
  apply List.ext_getElem?
  intro i
  simp only [List.getElem?_modify, List.getElem?_map]
  by_cases h : j = i
  · subst h; cases l[j]? <;> simp [mEnt]
  · simp [h]
theorem mput_none {v : Value} : ∀ {l : MEs}, mget k l = none → mput k v c l = l ++ [(k, v, c)]
  | [], _ => rfl
  | x :: l, h => by
    simp only [mget] at h
    split at h
    · cases h
    · rename_i hne; simp [mput, hne, mput_none h]
theorem run_mupdate (hT : P.underlying T = some (.map K E)) (hK : P.underlying K = some (.int q)) (hb : w.heap[b]? = some (mObj kd l c)) (k : Int) (v : Value) :
    (Instr.mapUpdate T (.map (some b)) (.int kd k) v).run P w = .ok () (setBlk w b (mObj kd (mput k v c l) (mclk k c l))) := by
  have hb' : w.heap[b]? = some (.map (l.map (mEnt kd)).toArray c) := hb
  simp only [Instr.mapUpdate, Sem.run_bind, run_und w hT, Result.andThen_ok, Go.MapKept.run_getObj_map hb', run_checkKey hK, Instr.findKey, run_und w hK]
  cases hm : mget k l with
  | none =>
    simp only [findNow_none (q := q) (kd := kd) 0 hm, Sem.run_pure, Result.andThen_ok, Go.MapKept.run_setObj_map _ hb', mclk, hm, Option.isSome_none, Bool.false_eq_true, if_false, mput_none hm]
    simp [setBlk, mObj, mEnt]
  | some v0 =>
    obtain ⟨j, b', h1, h2, h3⟩ := findNow_some (q := q) (kd := kd) 0 hm
    have hkey : (((l.map (mEnt kd)).toArray[0 + j]?).map (·.key)).getD (.int kd k) = .int kd k := by
      rw [Nat.zero_add]; simp [h2, mEnt]
    have hsb : Instr.sameBits 10000 (.int kd k) (.int kd k) = true := by simp [Instr.sameBits]
    simp only [h1, Sem.run_pure, Result.andThen_ok, Sem.run_bind, hkey, Instr.keyThatStays, hsb, if_true, Go.MapKept.run_setObj_map _ hb', mclk, hm, Option.isSome_some, h3]
    rw [Nat.zero_add, mEnt_modify]
    rfl
end

section
variable {C : Ctx} {K : List KI} {s : St} {sl : List (Nat × SV)} {own : Owns} {G : Hp} {R : Array Oper} {l : List Oper} {d : Option Tmp} {t : TypeId} {pos : String} {aft : Array Edge} {sz by' sz2 by2 : Nat} {ze ze2 : List Value} {fl fl2 : List (Nat × Nat × Bool)} {q kd : IntKind} {T KT E : TypeId} {x i : Operand} {b b' c : Nat} {es : MEs} {n : Int} {z : Value}
theorem quiet_lookup (k : Nat) {ok : Bool} (hT : C.ty T = some ⟨.map KT E, sz, by', ze, fl⟩) (hK : C.ty KT = some ⟨.int q, sz2, by2, ze2, fl2⟩) (hz : ∃ x, C.P.info? E = some x ∧ x.zero = some z) (hx : ev sl x = some (.v (.map (some b)))) (hi : ev sl i = some (.v (.int kd n))) (hk : lk k own = some (b, .o (mObj kd es c))) :
    Quiet C sl own G (.lookup T x i ok) (if ok then .tuple #[(mget n es).getD z, .bool (mget n es).isSome] else (mget n es).getD z) := by
  intro a w d t pos aft g hs hh
  have hxv := ev_ok hs hx
  have hiv := ev_ok hs hi
  simp only [SV.den] at hxv hiv
  have h1 := (C.tyok _ _ hT).k
  have h2 := (C.tyok _ _ hK).k
  simp only [TK.fits] at h1 h2
  have hb := hh.1 _ _ _ hk
  simp only [OO.holds] at hb
  simp only [execOp, hxv, hiv, Sem.run_bind, run_mlookup h1 h2 hz hb, Result.andThen_ok, Sem.run_pure]
theorem quiet_lookupG {ok : Bool} (hT : C.ty T = some ⟨.map KT E, sz, by', ze, fl⟩) (hK : C.ty KT = some ⟨.int q, sz2, by2, ze2, fl2⟩) (hz : ∃ x, C.P.info? E = some x ∧ x.zero = some z) (hx : ev sl x = some (.v (.map (some b)))) (hi : ev sl i = some (.v (.int kd n))) (hk : G b = some (mObj kd es c)) :
    Quiet C sl own G (.lookup T x i ok) (if ok then .tuple #[(mget n es).getD z, .bool (mget n es).isSome] else (mget n es).getD z) := by
  intro a w d t pos aft g hs hh
  have hxv := ev_ok hs hx
  have hiv := ev_ok hs hi
  simp only [SV.den] at hxv hiv
  have h1 := (C.tyok _ _ hT).k
  have h2 := (C.tyok _ _ hK).k
  simp only [TK.fits] at h1 h2
  have hb := hh.2 _ _ hk
  simp only [execOp, hxv, hiv, Sem.run_bind, run_mlookup h1 h2 hz hb, Result.andThen_ok, Sem.run_pure]
theorem go_mupd (k : Nat) {y : Operand} {v : SV} {op : Op} (hop : op = .mapUpdate T x i y ∨ op = .insert T x i y) (hd : dOk C.nt d = true) (hT : C.ty T = some ⟨.map KT E, sz, by', ze, fl⟩) (hK : C.ty KT = some ⟨.int q, sz2, by2, ze2, fl2⟩) (hx : ev s.sl x = some (.v (.map (some b)))) (hi : ev s.sl i = some (.v (.int kd n))) (hy : ev s.sl y = some v) (hk : lk k s.own = some (b, .o (mObj kd es c)))
    (h : SGo C (.ops R l :: K) ⟨putS d (.v undef) s.sl, stk k (b, .o (mObj kd (mput n v.den c es) (mclk n c es))) s.own, s.G, s.df⟩) : SGo C (.ops R (⟨d, op, t, pos, aft, none⟩ :: l) :: K) s := by
  intro a w hS
  have hxv := ev_ok hS.sl hx
  have hiv := ev_ok hS.sl hi
  have hyv := ev_ok hS.sl hy
  simp only [SV.den] at hxv hiv
  have h1 := (C.tyok _ _ hT).k
  have h2 := (C.tyok _ _ hK).k
  simp only [TK.fits] at h1 h2
  have hb := (hS.mem.own _ _ _ hk).1
  simp only [OO.holds] at hb
  have hrun : (execOp a.eval ⟨d, op, t, pos, aft, none⟩).run C.P w = .ok .skip (setBlk w b (mObj kd (mput n v.den c es) (mclk n c es))) := by
    rcases hop with rfl | rfl <;> simp only [execOp, hxv, hiv, hyv, Sem.run_bind, run_mupdate h1 h2 hb, Result.andThen_ok, Sem.run_pure]
  refine K_skip rfl hrun ?_
  have hlt := lt_of_heap hb
  have hm : Mem C (stk k (b, .o (mObj kd (mput n v.den c es) (mclk n c es))) s.own) s.G (setBlk w b (mObj kd (mput n v.den c es) (mclk n c es))) :=
    hS.mem.put hk rfl rfl rfl (by rw [setBlk_size]; exact Nat.le_refl _) (fun j _ hj => setBlk_ne (fun e => hj e) _) (setBlk_same hlt _) (fun g => ⟨.inl, .inl⟩)
  have hS' := hS.put hd (.v undef) hm
  simp only [SV.den] at hS'
  exact h _ _ hS'
theorem go_mkmap (k : Nat) (kd : IntKind) (hd : dOk C.nt d = true) (hk : lk k s.own = none) (hmh : C.mh ≤ k)
    (h : ∀ g, SGo C (.ops R l :: K) ⟨putS d (.v (.map (some g))) s.sl, stk k (g, .o (mObj kd [] 0)) s.own, s.G, s.df⟩) : SGo C (.ops R (⟨d, .makeMap T none, t, pos, aft, none⟩ :: l) :: K) s := by
  intro a w hS
  have hrun : (execOp a.eval ⟨d, .makeMap T none, t, pos, aft, none⟩).run C.P w = .ok (.value (.map (some w.heap.size))) (w.alloc (.map #[] 0)) := by
    simp [execOp, Instr.makeMap]
  refine K_value rfl hrun ?_
  have hm : Mem C (stk k (w.heap.size, .o (mObj kd [] 0)) s.own) s.G (w.alloc (.map #[] 0)) :=
    hS.mem.new hk hmh rfl rfl rfl (by simp) (fun j hj => alloc_old w _ hj) (alloc_new w _) (fun g hg => by simp only [OO.blks] at hg; omega)
  have hS' := hS.put hd (.v (.map (some w.heap.size))) hm
  simp only [SV.den] at hS'
  exact h _ _ _ hS'
end
end Go.Sx
namespace Go.Proofs.Ytcaohcmlicbjhaa
set_option linter.unusedSimpArgs false
set_option linter.unusedVariables false
open Go.Sx

def tyL : List (Nat × TI) := [
  (3, ⟨.int .i64, 1, 8, [.int .i64 0], []⟩),
  (4, ⟨.bool, 1, 1, [.bool false], []⟩),
  (5, ⟨.int .u8, 1, 1, [.int .u8 0], []⟩),
  (42, ⟨.int .u16, 1, 2, [.int .u16 0], []⟩),
  (52, ⟨.int .u64, 1, 8, [.int .u64 0], []⟩),
  (33, ⟨.int .i64, 1, 8, [.int .i64 0], []⟩),
  (25, ⟨.slice 3, 1, 24, [.slice none 0 0], []⟩),
  (22, ⟨.slice 46, 1, 24, [.slice none 0 0], []⟩),
  (46, ⟨.strct, 2, 32, [.slice none 0 0, .int .i64 0], [(0, 1, false), (1, 1, false)]⟩),
  (55, ⟨.slice 5, 1, 24, [.slice none 0 0], []⟩),
  (41, ⟨.slice 42, 1, 24, [.slice none 0 0], []⟩),
  (53, ⟨.slice 52, 1, 24, [.slice none 0 0], []⟩),
  (30, ⟨.func, 1, 8, [.nilFunc], []⟩),
  (68, ⟨.func, 1, 8, [.nilFunc], []⟩),
  (63, ⟨.func, 1, 8, [.nilFunc], []⟩),
  (60, ⟨.ptr 62, 1, 8, [.pointer none], []⟩),
  (62, ⟨.strct, 4, 32, [.int .i64 0, .int .i64 0, .int .i64 0, .int .i64 0], [(0, 1, false), (1, 1, false), (2, 1, false), (3, 1, false)]⟩),
  (64, ⟨.map 3 60, 1, 8, [.map none], []⟩)]

def ty (T : TypeId) : Option TI := lk T tyL

theorem tyE : ty 3 = some ⟨.int .i64, 1, 8, [.int .i64 0], []⟩ ∧ ty 4 = some ⟨.bool, 1, 1, [.bool false], []⟩ ∧ ty 5 = some ⟨.int .u8, 1, 1, [.int .u8 0], []⟩ ∧ ty 42 = some ⟨.int .u16, 1, 2, [.int .u16 0], []⟩ ∧ ty 52 = some ⟨.int .u64, 1, 8, [.int .u64 0], []⟩ ∧ ty 33 = some ⟨.int .i64, 1, 8, [.int .i64 0], []⟩ ∧ ty 25 = some ⟨.slice 3, 1, 24, [.slice none 0 0], []⟩ ∧ ty 22 = some ⟨.slice 46, 1, 24, [.slice none 0 0], []⟩ ∧ ty 46 = some ⟨.strct, 2, 32, [.slice none 0 0, .int .i64 0], [(0, 1, false), (1, 1, false)]⟩ ∧ ty 55 = some ⟨.slice 5, 1, 24, [.slice none 0 0], []⟩ ∧ ty 41 = some ⟨.slice 42, 1, 24, [.slice none 0 0], []⟩ ∧ ty 53 = some ⟨.slice 52, 1, 24, [.slice none 0 0], []⟩ ∧ ty 30 = some ⟨.func, 1, 8, [.nilFunc], []⟩ ∧ ty 68 = some ⟨.func, 1, 8, [.nilFunc], []⟩ ∧ ty 63 = some ⟨.func, 1, 8, [.nilFunc], []⟩ ∧ ty 60 = some ⟨.ptr 62, 1, 8, [.pointer none], []⟩ ∧ ty 62 = some ⟨.strct, 4, 32, [.int .i64 0, .int .i64 0, .int .i64 0, .int .i64 0], [(0, 1, false), (1, 1, false), (2, 1, false), (3, 1, false)]⟩ ∧ ty 64 = some ⟨.map 3 60, 1, 8, [.map none], []⟩ := ⟨rfl, rfl, rfl, rfl, rfl, rfl, rfl, rfl, rfl, rfl, rfl, rfl, rfl, rfl, rfl, rfl, rfl, rfl⟩

theorem lk_memT {α : Type} {i : Nat} {x : α} : ∀ {l : List (Nat × α)}, lk i l = some x → (i, x) ∈ l
  | [], h => by simp [lk] at h
  | y :: l, h => by
    simp only [lk] at h
    split at h
    · rename_i e; cases h; subst e; simp
    · exact List.mem_cons_of_mem _ (lk_memT h)

theorem tyok : ∀ T i, ty T = some i → i.ok Try.prog T := by
  intro T i h
  have key : ∀ x ∈ tyL, TI.ok Try.prog x.1 x.2 := by
    unfold tyL
    refine List.forall_mem_cons.2 ⟨⟨⟨_, _, (by kernel_rfl : Try.prog.info? 3 = some Try.t3), rfl, rfl, rfl, rfl⟩, rfl, Try.underlying3⟩, ?_⟩
    refine List.forall_mem_cons.2 ⟨⟨⟨_, _, (by kernel_rfl : Try.prog.info? 4 = some Try.t4), rfl, rfl, rfl, rfl⟩, rfl, Try.underlying4⟩, ?_⟩
    refine List.forall_mem_cons.2 ⟨⟨⟨_, _, (by kernel_rfl : Try.prog.info? 5 = some Try.t5), rfl, rfl, rfl, rfl⟩, rfl, Try.underlying5⟩, ?_⟩
    refine List.forall_mem_cons.2 ⟨⟨⟨_, _, (by kernel_rfl : Try.prog.info? 42 = some Try.t42), rfl, rfl, rfl, rfl⟩, rfl, Try.underlying42⟩, ?_⟩
    refine List.forall_mem_cons.2 ⟨⟨⟨_, _, (by kernel_rfl : Try.prog.info? 52 = some Try.t52), rfl, rfl, rfl, rfl⟩, rfl, Try.underlying52⟩, ?_⟩
    refine List.forall_mem_cons.2 ⟨⟨⟨_, _, (by kernel_rfl : Try.prog.info? 33 = some Try.t33), rfl, rfl, rfl, rfl⟩, rfl, Try.underlying33⟩, ?_⟩
    refine List.forall_mem_cons.2 ⟨⟨⟨_, _, (by kernel_rfl : Try.prog.info? 25 = some Try.t25), rfl, rfl, rfl, rfl⟩, rfl, Try.underlying25⟩, ?_⟩
    refine List.forall_mem_cons.2 ⟨⟨⟨_, _, (by kernel_rfl : Try.prog.info? 22 = some Try.t22), rfl, rfl, rfl, rfl⟩, rfl, Try.underlying22⟩, ?_⟩
    refine List.forall_mem_cons.2 ⟨⟨⟨_, _, (by kernel_rfl : Try.prog.info? 46 = some Try.t46), rfl, rfl, rfl, rfl⟩, rfl, ⟨_, Try.underlying46, (by kernel_rfl)⟩⟩, ?_⟩
    refine List.forall_mem_cons.2 ⟨⟨⟨_, _, (by kernel_rfl : Try.prog.info? 55 = some Try.t55), rfl, rfl, rfl, rfl⟩, rfl, Try.underlying55⟩, ?_⟩
    refine List.forall_mem_cons.2 ⟨⟨⟨_, _, (by kernel_rfl : Try.prog.info? 41 = some Try.t41), rfl, rfl, rfl, rfl⟩, rfl, Try.underlying41⟩, ?_⟩
    refine List.forall_mem_cons.2 ⟨⟨⟨_, _, (by kernel_rfl : Try.prog.info? 53 = some Try.t53), rfl, rfl, rfl, rfl⟩, rfl, Try.underlying53⟩, ?_⟩
    refine List.forall_mem_cons.2 ⟨⟨⟨_, _, (by kernel_rfl : Try.prog.info? 30 = some Try.t30), rfl, rfl, rfl, rfl⟩, rfl, ⟨_, _, _, Try.underlying30⟩⟩, ?_⟩
    refine List.forall_mem_cons.2 ⟨⟨⟨_, _, (by kernel_rfl : Try.prog.info? 68 = some Try.t68), rfl, rfl, rfl, rfl⟩, rfl, ⟨_, _, _, Try.underlying68⟩⟩, ?_⟩
    refine List.forall_mem_cons.2 ⟨⟨⟨_, _, (by kernel_rfl : Try.prog.info? 63 = some Try.t63), rfl, rfl, rfl, rfl⟩, rfl, ⟨_, _, _, Try.underlying63⟩⟩, ?_⟩
    refine List.forall_mem_cons.2 ⟨⟨⟨_, _, (by kernel_rfl : Try.prog.info? 60 = some Try.t60), rfl, rfl, rfl, rfl⟩, rfl, Try.underlying60⟩, ?_⟩
    refine List.forall_mem_cons.2 ⟨⟨⟨_, _, (by kernel_rfl : Try.prog.info? 62 = some Try.t62), rfl, rfl, rfl, rfl⟩, rfl, ⟨_, Try.underlying62, (by kernel_rfl)⟩⟩, ?_⟩
    refine List.forall_mem_cons.2 ⟨⟨⟨_, _, (by kernel_rfl : Try.prog.info? 64 = some Try.t64), rfl, rfl, rfl, rfl⟩, rfl, Try.underlying64⟩, ?_⟩
    exact fun _ h => absurd h List.not_mem_nil
  exact key _ (lk_memT h)

theorem wr {n : Int} (h1 : -9223372036854775808 ≤ n) (h2 : n ≤ 9223372036854775807) : IntKind.i64.wrap n = n := Go.IntWalk.i64_in n ⟨h1, h2⟩
end Go.Proofs.Ytcaohcmlicbjhaa
namespace Go.Sx
set_option linter.unusedSimpArgs false
set_option linter.unusedVariables false
section
variable {C : Ctx} {K : List KI} {s : St} {R : Array Oper} {l : List Oper} {d : Option Tmp} {t : TypeId} {pos : String} {aft : Array Edge}
theorem q_gundef {op : Op} {j g : Nat} {want : Bool} (hj : (R[j]?).bind (·.dst) = some g) (hd : dOk C.nt d = true) (hu : lk g s.sl = some (.v undef))
    (h2 : SGo C (.q (Mem C s.own s.G) R l :: K) ⟨putS d (.v undef) s.sl, s.own, s.G, s.df⟩) : SGo C (.q (Mem C s.own s.G) R (⟨d, op, t, pos, aft, some (j, want)⟩ :: l) :: K) s := by
  intro a w hS
  have hy : yielded R a.tmps j = none := by
    have := hS.sl g _ hu
    simp [yielded, hj, this, SV.den, undef]
  simp only [wpK, wpQuiet, Region.wanted, hy]
  have := h2 _ _ (hS.put hd (.v undef) hS.mem)
  simp only [wpK] at this
  rw [if_neg (by simp)]
  exact this
theorem equalIn_p0 {P : Program} {T e : TypeId} (hT : P.underlying T = some (.pointer e)) (d : Nat) (w : World) : (Op.equalIn (d + 1) T (.pointer none) (.pointer none)).run P w = .ok true w := by
  simp only [Op.equalIn, Sem.run_bind, run_und w hT, Result.andThen_ok, Sem.run_pure]; rfl
theorem equalIn_p1 {P : Program} {T e : TypeId} (hT : P.underlying T = some (.pointer e)) (d : Nat) (a : Addr) (w : World) : (Op.equalIn (d + 1) T (.pointer (some a)) (.pointer none)).run P w = .ok false w := by
  simp only [Op.equalIn, Sem.run_bind, run_und w hT, Result.andThen_ok, Sem.run_pure]
theorem equal_p {P : Program} {T e : TypeId} (hT : P.underlying T = some (.pointer e)) (ad : Option Addr) (w : World) : (Op.equal T (.pointer ad) (.pointer none)).run P w = .ok ad.isNone w := by
  cases ad with
  | none => exact equalIn_p0 hT 9999 w
  | some a => exact equalIn_p1 hT 9999 a w
theorem quiet_pnil {sl : List (Nat × SV)} {own : Owns} {G : Hp} {T e T' : TypeId} {x : Operand} {ad : Option Addr} {vx : SV} {sz by' : Nat} {ze : List Value} {fl : List (Nat × Nat × Bool)} (hT : C.ty T = some ⟨.ptr e, sz, by', ze, fl⟩) (hx : ev sl x = some vx) (hv : vx.den = .pointer ad) : Quiet C sl own G (.binOp .eql T x (.const (.pointer none)) T') (.bool ad.isNone) := by
  intro a w d t pos aft g hs hh
  have hxv := ev_ok hs hx
  rw [hv] at hxv
  have hu := (C.tyok _ _ hT).k
  simp only [TK.fits] at hu
  have hc : a.eval (.const (.pointer none)) = .pointer none := rfl
  simp only [execOp, hxv, hc]
  have h1 : (eqGuard .eql T x (.const (.pointer none)) (.pointer ad) (.pointer none)).run C.P w = .ok () w := by simp [eqGuard]
  have h2 : (binOp .eql T (.pointer ad) (.pointer none)).run C.P w = .ok (.bool ad.isNone) w := by
    simp [binOp, equal_p hu]
  rw [Sem.run_bind]
  simp [h1, h2, Sem.run_bind]
end
end Go.Sx
namespace Go.Proofs.Ytcaohcmlicbjhaa
set_option linter.unusedSimpArgs false
set_option linter.unusedVariables false
open Go.Sx
structure Tn where
  runs : List Int
  took : Int
def rT : Rp Tn where
  size := 2
  e G x cs := ∃ sl, cs = [sl, .int .i64 x.took] ∧ isI64 x.took ∧ rI.S G x.runs sl
  mono hl h := by obtain ⟨sl, h1, h2, h4⟩ := h; exact ⟨sl, h1, h2, Rp.S_mono hl h4⟩
  len h := by obtain ⟨sl, rfl, _⟩ := h; rfl
  one h u hu := by
    obtain ⟨sl, rfl, _, h4⟩ := h
    obtain ⟨ad, cap, rfl⟩ := Rp.S_slice h4
    simp at hu
    rcases hu with rfl | rfl <;> rfl
theorem rI_at {G : Hp} {l : List Int} {ad : Option Addr} {n cap : Nat} (h : rI.S G l (.slice ad n cap)) {i : Nat} (hi : i < l.length) : ∃ b off, ad = some ⟨b, off, none⟩ ∧ At G b (off + i) [.int .i64 l[i]] := by
  obtain ⟨b, off, cap', c, hv, hat, rfl, _⟩ := Rp.S_get h hi
  cases hv
  exact ⟨b, off, rfl, by simpa [rI] using hat⟩
theorem rI_ok {G : Hp} {l : List Int} {v : Value} (h : rI.S G l v) : ∀ n ∈ l, isI64 n := by
  obtain ⟨_, ad, cap, rfl, h⟩ := h
  rcases h with rfl | ⟨b, off, cs, _, _, h⟩
  · simp
  · exact (rI_L.1 h).2
theorem rT_at {G : Hp} {l : List Tn} {ad : Option Addr} {n cap : Nat} (h : rT.S G l (.slice ad n cap)) {i : Nat} (hi : i < l.length) :
    ∃ b off sa cs, ad = some ⟨b, off, none⟩ ∧ At G b (off + i * 2) [.slice sa l[i].runs.length cs, .int .i64 l[i].took] ∧ isI64 l[i].took ∧ rI.S G l[i].runs (.slice sa l[i].runs.length cs) := by
  obtain ⟨b, off, cap', c, hv, hat, sl, rfl, h1, h2⟩ := Rp.S_get h hi
  cases hv
  obtain ⟨sa, cs, rfl⟩ := Rp.S_slice h2
  exact ⟨b, off, sa, cs, rfl, by simpa [rT] using hat, h1, h2⟩
def inB (l : List Int) (t : Int) : Bool := l.any (· == t)
theorem inB_iff {l : List Int} {t : Int} : inB l t = true ↔ t ∈ l := by simp [inB]
theorem inB_drop {l : List Int} {t : Int} {k : Nat} (hk : k < l.length) : inB (l.drop k) t = (l[k] == t || inB (l.drop (k + 1)) t) := by rw [inB, List.drop_eq_getElem_cons hk, List.any_cons]; rfl
def risG : Int → List Int → Bool
  | _, [] => true
  | m, x :: l => decide (m < x) && risG x l
def prv (l : List Int) (k : Nat) : Int := if k = 0 then -1 else l.getD (k - 1) 0
theorem risG_drop {l : List Int} {k : Nat} (hk : k < l.length) : risG (prv l k) (l.drop k) = (decide (prv l k < l[k]) && risG (prv l (k + 1)) (l.drop (k + 1))) := by
  rw [List.drop_eq_getElem_cons hk, risG]
  congr 2
  rw [prv, if_neg (by omega), Nat.add_sub_cancel, List.getD_eq_getElem?_getD, List.getElem?_eq_getElem hk]; rfl
def rightT (x : Tn) : Bool := risG (-1) x.runs && inB x.runs x.took
def badT : List Tn → Nat → Option Nat
  | [], _ => none
  | x :: l, i => if rightT x then badT l (i + 1) else some i
def chk (l : List Tn) : Int × Int := match badT l 0 with
  | none => (0, 0)
  | some i => (i, 2)
theorem badT_drop {l : List Tn} {k : Nat} (hk : k < l.length) : badT (l.drop k) k = if rightT l[k] then badT (l.drop (k + 1)) (k + 1) else some k := by rw [List.drop_eq_getElem_cons hk, badT]
set_option maxHeartbeats 4000000
theorem num_ok (n : Int) (G : Hp) : Pure Try.prog 17 [.int .i64 n] G (fun r _ => r = .int .i64 n) := by
  refine enterX ty tyok Try.func17 rfl Try.ntmps17 [.v (.int .i64 n)] (by simp) ?_
  intro C hP hQ hnt hty hmb hmh hro; have hQp := qp_body hQ; refine st_ ?_
  refine rn_ ?_; intros
  refine x_ret rfl hQ hmb (by rw [hty]; rfl) rfl ?_; simp only [SV.den, resV]
theorem rin_ok (l : List Int) (s1 : Value) (t : Int) (G : Hp) (h1 : rI.S G l s1) : Pure Try.prog 25 [s1, .int .i64 t] G (fun r _ => r = .bool (inB l t)) := by
  obtain ⟨ad1, cap1, rfl⟩ := Rp.S_slice h1
  have h63 := Rp.S_len h1
  refine enterX ty tyok Try.func25 rfl Try.ntmps25 [.v (.slice ad1 l.length cap1), .v (.int .i64 t)] (by simp) ?_
  intro C hP hQ hnt hty hmb hmh hro; have hQp := qp_body hQ; refine st_ ?_
  refine rn_ ?_; intros
  refine go_keep [0, 1, 5] [] ?_
  refine st_ ?_
  refine x_loop rfl (fun q s => ∃ (k : Nat), k ≤ l.length ∧ q = l.length - k ∧ inB l t = inB (l.drop k) t ∧
    s = ⟨[(0, .v (.slice ad1 l.length cap1)), (1, .v (.int .i64 t)), (5, .v (.int .i64 k))], [], G, []⟩) ⟨0, by omega, rfl, by simp, by simp⟩ ?_
  rintro q s ⟨k, hk, hq, hinv, rfl⟩ ih
  refine rn_ ?_; intros
  refine x_if rfl rfl rfl rfl (fun hjl => ?_) (fun hjl => ?_)
  · have hlt : k < l.length := by simp at hjl; omega
    obtain ⟨c1, o1, rfl, ha1⟩ := rI_at h1 (i := k) hlt
    rw [inB_drop hlt] at hinv
    refine rn_ ?_; intros
    refine go_q (by rw [hnt]; rfl) (quiet_index (by rw [hty]; rfl) (by rw [hty]; rfl) rfl rfl rfl (by omega) (by omega)) ?_
    refine rn_ ?_; intros
    refine go_q (by rw [hnt]; rfl) (quiet_load (vs := [.int .i64 l[k]]) (by rw [hty]; rfl) rfl (by simp [TK.agg]) (by simpa using ha1) rfl) ?_
    refine rn_ ?_; intros
    refine x_split rfl rfl rfl (fun he => ?_) (fun he => ?_) <;> (refine st_ ?_; (refine ru_ ?_; intros))
    · refine x_retc rfl hQ hmb rfl (by rw [hty]; simp only [so, sq, zy, zz, tyE, SO', SQ', opQ, opStore, opAlloc, ev, putS, dOk, cv, SV.cs, SV.one, SV.bool?, eqB, Value.oneCell', ldOwn, binInt, binConst, binBool, binStr, isC, TK.agg, rv, rv1, ldV, resOne, resV, Nat.reduceAdd, Nat.reduceMul, Nat.reduceSub, Nat.reduceLT, Nat.reduceLeDiff, Nat.reduceEqDiff, Nat.reduceBEq, reduceIte, reduceCtorEq, eq_self]; try rfl) rfl ?_; simp only [SV.den, resV, dens]
      rw [hinv, show (l[k] == t) = true by simpa using he]; rfl
    · rw [wr (n := (k : Int) + 1) (by omega) (by omega)]
      refine go_keep [0, 1, 5] [] ?_
      refine st_ ?_
      exact ih (l.length - (k + 1)) _ (by omega) ⟨k + 1, by omega, rfl, by rw [hinv, show (l[k] == t) = false by simpa using he]; rfl, by simp⟩
  · have hge : k = l.length := by simp at hjl; omega
    subst hge
    refine rn_ ?_; intros
    refine x_retc rfl hQ hmb rfl (by rw [hty]; simp only [so, sq, zy, zz, tyE, SO', SQ', opQ, opStore, opAlloc, ev, putS, dOk, cv, SV.cs, SV.one, SV.bool?, eqB, Value.oneCell', ldOwn, binInt, binConst, binBool, binStr, isC, TK.agg, rv, rv1, ldV, resOne, resV, Nat.reduceAdd, Nat.reduceMul, Nat.reduceSub, Nat.reduceLT, Nat.reduceLeDiff, Nat.reduceEqDiff, Nat.reduceBEq, reduceIte, reduceCtorEq, eq_self]; try rfl) rfl ?_; simp only [SV.den, resV, dens]
    rw [hinv, List.drop_length]; rfl
theorem index_ok (l : List Int) (s1 : Value) (t : Int) (G : Hp) (h1 : rI.S G l s1) : Pure Try.prog 39 [s1, .int .i64 t] G (fun r _ => ∃ n : Int, r = .int .i64 n ∧ (0 ≤ n ↔ inB l t = true)) := by
  obtain ⟨ad1, cap1, rfl⟩ := Rp.S_slice h1
  have h63 := Rp.S_len h1
  refine enterX ty tyok Try.func39 rfl Try.ntmps39 [.v (.slice ad1 l.length cap1), .v (.int .i64 t)] (by simp) ?_
  intro C hP hQ hnt hty hmb hmh hro; have hQp := qp_body hQ; refine st_ ?_
  refine rn_ ?_; intros
  refine go_keep [0, 1, 7, 8] [] ?_
  refine st_ ?_
  refine x_loop rfl (fun q s => ∃ (k : Nat), k ≤ l.length ∧ q = l.length - k ∧ inB l t = inB (l.drop k) t ∧
    s = ⟨[(0, .v (.slice ad1 l.length cap1)), (1, .v (.int .i64 t)), (7, .v (.int .i64 l.length)), (8, .v (.int .i64 k))], [], G, []⟩) ⟨0, by omega, rfl, by simp, by simp⟩ ?_
  rintro q s ⟨k, hk, hq, hinv, rfl⟩ ih
  refine rn_ ?_; intros
  refine x_if rfl rfl rfl rfl (fun hjl => ?_) (fun hjl => ?_)
  · have hlt : k < l.length := by simp at hjl; omega
    obtain ⟨c1, o1, rfl, ha1⟩ := rI_at h1 (i := k) hlt
    rw [inB_drop hlt] at hinv
    refine rn_ ?_; intros
    refine go_q (by rw [hnt]; rfl) (quiet_index (by rw [hty]; rfl) (by rw [hty]; rfl) rfl rfl rfl (by omega) (by omega)) ?_
    refine rn_ ?_; intros
    refine go_q (by rw [hnt]; rfl) (quiet_load (vs := [.int .i64 l[k]]) (by rw [hty]; rfl) rfl (by simp [TK.agg]) (by simpa using ha1) rfl) ?_
    refine rn_ ?_; intros
    refine x_split rfl rfl rfl (fun he => ?_) (fun he => ?_) <;> (refine st_ ?_; (refine ru_ ?_; intros))
    · refine x_retc rfl hQ hmb rfl (by rw [hty]; simp only [so, sq, zy, zz, tyE, SO', SQ', opQ, opStore, opAlloc, ev, putS, dOk, cv, SV.cs, SV.one, SV.bool?, eqB, Value.oneCell', ldOwn, binInt, binConst, binBool, binStr, isC, TK.agg, rv, rv1, ldV, resOne, resV, Nat.reduceAdd, Nat.reduceMul, Nat.reduceSub, Nat.reduceLT, Nat.reduceLeDiff, Nat.reduceEqDiff, Nat.reduceBEq, reduceIte, reduceCtorEq, eq_self]; try rfl) rfl ?_; simp only [SV.den, resV, dens]
      refine ⟨_, rfl, ?_⟩
      rw [hinv, show (l[k] == t) = true by have h : (t == l[k]) = true := he; rw [beq_iff_eq] at h ⊢; exact h.symm]
      simp
    · rw [wr (n := (k : Int) + 1) (by omega) (by omega)]
      refine go_keep [0, 1, 7, 8] [] ?_
      refine st_ ?_
      exact ih (l.length - (k + 1)) _ (by omega) ⟨k + 1, by omega, rfl, by rw [hinv, show (l[k] == t) = false by have h : (t == l[k]) = false := he; rw [beq_eq_false_iff_ne] at h ⊢; exact fun q => h q.symm]; rfl, by simp⟩
  · have hge : k = l.length := by simp at hjl; omega
    subst hge
    refine rn_ ?_; intros
    refine x_retc rfl hQ hmb rfl (by rw [hty]; simp only [so, sq, zy, zz, tyE, SO', SQ', opQ, opStore, opAlloc, ev, putS, dOk, cv, SV.cs, SV.one, SV.bool?, eqB, Value.oneCell', ldOwn, binInt, binConst, binBool, binStr, isC, TK.agg, rv, rv1, ldV, resOne, resV, Nat.reduceAdd, Nat.reduceMul, Nat.reduceSub, Nat.reduceLT, Nat.reduceLeDiff, Nat.reduceEqDiff, Nat.reduceBEq, reduceIte, reduceCtorEq, eq_self]; try rfl) rfl ?_; simp only [SV.den, resV, dens]
    refine ⟨_, rfl, ?_⟩
    rw [hinv, List.drop_length]; simp [inB]
theorem contains_ok (l : List Int) (s1 : Value) (t : Int) (G : Hp) (h1 : rI.S G l s1) : Pure Try.prog 35 [s1, .int .i64 t] G (fun r _ => r = .bool (inB l t)) := by
  have h10 := h1
  obtain ⟨ad1, cap1, rfl⟩ := Rp.S_slice h1
  refine enterX ty tyok Try.func35 rfl Try.ntmps35 [.v (.slice ad1 l.length cap1), .v (.int .i64 t)] (by simp) ?_
  intro C hP hQ hnt hty hmb hmh hro; have hQp := qp_body hQ; refine st_ ?_
  refine rn_ ?_; intros
  refine go_call (by rw [hnt]; rfl) (by rw [hP]; kernel_rfl) rfl (hP ▸ index_ok l _ t G h10) ?_
  rintro v G1 (hle1 : Le G G1) ⟨n, rfl, hn⟩
  refine rn_ ?_; intros
  refine x_retc rfl hQ hmb rfl (by rw [hty]; simp only [so, sq, zy, zz, tyE, SO', SQ', opQ, opStore, opAlloc, ev, putS, dOk, cv, SV.cs, SV.one, SV.bool?, eqB, Value.oneCell', ldOwn, binInt, binConst, binBool, binStr, isC, TK.agg, rv, rv1, ldV, resOne, resV, Nat.reduceAdd, Nat.reduceMul, Nat.reduceSub, Nat.reduceLT, Nat.reduceLeDiff, Nat.reduceEqDiff, Nat.reduceBEq, reduceIte, reduceCtorEq, eq_self]; try rfl) rfl ?_; simp only [SV.den, resV, dens]
  rcases Bool.eq_false_or_eq_true (inB l t) with hb | hb
  · rw [hb, decide_eq_true (hn.2 hb)]
  · rw [hb, decide_eq_false (fun q => by rw [hn.1 q] at hb; cases hb)]
theorem valid_ok (x : Tn) (s1 : Value) (G : Hp) (h1 : rI.S G x.runs s1) : Pure Try.prog 30 [.agg #[s1, .int .i64 x.took]] G (fun r _ => r = .bool (rightT x)) := by
  have h10 := h1
  obtain ⟨ad1, cap1, rfl⟩ := Rp.S_slice h1
  have h63 := Rp.S_len h1
  have h64 := rI_ok h10
  refine enterX ty tyok Try.func30 rfl Try.ntmps30 [.a [.v (.slice ad1 x.runs.length cap1), .v (.int .i64 x.took)]] (by simp) ?_
  intro C hP hQ hnt hty hmb hmh hro; have hQp := qp_body hQ; refine st_ ?_
  refine rn_ ?_; intros
  rename_i b1
  refine go_gsplit rfl rfl (fun h0 => ?_) (fun h0 => ?_) <;> (refine st_ ?_; (refine rn_ ?_; intros))
  · repeat (refine go_gundef rfl (by rw [hnt]; rfl) rfl ?_; (refine st_ ?_; (refine rn_ ?_; intros)))
    refine rn_ ?_; intros
    refine x_retc rfl hQ hmb rfl (by rw [hty]; simp only [so, sq, zy, zz, tyE, SO', SQ', opQ, opStore, opAlloc, ev, putS, dOk, cv, SV.cs, SV.one, SV.bool?, eqB, Value.oneCell', ldOwn, binInt, binConst, binBool, binStr, isC, TK.agg, rv, rv1, ldV, resOne, resV, Nat.reduceAdd, Nat.reduceMul, Nat.reduceSub, Nat.reduceLT, Nat.reduceLeDiff, Nat.reduceEqDiff, Nat.reduceBEq, reduceIte, reduceCtorEq, eq_self]; try rfl) rfl ?_; simp only [SV.den, resV, dens]
    have e : x.runs = [] := by have h : ((x.runs.length : Int) == 0) = true := h0; rw [beq_iff_eq] at h; exact List.length_eq_zero_iff.1 (by omega)
    simp [rightT, e, inB]
  have hpos : 0 < x.runs.length := by have h : ((x.runs.length : Int) == 0) = false := h0; rw [beq_eq_false_iff_ne] at h; omega
  obtain ⟨c0, o0, rfl, ha0⟩ := rI_at h10 (i := 0) hpos
  refine go_q (by rw [hnt]; rfl) (quiet_index (by rw [hty]; rfl) (by rw [hty]; rfl) rfl rfl rfl (by omega) (by omega)) ?_
  refine rn_ ?_; intros
  refine go_q (by rw [hnt]; rfl) (quiet_load (vs := [.int .i64 x.runs[0]]) (by rw [hty]; rfl) rfl (by simp [TK.agg]) (by simpa using ha0) rfl) ?_
  refine rn_ ?_; intros
  have hr0 := risG_drop (l := x.runs) (k := 0) hpos
  simp only [List.drop_zero, show prv x.runs 0 = -1 from rfl] at hr0
  refine x_split rfl rfl rfl (fun hneg => ?_) (fun hneg => ?_) <;> (refine st_ ?_; (refine ru_ ?_; intros))
  · refine rn_ ?_; intros
    refine x_retc rfl hQ hmb rfl (by rw [hty]; simp only [so, sq, zy, zz, tyE, SO', SQ', opQ, opStore, opAlloc, ev, putS, dOk, cv, SV.cs, SV.one, SV.bool?, eqB, Value.oneCell', ldOwn, binInt, binConst, binBool, binStr, isC, TK.agg, rv, rv1, ldV, resOne, resV, Nat.reduceAdd, Nat.reduceMul, Nat.reduceSub, Nat.reduceLT, Nat.reduceLeDiff, Nat.reduceEqDiff, Nat.reduceBEq, reduceIte, reduceCtorEq, eq_self]; try rfl) rfl ?_; simp only [SV.den, resV, dens]
    have := of_decide_eq_true hneg
    rw [rightT, hr0, decide_eq_false (by omega)]; rfl
  have hneg' := of_decide_eq_false hneg
  rw [decide_eq_true (by omega), Bool.true_and] at hr0
  refine rn_ ?_; intros
  refine go_keep [1, 2, 3] [0] ?_
  refine st_ ?_
  refine x_loop rfl (fun q s => ∃ (m : Nat), m + 1 ≤ x.runs.length ∧ q = x.runs.length - m ∧ risG (-1) x.runs = risG (prv x.runs (m + 1)) (x.runs.drop (m + 1)) ∧
    s = ⟨[(1, .p 0 b1 0), (2, .b false), (3, .v (.int .i64 ((m + 1 : Nat) : Int)))], [(0, b1, .c 46 [.v (.slice (some ⟨c0, o0, none⟩) x.runs.length cap1), .v (.int .i64 x.took)])], G, []⟩) ⟨0, by omega, rfl, hr0, rfl⟩ ?_
  clear hr0
  rintro q s ⟨m, hk, hq, hinv, rfl⟩ ih
  refine rn_ ?_; intros
  refine x_if rfl rfl rfl rfl (fun hjl => ?_) (fun hjl => ?_)
  · have hlt : m + 1 < x.runs.length := by simp at hjl; omega
    obtain ⟨c1, o1, e1, ha1⟩ := rI_at h10 (i := m) (by omega)
    cases e1
    obtain ⟨c1, o1, e1, ha2⟩ := rI_at h10 (i := m + 1) hlt
    cases e1
    rw [risG_drop hlt, prv, if_neg (by omega), Nat.add_sub_cancel, List.getD_eq_getElem?_getD, List.getElem?_eq_getElem (show m < x.runs.length by omega)] at hinv
    simp only [Option.getD_some] at hinv
    have hw : IntKind.i64.wrap (((m + 1 : Nat) : Int) - 1) = (m : Int) := by rw [wr (by omega) (by omega)]; omega
    refine rn_ ?_; intros
    refine x_draw rfl (by rw [hP]; kernel_rfl) rfl (by kernel_rfl) ?_
    refine runq 400 hty hnt ?_; refine st_ ?_
    rw [hw]
    refine q_q (by rw [hnt]; rfl) (quiet_index (by rw [hty]; rfl) (by rw [hty]; rfl) rfl rfl rfl (by omega) (by omega)) ?_; refine runq 400 hty hnt ?_; refine st_ ?_
    refine q_q (by rw [hnt]; rfl) (quiet_load (vs := [.int .i64 x.runs[m]]) (by rw [hty]; rfl) rfl (by simp [TK.agg]) (by simpa using ha1) rfl) ?_
    refine runq 400 hty hnt ?_; refine st_ ?_
    refine q_q (by rw [hnt]; rfl) (quiet_index (by rw [hty]; rfl) (by rw [hty]; rfl) rfl rfl rfl (by omega) (by omega)) ?_; refine runq 400 hty hnt ?_; refine st_ ?_
    refine q_q (by rw [hnt]; rfl) (quiet_load (vs := [.int .i64 x.runs[m + 1]]) (by rw [hty]; rfl) rfl (by simp [TK.agg]) (by simpa using ha2) rfl) ?_
    refine runq 400 hty hnt ?_; refine st_ ?_
    refine q_end ?_; refine rn_ ?_; intros
    refine x_split rfl rfl rfl (fun hge => ?_) (fun hge => ?_) <;> (refine st_ ?_; (refine ru_ ?_; intros))
    · refine rn_ ?_; intros
      refine x_retc rfl hQ hmb rfl (by rw [hty]; simp only [so, sq, zy, zz, tyE, SO', SQ', opQ, opStore, opAlloc, ev, putS, dOk, cv, SV.cs, SV.one, SV.bool?, eqB, Value.oneCell', ldOwn, binInt, binConst, binBool, binStr, isC, TK.agg, rv, rv1, ldV, resOne, resV, Nat.reduceAdd, Nat.reduceMul, Nat.reduceSub, Nat.reduceLT, Nat.reduceLeDiff, Nat.reduceEqDiff, Nat.reduceBEq, reduceIte, reduceCtorEq, eq_self]; try rfl) rfl ?_; simp only [SV.den, resV, dens]
      have := of_decide_eq_true hge
      rw [rightT, hinv, decide_eq_false (by omega)]; rfl
    · have hge' := of_decide_eq_false hge
      rw [decide_eq_true (by omega), Bool.true_and] at hinv
      rw [wr (n := ((m + 1 : Nat) : Int) + 1) (by omega) (by omega)]
      refine go_keep [1, 2, 3] [0] ?_
      refine st_ ?_
      exact ih (x.runs.length - (m + 1)) _ (by omega) ⟨m + 1, by omega, rfl, hinv, rfl⟩
  · have hge : m + 1 = x.runs.length := by simp at hjl; omega
    rw [hge, List.drop_length] at hinv
    refine rn_ ?_; intros
    refine go_callf (by rw [hnt]; rfl) (by rw [hP]; kernel_rfl) rfl (hP ▸ contains_ok x.runs _ x.took G h10) ?_; refine rn_ ?_; intros
    refine x_retc rfl hQ hmb rfl (by rw [hty]; simp only [so, sq, zy, zz, tyE, SO', SQ', opQ, opStore, opAlloc, ev, putS, dOk, cv, SV.cs, SV.one, SV.bool?, eqB, Value.oneCell', ldOwn, binInt, binConst, binBool, binStr, isC, TK.agg, rv, rv1, ldV, resOne, resV, Nat.reduceAdd, Nat.reduceMul, Nat.reduceSub, Nat.reduceLT, Nat.reduceLeDiff, Nat.reduceEqDiff, Nat.reduceBEq, reduceIte, reduceCtorEq, eq_self]; try rfl) rfl ?_; simp only [SV.den, resV, dens]
    rw [rightT, hinv]; rfl
theorem rright_ok (x : Tn) (s1 : Value) (G : Hp) (h1 : rI.S G x.runs s1) : Pure Try.prog 24 [.agg #[s1, .int .i64 x.took]] G (fun r _ => r = .bool (rightT x)) := by
  have h10 := h1
  obtain ⟨ad1, cap1, rfl⟩ := Rp.S_slice h1
  have h63 := Rp.S_len h1
  have h64 := rI_ok h10
  refine enterX ty tyok Try.func24 rfl Try.ntmps24 [.a [.v (.slice ad1 x.runs.length cap1), .v (.int .i64 x.took)]] (by simp) ?_
  intro C hP hQ hnt hty hmb hmh hro; have hQp := qp_body hQ; refine st_ ?_
  refine rn_ ?_; intros
  rename_i b1
  refine go_keep [1, 2, 3] [0] ?_
  refine st_ ?_
  refine x_loop rfl (fun q s => ∃ (k : Nat), k ≤ x.runs.length ∧ q = x.runs.length - k ∧ -1 ≤ prv x.runs k ∧ risG (-1) x.runs = risG (prv x.runs k) (x.runs.drop k) ∧
    s = ⟨[(1, .p 0 b1 0), (2, .b false), (3, .v (.int .i64 k))], [(0, b1, .c 46 [.v (.slice ad1 x.runs.length cap1), .v (.int .i64 x.took)])], G, []⟩) ⟨0, by omega, rfl, by simp [prv], by simp [prv], rfl⟩ ?_
  rintro q s ⟨k, hk, hq, hpv, hinv, rfl⟩ ih
  refine rn_ ?_; intros
  refine x_if rfl rfl rfl rfl (fun hjl => ?_) (fun hjl => ?_)
  · have hlt : k < x.runs.length := by simp at hjl; omega
    obtain ⟨c1, o1, rfl, ha1⟩ := rI_at h10 (i := k) hlt
    rw [risG_drop hlt] at hinv
    have hnx : prv x.runs (k + 1) = x.runs[k] := by rw [prv, if_neg (by omega), Nat.add_sub_cancel, List.getD_eq_getElem?_getD, List.getElem?_eq_getElem hlt]; rfl
    refine rn_ ?_; intros
    refine x_draw rfl (by rw [hP]; kernel_rfl) rfl (by kernel_rfl) ?_
    refine runq 400 hty hnt ?_; refine st_ ?_
    refine q_q (by rw [hnt]; rfl) (quiet_index (by rw [hty]; rfl) (by rw [hty]; rfl) rfl rfl rfl (by omega) (by omega)) ?_; refine runq 400 hty hnt ?_; refine st_ ?_
    refine q_q (by rw [hnt]; rfl) (quiet_load (vs := [.int .i64 x.runs[k]]) (by rw [hty]; rfl) rfl (by simp [TK.agg]) (by simpa using ha1) rfl) ?_
    refine runq 400 hty hnt ?_; refine st_ ?_
    refine go_qsplit rfl rfl (fun hneg => ?_) (fun hneg => ?_) <;> (refine st_ ?_; (try (refine runq 400 hty hnt ?_; refine st_ ?_)))
    · repeat (refine q_gundef rfl (by rw [hnt]; rfl) rfl ?_; (refine st_ ?_; (try (refine runq 400 hty hnt ?_; refine st_ ?_))))
      (first | refine q_end ?_; refine rn_ ?_; intros | skip)
      refine rn_ ?_; intros
      refine x_retc rfl hQ hmb rfl (by rw [hty]; simp only [so, sq, zy, zz, tyE, SO', SQ', opQ, opStore, opAlloc, ev, putS, dOk, cv, SV.cs, SV.one, SV.bool?, eqB, Value.oneCell', ldOwn, binInt, binConst, binBool, binStr, isC, TK.agg, rv, rv1, ldV, resOne, resV, Nat.reduceAdd, Nat.reduceMul, Nat.reduceSub, Nat.reduceLT, Nat.reduceLeDiff, Nat.reduceEqDiff, Nat.reduceBEq, reduceIte, reduceCtorEq, eq_self]; try rfl) rfl ?_; simp only [SV.den, resV, dens]
      have := of_decide_eq_true hneg
      rw [rightT, hinv, decide_eq_false (by omega)]; rfl
    have hneg' := of_decide_eq_false hneg
    refine go_qsplit rfl rfl (fun hk0 => ?_) (fun hk0 => ?_) <;> (refine st_ ?_; (try (refine runq 400 hty hnt ?_; refine st_ ?_)))
    · have hk0' : 0 < k := by have := of_decide_eq_true hk0; omega
      obtain ⟨m, rfl⟩ : ∃ m, k = m + 1 := ⟨k - 1, by omega⟩
      obtain ⟨c1, o1, e1, ha2⟩ := rI_at h10 (i := m) (by omega)
      cases e1
      rw [prv, if_neg (by omega), Nat.add_sub_cancel, List.getD_eq_getElem?_getD, List.getElem?_eq_getElem (show m < x.runs.length by omega)] at hinv
      simp only [Option.getD_some] at hinv
      have hw : IntKind.i64.wrap (((m + 1 : Nat) : Int) - 1) = (m : Int) := by rw [wr (by omega) (by omega)]; omega
      refine q_q (by rw [hnt]; rfl) (quiet_index (by rw [hty]; rfl) (by rw [hty]; rfl) rfl rfl rfl (by omega) (by omega)) ?_; refine runq 400 hty hnt ?_; refine st_ ?_
      refine q_q (by rw [hnt]; rfl) (quiet_load (vs := [.int .i64 x.runs[m + 1]]) (by rw [hty]; rfl) rfl (by simp [TK.agg]) (by simpa using ha1) rfl) ?_
      refine runq 400 hty hnt ?_; refine st_ ?_
      rw [hw]
      refine q_q (by rw [hnt]; rfl) (quiet_index (by rw [hty]; rfl) (by rw [hty]; rfl) rfl rfl rfl (by omega) (by omega)) ?_; refine runq 400 hty hnt ?_; refine st_ ?_
      refine q_q (by rw [hnt]; rfl) (quiet_load (vs := [.int .i64 x.runs[m]]) (by rw [hty]; rfl) rfl (by simp [TK.agg]) (by simpa using ha2) rfl) ?_
      refine runq 400 hty hnt ?_; refine st_ ?_
      refine q_end ?_; refine rn_ ?_; intros
      refine x_split rfl rfl rfl (fun hle => ?_) (fun hle => ?_) <;> (refine st_ ?_; (refine ru_ ?_; intros))
      · refine rn_ ?_; intros
        refine x_retc rfl hQ hmb rfl (by rw [hty]; simp only [so, sq, zy, zz, tyE, SO', SQ', opQ, opStore, opAlloc, ev, putS, dOk, cv, SV.cs, SV.one, SV.bool?, eqB, Value.oneCell', ldOwn, binInt, binConst, binBool, binStr, isC, TK.agg, rv, rv1, ldV, resOne, resV, Nat.reduceAdd, Nat.reduceMul, Nat.reduceSub, Nat.reduceLT, Nat.reduceLeDiff, Nat.reduceEqDiff, Nat.reduceBEq, reduceIte, reduceCtorEq, eq_self]; try rfl) rfl ?_; simp only [SV.den, resV, dens]
        have := of_decide_eq_true hle
        rw [rightT, hinv, decide_eq_false (by omega)]; rfl
      · have hle' := of_decide_eq_false hle
        rw [decide_eq_true (by omega), Bool.true_and] at hinv
        rw [wr (n := ((m + 1 : Nat) : Int) + 1) (by omega) (by omega)]
        refine go_keep [1, 2, 3] [0] ?_
        refine st_ ?_
        exact ih (x.runs.length - (m + 1 + 1)) _ (by omega) ⟨m + 1 + 1, by omega, rfl, by rw [hnx]; omega, hinv, rfl⟩
    · have hk0' : k = 0 := by have := of_decide_eq_false hk0; omega
      subst hk0'
      (first | refine q_end ?_; refine rn_ ?_; intros | skip)
      refine rn_ ?_; intros
      rw [decide_eq_true (by rw [show prv x.runs 0 = -1 from rfl]; omega), Bool.true_and] at hinv
      rw [wr (n := ((0 : Nat) : Int) + 1) (by omega) (by omega)]
      refine go_keep [1, 2, 3] [0] ?_
      refine st_ ?_
      exact ih (x.runs.length - 1) _ (by omega) ⟨1, by omega, rfl, by rw [hnx]; omega, hinv, rfl⟩
  · have hge : k = x.runs.length := by simp at hjl; omega
    subst hge
    rw [List.drop_length] at hinv
    refine rn_ ?_; intros
    refine go_callf (by rw [hnt]; rfl) (by rw [hP]; kernel_rfl) rfl (hP ▸ rin_ok x.runs _ x.took G h10) ?_; refine rn_ ?_; intros
    refine x_retc rfl hQ hmb rfl (by rw [hty]; simp only [so, sq, zy, zz, tyE, SO', SQ', opQ, opStore, opAlloc, ev, putS, dOk, cv, SV.cs, SV.one, SV.bool?, eqB, Value.oneCell', ldOwn, binInt, binConst, binBool, binStr, isC, TK.agg, rv, rv1, ldV, resOne, resV, Nat.reduceAdd, Nat.reduceMul, Nat.reduceSub, Nat.reduceLT, Nat.reduceLeDiff, Nat.reduceEqDiff, Nat.reduceBEq, reduceIte, reduceCtorEq, eq_self]; try rfl) rfl ?_; simp only [SV.den, resV, dens]
    rw [rightT, hinv]; rfl
end Go.Proofs.Ytcaohcmlicbjhaa
namespace Go.Sx
set_option linter.unusedSimpArgs false
set_option linter.unusedVariables false
open Go.RowKit
section
variable {C : Ctx} {K : List KI} {s : St} {R : Array Oper} {t : TypeId} {pos : String} {aft : Array Edge} {own0 : Owns} {G0 : Hp}
end
end Go.Sx
namespace Go.Sx
set_option linter.unusedSimpArgs false
set_option linter.unusedVariables false
open Go.RowKit
section
variable {P : Program} {ro : Option Nat} {Q : Exit → Act → World → Prop}
def rmAll : List Nat → Owns → Owns
  | [], own => own
  | k :: ks, own => rmAll ks (rmk k own)
theorem lk_rmAll : ∀ (ks : List Nat) (own : Owns) (k : Nat), lk k (rmAll ks own) = if k ∈ ks then none else lk k own
  | [], own, k => by simp [rmAll]
  | j :: ks, own, k => by
    rw [rmAll, lk_rmAll ks, lk_rmk]
    by_cases h : k ∈ ks <;> by_cases h' : k = j <;> simp [h, h']
variable {C : Ctx} {K : List KI} {s : St} {R : Array Oper} {l : List Oper} {d : Option Tmp} {t : TypeId} {pos : String} {aft : Array Edge}
theorem Mem.panicked {own : Owns} {G : Hp} {w w' : World} (h : Mem C own G w) {ks : List Nat} {ow : Lds} (hk : lkAll own ks = some ow) (hn : noDup ks = true) (hf : Fr w w') (hs : ∀ g, g < w.heap.size → ¬ mutOf ow g → w'.heap[g]? = w.heap[g]?) : Mem C (rmAll ks own) G w' := by
  obtain ⟨hl, hget⟩ := lkAll_get hk
  have hmut : ∀ g, mutOf ow g → ∃ k b o, k ∈ ks ∧ lk k own = some (b, o) ∧ o.mut b g := by
    rintro g ⟨i, b, o, hi, hm⟩
    have hlt : i < ks.length := by rw [← hl]; exact (List.getElem?_eq_some_iff.1 hi).1
    obtain ⟨x, hx, hxk⟩ := hget i ks[i] (List.getElem?_eq_getElem hlt)
    rw [hi] at hx; cases hx
    exact ⟨ks[i], b, o, List.getElem_mem hlt, hxk, hm⟩
  refine ⟨fun k b o e => ?_, fun k k' b b' o o' g e e' f f' => ?_, ?_⟩
  · rw [lk_rmAll] at e
    split at e
    · cases e
    · rename_i hkk
      obtain ⟨f1, f2⟩ := h.own _ _ _ e
      refine ⟨OO.holds_same f1 hf fun g hg => hs g (h.lt e hg) fun hm => ?_, f2⟩
      obtain ⟨j, b', o', hj, hjk, hjm⟩ := hmut g hm
      have := h.inj _ _ _ _ _ _ g e hjk hg (OO.mut_blks (h.own _ _ _ hjk).1 hjm)
      subst this; exact hkk hj
  · rw [lk_rmAll] at e e'
    split at e
    · cases e
    · split at e'
      · cases e'
      · exact h.inj _ _ _ _ _ _ _ e e' f f'
  · have hg := h.grow
    have hno : ∀ g, mutOf ow g → G g = none ∧ (C.w0.heap.size ≤ g ∨ g ∈ C.mb) := by
      intro g hm
      obtain ⟨j, b', o', hj, hjk, hjm⟩ := hmut g hm
      obtain ⟨q1, q2, q3⟩ := (h.own _ _ _ hjk).2 g hjm
      refine ⟨q1, ?_⟩
      rcases Nat.lt_or_ge j C.mh with r | r
      · exact (q3 r).symm
      · exact .inl (q2 r)
    refine ⟨hf.os.trans hg.os, hf.tape.trans hg.tape, hf.output.trans hg.output, Nat.le_trans hg.size hf.size, fun j hj hm => ?_, fun j x e => ?_, hg.old⟩
    · rw [hs j (by have := hg.size; omega) fun q => ?_]
      · exact hg.blk j hj hm
      · rcases (hno j q).2 with r | r
        · omega
        · exact hm r
    · have hlt := lt_of_heap (hg.has j x e)
      rw [hs j hlt fun q => by rw [(hno j q).1] at e; cases e]
      exact hg.has j x e
theorem Lent.of {own : Owns} {G : Hp} {w : World} (h : Mem C own G w) {ks : List Nat} {ow : Lds} (hk : lkAll own ks = some ow) (hn : noDup ks = true) : Lent ow G w := by
  obtain ⟨hl, hget⟩ := lkAll_get hk
  have hat : ∀ (i b : Nat) (o : OO), ow[i]? = some (b, o) → ∃ k, ks[i]? = some k ∧ lk k own = some (b, o) := by
    intro i b o hi
    have hlt : i < ks.length := by rw [← hl]; exact (List.getElem?_eq_some_iff.1 hi).1
    obtain ⟨x, hx, hxk⟩ := hget i ks[i] (List.getElem?_eq_getElem hlt)
    rw [hi] at hx; cases hx
    exact ⟨ks[i], List.getElem?_eq_getElem hlt, hxk⟩
  have hnd : ∀ (ks : List Nat), noDup ks = true → ∀ (i j k : Nat), ks[i]? = some k → ks[j]? = some k → i = j := by
    intro ks
    induction ks with
    | nil => intro _ i j k h; simp at h
    | cons x ks ih =>
      intro h i j k hi hj
      simp only [noDup, Bool.and_eq_true, Bool.not_eq_true', List.contains_eq_mem, decide_eq_false_iff_not] at h
      cases i <;> cases j
      · rfl
      · simp at hi hj; subst hi; exact absurd (List.mem_of_getElem? hj) h.1
      · simp at hi hj; subst hj; exact absurd (List.mem_of_getElem? hi) h.1
      · simp at hi hj; rw [ih h.2 _ _ k hi hj]
  refine ⟨fun i b o hi => ?_, fun i j b b' o o' g hi hj f f' => ?_⟩
  · obtain ⟨k, _, hk2⟩ := hat i b o hi
    obtain ⟨f1, f2⟩ := h.own _ _ _ hk2
    refine ⟨?_, fun g hg => (f2 g hg).1⟩
    cases o <;> exact f1
  · obtain ⟨k, hk1, hk2⟩ := hat i b o hi
    obtain ⟨k', hk1', hk2'⟩ := hat j b' o' hj
    have e := h.inj _ _ _ _ _ _ g hk2 hk2' f f'
    subst e
    exact hnd ks hn i j k hk1 hk1'
end
end Go.Sx
namespace Go.Sx
set_option linter.unusedSimpArgs false
set_option linter.unusedVariables false
open Go.RowKit
section
variable {C : Ctx} {K : List KI} {s : St} {R : Array Oper} {l : List Oper} {d : Option Tmp} {t : TypeId} {pos : String} {aft : Array Edge} {sl : List (Nat × SV)} {own : Owns} {G : Hp}
end
end Go.Sx
namespace Go.Sx
set_option linter.unusedSimpArgs false
set_option linter.unusedVariables false
open Go.RowKit
section
variable {C : Ctx} {K : List KI} {s : St} {R : Array Oper} {l : List Oper} {d : Option Tmp} {t : TypeId} {pos : String} {aft : Array Edge} {v : Value}
theorem quiet_bin {sl : List (Nat × SV)} {own : Owns} {G : Hp} {op : BinOp} {k k' : IntKind} {m n : Int} {x y : Operand} {T T' : TypeId} {r : Value} {vx vy : SV} (hx : ev sl x = some vx) (hvx : vx.den = .int k m) (hy : ev sl y = some vy) (hvy : vy.den = .int k' n) (h : binConst op k k' m n = some r) :
    Quiet C sl own G (.binOp op T x y T') r := by
  intro aa w dd t pos aft g hsl hh
  have hxv := ev_ok hsl hx
  rw [hvx] at hxv
  have hyv := ev_ok hsl hy
  rw [hvy] at hyv
  simp only [execOp, hxv, hyv]
  rw [Sem.run_bind, binConst_ok h]
  simp
theorem shr_ok {k k' : IntKind} {m n : Int} (h : 0 ≤ n) : binConst .shr k k' m n = some (.int k (m.fdiv (2 ^ (min n.toNat k.bits)))) := by
  simp only [binConst]; rw [if_neg (by omega)]
end
end Go.Sx
namespace Go.Proofs.Ytcaohcmlicbjhaa
set_option linter.unusedSimpArgs false
set_option linter.unusedVariables false
open Go.Sx
set_option maxHeartbeats 4000000
theorem chk_none {l : List Tn} (h : badT l 0 = none) : chk l = (0, 0) := by rw [chk, h]
theorem chk_some {l : List Tn} {i : Nat} (h : badT l 0 = some i) : chk l = ((i : Int), 2) := by rw [chk, h]
theorem check_ok (l : List Tn) (s1 : Value) (G : Hp) (h1 : rT.S G l s1) : Pure Try.prog 20 [s1] G (fun r _ => r = .tuple #[.int .i64 (chk l).1, .int .i64 (chk l).2]) := by
  have h10 := h1
  obtain ⟨ad1, cap1, rfl⟩ := Rp.S_slice h1
  have h63 := Rp.S_len h1
  refine enterX ty tyok Try.func20 rfl Try.ntmps20 [.v (.slice ad1 l.length cap1)] (by simp) ?_
  intro C hP hQ hnt hty hmb hmh hro; have hQp := qp_body hQ; refine st_ ?_
  refine rn_ ?_; intros
  refine go_keep [6, 7, 8] [] ?_
  refine st_ ?_
  refine x_loop rfl (fun q s => ∃ (k : Nat), k ≤ l.length ∧ q = l.length - k ∧ badT l 0 = badT (l.drop k) k ∧
    s = ⟨[(6, .v (.slice ad1 l.length cap1)), (7, .v (.int .i64 l.length)), (8, .v (.int .i64 k))], [], G, []⟩) ⟨0, by omega, rfl, by simp, by simp⟩ ?_
  rintro q s ⟨k, hk, hq, hinv, rfl⟩ ih
  refine rn_ ?_; intros
  refine x_if rfl rfl rfl rfl (fun hjl => ?_) (fun hjl => ?_)
  · have hlt : k < l.length := by simp at hjl; omega
    obtain ⟨c1, o1, sa, cs, rfl, ha1, ht, hr⟩ := rT_at h10 (i := k) hlt
    rw [badT_drop hlt] at hinv
    refine rn_ ?_; intros
    refine go_q (by rw [hnt]; rfl) (quiet_index (by rw [hty]; rfl) (by rw [hty]; rfl) rfl rfl rfl (by omega) (by omega)) ?_
    refine rn_ ?_; intros
    refine go_q (by rw [hnt]; rfl) (quiet_load (by rw [hty]; rfl) rfl (by simp [TK.agg]) ha1 rfl) ?_
    refine rn_ ?_; intros
    refine go_callf (by rw [hnt]; rfl) (by rw [hP]; kernel_rfl) rfl (hP ▸ valid_ok l[k] _ G hr) ?_; refine rn_ ?_; intros
    refine x_split rfl rfl rfl (fun hv => ?_) (fun hv => ?_) <;> (refine st_ ?_; (refine ru_ ?_; intros))
    · refine rn_ ?_; intros
      refine x_retc rfl hQ hmb rfl (by rw [hty]; simp only [so, sq, zy, zz, tyE, SO', SQ', opQ, opStore, opAlloc, ev, putS, dOk, cv, SV.cs, SV.one, SV.bool?, eqB, Value.oneCell', ldOwn, binInt, binConst, binBool, binStr, isC, TK.agg, rv, rv1, ldV, resOne, resV, Nat.reduceAdd, Nat.reduceMul, Nat.reduceSub, Nat.reduceLT, Nat.reduceLeDiff, Nat.reduceEqDiff, Nat.reduceBEq, reduceIte, reduceCtorEq, eq_self]; try rfl) rfl ?_; simp only [SV.den, resV, dens]
      rw [if_neg (by simpa using hv)] at hinv
      rw [chk_some hinv]
    · rw [if_pos (by simpa using hv)] at hinv
      rw [wr (n := (k : Int) + 1) (by omega) (by omega)]
      refine go_keep [6, 7, 8] [] ?_
      refine st_ ?_
      exact ih (l.length - (k + 1)) _ (by omega) ⟨k + 1, by omega, rfl, hinv, by simp⟩
  · have hge : k = l.length := by simp at hjl; omega
    subst hge
    rw [List.drop_length, badT] at hinv
    refine rn_ ?_; intros
    refine x_retc rfl hQ hmb rfl (by rw [hty]; simp only [so, sq, zy, zz, tyE, SO', SQ', opQ, opStore, opAlloc, ev, putS, dOk, cv, SV.cs, SV.one, SV.bool?, eqB, Value.oneCell', ldOwn, binInt, binConst, binBool, binStr, isC, TK.agg, rv, rv1, ldV, resOne, resV, Nat.reduceAdd, Nat.reduceMul, Nat.reduceSub, Nat.reduceLT, Nat.reduceLeDiff, Nat.reduceEqDiff, Nat.reduceBEq, reduceIte, reduceCtorEq, eq_self]; try rfl) rfl ?_; simp only [SV.den, resV, dens]
    rw [chk_none hinv]
theorem rcheck_ok (l : List Tn) (s1 : Value) (G : Hp) (h1 : rT.S G l s1) : Pure Try.prog 8 [s1] G (fun r _ => r = .tuple #[.int .i64 (chk l).1, .int .i64 (chk l).2]) := by
  have h10 := h1
  obtain ⟨ad1, cap1, rfl⟩ := Rp.S_slice h1
  have h63 := Rp.S_len h1
  refine enterX ty tyok Try.func8 rfl Try.ntmps8 [.v (.slice ad1 l.length cap1)] (by simp) ?_
  intro C hP hQ hnt hty hmb hmh hro; have hQp := qp_body hQ; refine st_ ?_
  refine rn_ ?_; intros
  refine go_keep [0, 4] [] ?_
  refine st_ ?_
  refine x_loop rfl (fun q s => ∃ (k : Nat), k ≤ l.length ∧ q = l.length - k ∧ badT l 0 = badT (l.drop k) k ∧
    s = ⟨[(0, .v (.slice ad1 l.length cap1)), (4, .v (.int .i64 k))], [], G, []⟩) ⟨0, by omega, rfl, by simp, by simp⟩ ?_
  rintro q s ⟨k, hk, hq, hinv, rfl⟩ ih
  refine rn_ ?_; intros
  refine x_if rfl rfl rfl rfl (fun hjl => ?_) (fun hjl => ?_)
  · have hlt : k < l.length := by simp at hjl; omega
    obtain ⟨c1, o1, sa, cs, rfl, ha1, ht, hr⟩ := rT_at h10 (i := k) hlt
    rw [badT_drop hlt] at hinv
    refine rn_ ?_; intros
    refine go_q (by rw [hnt]; rfl) (quiet_index (by rw [hty]; rfl) (by rw [hty]; rfl) rfl rfl rfl (by omega) (by omega)) ?_
    refine rn_ ?_; intros
    refine go_q (by rw [hnt]; rfl) (quiet_load (by rw [hty]; rfl) rfl (by simp [TK.agg]) ha1 rfl) ?_
    refine rn_ ?_; intros
    refine go_callf (by rw [hnt]; rfl) (by rw [hP]; kernel_rfl) rfl (hP ▸ rright_ok l[k] _ G hr) ?_; refine rn_ ?_; intros
    refine x_split rfl rfl rfl (fun hv => ?_) (fun hv => ?_) <;> (refine st_ ?_; (refine ru_ ?_; intros))
    · refine rn_ ?_; intros
      refine x_retc rfl hQ hmb rfl (by rw [hty]; simp only [so, sq, zy, zz, tyE, SO', SQ', opQ, opStore, opAlloc, ev, putS, dOk, cv, SV.cs, SV.one, SV.bool?, eqB, Value.oneCell', ldOwn, binInt, binConst, binBool, binStr, isC, TK.agg, rv, rv1, ldV, resOne, resV, Nat.reduceAdd, Nat.reduceMul, Nat.reduceSub, Nat.reduceLT, Nat.reduceLeDiff, Nat.reduceEqDiff, Nat.reduceBEq, reduceIte, reduceCtorEq, eq_self]; try rfl) rfl ?_; simp only [SV.den, resV, dens]
      rw [if_neg (by simpa using hv)] at hinv
      rw [chk_some hinv]
    · rw [if_pos (by simpa using hv)] at hinv
      rw [wr (n := (k : Int) + 1) (by omega) (by omega)]
      refine go_keep [0, 4] [] ?_
      refine st_ ?_
      exact ih (l.length - (k + 1)) _ (by omega) ⟨k + 1, by omega, rfl, hinv, by simp⟩
  · have hge : k = l.length := by simp at hjl; omega
    subst hge
    rw [List.drop_length, badT] at hinv
    refine rn_ ?_; intros
    refine x_retc rfl hQ hmb rfl (by rw [hty]; simp only [so, sq, zy, zz, tyE, SO', SQ', opQ, opStore, opAlloc, ev, putS, dOk, cv, SV.cs, SV.one, SV.bool?, eqB, Value.oneCell', ldOwn, binInt, binConst, binBool, binStr, isC, TK.agg, rv, rv1, ldV, resOne, resV, Nat.reduceAdd, Nat.reduceMul, Nat.reduceSub, Nat.reduceLT, Nat.reduceLeDiff, Nat.reduceEqDiff, Nat.reduceBEq, reduceIte, reduceCtorEq, eq_self]; try rfl) rfl ?_; simp only [SV.den, resV, dens]
    rw [chk_none hinv]
def nxt (last : Int) (l : List Int) : Int × Bool := match l.find? (fun t => decide (last < t)) with
  | some t => (t, true)
  | none => match l with
    | [] => (0, false)
    | t :: _ => (t, true)
theorem find_drop {last : Int} {l : List Int} {k : Nat} (hk : k < l.length) : (l.drop k).find? (fun t => decide (last < t)) = if last < l[k] then some l[k] else (l.drop (k + 1)).find? (fun t => decide (last < t)) := by
  rw [List.drop_eq_getElem_cons hk, List.find?_cons]
  by_cases h : last < l[k] <;> simp [h]
theorem next_ok (last : Int) (l : List Int) (s1 : Value) (G : Hp) (h1 : rI.S G l s1) : Pure Try.prog 18 [.int .i64 last, s1] G (fun r _ => r = .tuple #[.int .i64 (nxt last l).1, .bool (nxt last l).2]) := by
  have h10 := h1
  obtain ⟨ad1, cap1, rfl⟩ := Rp.S_slice h1
  have h63 := Rp.S_len h1
  refine enterX ty tyok Try.func18 rfl Try.ntmps18 [.v (.int .i64 last), .v (.slice ad1 l.length cap1)] (by simp) ?_
  intro C hP hQ hnt hty hmb hmh hro; have hQp := qp_body hQ; refine st_ ?_
  refine rn_ ?_; intros
  refine x_split rfl rfl rfl (fun h0 => ?_) (fun h0 => ?_) <;> (refine st_ ?_; (refine ru_ ?_; intros))
  · refine rn_ ?_; intros
    refine x_retc rfl hQ hmb rfl (by rw [hty]; simp only [so, sq, zy, zz, tyE, SO', SQ', opQ, opStore, opAlloc, ev, putS, dOk, cv, SV.cs, SV.one, SV.bool?, eqB, Value.oneCell', ldOwn, binInt, binConst, binBool, binStr, isC, TK.agg, rv, rv1, ldV, resOne, resV, Nat.reduceAdd, Nat.reduceMul, Nat.reduceSub, Nat.reduceLT, Nat.reduceLeDiff, Nat.reduceEqDiff, Nat.reduceBEq, reduceIte, reduceCtorEq, eq_self]; try rfl) rfl ?_; simp only [SV.den, resV, dens]
    have e : l = [] := by have h : ((l.length : Int) == 0) = true := h0; rw [beq_iff_eq] at h; exact List.length_eq_zero_iff.1 (by omega)
    subst e; rfl
  have hpos : 0 < l.length := by have h : ((l.length : Int) == 0) = false := h0; rw [beq_eq_false_iff_ne] at h; omega
  refine rn_ ?_; intros
  refine go_keep [0, 1, 11, 12, 13] [] ?_
  refine st_ ?_
  refine x_loop rfl (fun q s => ∃ (k : Nat), k ≤ l.length ∧ q = l.length - k ∧ l.find? (fun t => decide (last < t)) = (l.drop k).find? (fun t => decide (last < t)) ∧
    s = ⟨[(0, .v (.int .i64 last)), (1, .v (.slice ad1 l.length cap1)), (11, .v (.slice ad1 l.length cap1)), (12, .v (.int .i64 l.length)), (13, .v (.int .i64 k))], [], G, []⟩) ⟨0, by omega, rfl, by simp, by simp⟩ ?_
  rintro q s ⟨k, hk, hq, hinv, rfl⟩ ih
  refine rn_ ?_; intros
  refine x_if rfl rfl rfl rfl (fun hjl => ?_) (fun hjl => ?_)
  · have hlt : k < l.length := by simp at hjl; omega
    obtain ⟨c1, o1, rfl, ha1⟩ := rI_at h10 (i := k) hlt
    rw [find_drop hlt] at hinv
    refine rn_ ?_; intros
    refine go_q (by rw [hnt]; rfl) (quiet_index (by rw [hty]; rfl) (by rw [hty]; rfl) rfl rfl rfl (by omega) (by omega)) ?_
    refine rn_ ?_; intros
    refine go_q (by rw [hnt]; rfl) (quiet_load (vs := [.int .i64 l[k]]) (by rw [hty]; rfl) rfl (by simp [TK.agg]) (by simpa using ha1) rfl) ?_
    refine rn_ ?_; intros
    refine x_split rfl rfl rfl (fun hv => ?_) (fun hv => ?_) <;> (refine st_ ?_; (refine ru_ ?_; intros))
    · refine rn_ ?_; intros
      refine x_retc rfl hQ hmb rfl (by rw [hty]; simp only [so, sq, zy, zz, tyE, SO', SQ', opQ, opStore, opAlloc, ev, putS, dOk, cv, SV.cs, SV.one, SV.bool?, eqB, Value.oneCell', ldOwn, binInt, binConst, binBool, binStr, isC, TK.agg, rv, rv1, ldV, resOne, resV, Nat.reduceAdd, Nat.reduceMul, Nat.reduceSub, Nat.reduceLT, Nat.reduceLeDiff, Nat.reduceEqDiff, Nat.reduceBEq, reduceIte, reduceCtorEq, eq_self]; try rfl) rfl ?_; simp only [SV.den, resV, dens]
      rw [if_pos (of_decide_eq_true hv)] at hinv
      simp only [nxt, hinv]
    · rw [if_neg (of_decide_eq_false hv)] at hinv
      rw [wr (n := (k : Int) + 1) (by omega) (by omega)]
      refine go_keep [0, 1, 11, 12, 13] [] ?_
      refine st_ ?_
      exact ih (l.length - (k + 1)) _ (by omega) ⟨k + 1, by omega, rfl, hinv, by simp⟩
  · have hge : k = l.length := by simp at hjl; omega
    subst hge
    rw [List.drop_length, List.find?_nil] at hinv
    obtain ⟨c1, o1, rfl, ha1⟩ := rI_at h10 (i := 0) hpos
    refine rn_ ?_; intros
    refine go_q (by rw [hnt]; rfl) (quiet_index (by rw [hty]; rfl) (by rw [hty]; rfl) rfl rfl rfl (by omega) (by omega)) ?_
    refine rn_ ?_; intros
    refine go_q (by rw [hnt]; rfl) (quiet_load (vs := [.int .i64 l[0]]) (by rw [hty]; rfl) rfl (by simp [TK.agg]) (by simpa using ha1) rfl) ?_
    refine rn_ ?_; intros
    refine x_retc rfl hQ hmb rfl (by rw [hty]; simp only [so, sq, zy, zz, tyE, SO', SQ', opQ, opStore, opAlloc, ev, putS, dOk, cv, SV.cs, SV.one, SV.bool?, eqB, Value.oneCell', ldOwn, binInt, binConst, binBool, binStr, isC, TK.agg, rv, rv1, ldV, resOne, resV, Nat.reduceAdd, Nat.reduceMul, Nat.reduceSub, Nat.reduceLT, Nat.reduceLeDiff, Nat.reduceEqDiff, Nat.reduceBEq, reduceIte, reduceCtorEq, eq_self]; try rfl) rfl ?_; simp only [SV.den, resV, dens]
    simp only [nxt, hinv]
    cases l with
    | nil => simp at hpos
    | cons x r => rfl
theorem of_ok (took : Int) (ad : Option Addr) (n c : Nat) (G : Hp) : Pure Try.prog 23 [.int .i64 took, .slice ad n c] G (fun r _ => r = .agg #[.slice ad n c, .int .i64 took]) := by
  refine enterX ty tyok Try.func23 rfl Try.ntmps23 [.v (.int .i64 took), .v (.slice ad n c)] (by simp) ?_
  intro C hP hQ hnt hty hmb hmh hro; have hQp := qp_body hQ; refine st_ ?_
  refine rn_ ?_; intros
  refine x_retc rfl hQ hmb rfl (by rw [hty]; simp only [so, sq, zy, zz, tyE, SO', SQ', opQ, opStore, opAlloc, ev, putS, dOk, cv, SV.cs, SV.one, SV.bool?, eqB, Value.oneCell', ldOwn, binInt, binConst, binBool, binStr, isC, TK.agg, rv, rv1, ldV, resOne, resV, Nat.reduceAdd, Nat.reduceMul, Nat.reduceSub, Nat.reduceLT, Nat.reduceLeDiff, Nat.reduceEqDiff, Nat.reduceBEq, reduceIte, reduceCtorEq, eq_self]; try rfl) rfl ?_; simp only [SV.den, resV, dens]
theorem index73_ok (n : Int) (hn : n = 3 ∨ n = 0) (G : Hp) : Pure Try.prog 21 [.int .u64 7, .int .i64 n] G (fun r _ => r = .tuple #[.int .i64 (if n = 3 then 1 else 0), .bool (n == 3)]) := by
  refine enterX ty tyok Try.func21 rfl Try.ntmps21 [.v (.int .u64 7), .v (.int .i64 n)] (by simp) ?_
  intro C hP hQ hnt hty hmb hmh hro; have hQp := qp_body hQ; refine st_ ?_
  refine rn_ ?_; intros
  rcases hn with rfl | rfl
  · (refine x_split rfl rfl rfl (fun hc => absurd hc (by first | decide +kernel | (simp <;> fail))) (fun _ => ?_); refine st_ ?_; (refine ru_ ?_; intros))
    refine rn_ ?_; intros
    rw [show IntKind.u64.wrap 3 = 3 from by decide]
    refine go_q (v := .int .u64 1) (by rw [hnt]; rfl) (quiet_bin rfl rfl rfl rfl rfl) ?_
    refine rn_ ?_; intros
    rw [show IntKind.i64.wrap 1 = 1 from by decide]
    refine x_retc rfl hQ hmb rfl (by rw [hty]; simp only [so, sq, zy, zz, tyE, SO', SQ', opQ, opStore, opAlloc, ev, putS, dOk, cv, SV.cs, SV.one, SV.bool?, eqB, Value.oneCell', ldOwn, binInt, binConst, binBool, binStr, isC, TK.agg, rv, rv1, ldV, resOne, resV, Nat.reduceAdd, Nat.reduceMul, Nat.reduceSub, Nat.reduceLT, Nat.reduceLeDiff, Nat.reduceEqDiff, Nat.reduceBEq, reduceIte, reduceCtorEq, eq_self]; try rfl) rfl ?_; simp only [SV.den, resV, dens]
    rfl
  · (refine x_split rfl rfl rfl (fun _ => ?_) (fun hc => absurd hc (by first | decide +kernel | (simp <;> fail))); refine st_ ?_; (refine ru_ ?_; intros))
    refine rn_ ?_; intros
    refine x_retc rfl hQ hmb rfl (by rw [hty]; simp only [so, sq, zy, zz, tyE, SO', SQ', opQ, opStore, opAlloc, ev, putS, dOk, cv, SV.cs, SV.one, SV.bool?, eqB, Value.oneCell', ldOwn, binInt, binConst, binBool, binStr, isC, TK.agg, rv, rv1, ldV, resOne, resV, Nat.reduceAdd, Nat.reduceMul, Nat.reduceSub, Nat.reduceLT, Nat.reduceLeDiff, Nat.reduceEqDiff, Nat.reduceBEq, reduceIte, reduceCtorEq, eq_self]; try rfl) rfl ?_; simp only [SV.den, resV, dens]
    rfl
def fewT (l : List Tn) : Nat → Bool
  | 0 => true
  | m + 1 => match l with
    | [] => true
    | x :: r => decide (x.runs.length ≤ 12) && fewT r m
def fewQ (l : List Tn) (m : Nat) : Bool := fewT l (m + 1) && decide (l.length ≤ m)
theorem few_ok (l : List Tn) (s1 : Value) (m : Nat) (hm : m ≤ 1000) (G : Hp) (h1 : rT.S G l s1) : Pure Try.prog 6 [s1, .int .i64 m] G (fun r _ => r = .bool (fewQ l m)) := by
  have h10 := h1
  obtain ⟨ad1, cap1, rfl⟩ := Rp.S_slice h1
  have h63 := Rp.S_len h1
  refine enterX ty tyok Try.func6 rfl Try.ntmps6 [.v (.slice ad1 l.length cap1), .v (.int .i64 m)] (by simp) ?_
  intro C hP hQ hnt hty hmb hmh hro; have hQp := qp_body hQ; refine st_ ?_
  refine rn_ ?_; intros
  refine go_keep [0, 1, 5] [] ?_
  refine st_ ?_
  refine x_loop rfl (fun q s => ∃ (k : Nat), k ≤ l.length ∧ k ≤ m + 1 ∧ q = l.length - k ∧ fewT l (m + 1) = fewT (l.drop k) (m + 1 - k) ∧
    s = ⟨[(0, .v (.slice ad1 l.length cap1)), (1, .v (.int .i64 m)), (5, .v (.int .i64 k))], [], G, []⟩) ⟨0, by omega, by omega, rfl, by simp, by simp⟩ ?_
  rintro q s ⟨k, hk, hkm, hq, hinv, rfl⟩ ih
  refine rn_ ?_; intros
  refine go_gsplit rfl rfl (fun hjl => ?_) (fun hjl => ?_) <;> (refine st_ ?_; (refine rn_ ?_; intros))
  · have hlt : k < l.length := by have := of_decide_eq_true hjl; omega
    refine x_if rfl rfl rfl rfl (fun hkm2 => ?_) (fun hkm2 => ?_)
    · have hkm' : k ≤ m := by simp at hkm2; omega
      obtain ⟨c1, o1, sa, cs, rfl, ha1, ht, hr⟩ := rT_at h10 (i := k) hlt
      have ha2 : At G c1 (o1 + k * 2) [.slice sa l[k].runs.length cs] := by simpa using ha1.sub 0 1 (by simp)
      rw [List.drop_eq_getElem_cons hlt, show m + 1 - k = (m + 1 - (k + 1)) + 1 by omega, fewT] at hinv
      refine rn_ ?_; intros
      refine go_q (by rw [hnt]; rfl) (quiet_index (by rw [hty]; rfl) (by rw [hty]; rfl) rfl rfl rfl (by omega) (by omega)) ?_
      refine rn_ ?_; intros
      refine go_q (by rw [hnt]; rfl) (quiet_load (by rw [hty]; rfl) rfl (by simp [TK.agg]) ha2 rfl) ?_; refine rn_ ?_; intros
      refine x_split rfl rfl rfl (fun h12 => ?_) (fun h12 => ?_) <;> (refine st_ ?_; (refine ru_ ?_; intros))
      · refine rn_ ?_; intros
        refine x_retc rfl hQ hmb rfl (by rw [hty]; simp only [so, sq, zy, zz, tyE, SO', SQ', opQ, opStore, opAlloc, ev, putS, dOk, cv, SV.cs, SV.one, SV.bool?, eqB, Value.oneCell', ldOwn, binInt, binConst, binBool, binStr, isC, TK.agg, rv, rv1, ldV, resOne, resV, Nat.reduceAdd, Nat.reduceMul, Nat.reduceSub, Nat.reduceLT, Nat.reduceLeDiff, Nat.reduceEqDiff, Nat.reduceBEq, reduceIte, reduceCtorEq, eq_self]; try rfl) rfl ?_; simp only [SV.den, resV, dens]
        rw [fewQ, hinv, decide_eq_false (by have := of_decide_eq_true h12; omega)]; rfl
      · rw [decide_eq_true (by have := of_decide_eq_false h12; omega), Bool.true_and] at hinv
        rw [wr (n := (k : Int) + 1) (by omega) (by omega)]
        refine go_keep [0, 1, 5] [] ?_
        refine st_ ?_
        exact ih (l.length - (k + 1)) _ (by omega) ⟨k + 1, by omega, by omega, rfl, hinv, by simp⟩
    · have hkm' : k = m + 1 := by simp at hkm2; omega
      refine rn_ ?_; intros
      refine x_retc rfl hQ hmb rfl (by rw [hty]; simp only [so, sq, zy, zz, tyE, SO', SQ', opQ, opStore, opAlloc, ev, putS, dOk, cv, SV.cs, SV.one, SV.bool?, eqB, Value.oneCell', ldOwn, binInt, binConst, binBool, binStr, isC, TK.agg, rv, rv1, ldV, resOne, resV, Nat.reduceAdd, Nat.reduceMul, Nat.reduceSub, Nat.reduceLT, Nat.reduceLeDiff, Nat.reduceEqDiff, Nat.reduceBEq, reduceIte, reduceCtorEq, eq_self]; try rfl) rfl ?_; simp only [SV.den, resV, dens]
      rw [fewQ, decide_eq_false (by omega), decide_eq_false (by omega), Bool.and_false]
  · have hge : k = l.length := by have := of_decide_eq_false hjl; omega
    repeat (refine go_gundef rfl (by rw [hnt]; rfl) rfl ?_; (refine st_ ?_; (refine rn_ ?_; intros)))
    refine rn_ ?_; intros
    refine x_retc rfl hQ hmb rfl (by rw [hty]; simp only [so, sq, zy, zz, tyE, SO', SQ', opQ, opStore, opAlloc, ev, putS, dOk, cv, SV.cs, SV.one, SV.bool?, eqB, Value.oneCell', ldOwn, binInt, binConst, binBool, binStr, isC, TK.agg, rv, rv1, ldV, resOne, resV, Nat.reduceAdd, Nat.reduceMul, Nat.reduceSub, Nat.reduceLT, Nat.reduceLeDiff, Nat.reduceEqDiff, Nat.reduceBEq, reduceIte, reduceCtorEq, eq_self]; try rfl) rfl ?_; simp only [SV.den, resV, dens]
    rw [hge, List.drop_length] at hinv
    rw [fewQ, hinv]
    have : fewT [] (m + 1 - l.length) = true := by cases m + 1 - l.length <;> rfl
    rw [this, Bool.true_and]
    try (congr 1; simp)
end Go.Proofs.Ytcaohcmlicbjhaa
namespace Go.Proofs.Ytcaohcmlicbjhaa
set_option linter.unusedSimpArgs false
set_option linter.unusedVariables false
open Go.Sx
set_option maxHeartbeats 4000000
theorem same_ok (l : List Tn) (s1 s2 : Value) (G : Hp) (h1 : rT.S G l s1) (h2 : rT.S G l s2) : Pure Try.prog 16 [s1, s2] G (fun r _ => r = .bool true) := by
  have h10 := h1
  have h20 := h2
  obtain ⟨ad1, cap1, rfl⟩ := Rp.S_slice h1
  obtain ⟨ad2, cap2, rfl⟩ := Rp.S_slice h2
  have h63 := Rp.S_len h1
  refine enterX ty tyok Try.func16 rfl Try.ntmps16 [.v (.slice ad1 l.length cap1), .v (.slice ad2 l.length cap2)] (by simp) ?_
  intro C hP hQ hnt hty hmb hmh hro; have hQp := qp_body hQ; refine st_ ?_
  refine rn_ ?_; intros
  repeat ((refine x_split rfl rfl rfl (fun hc => absurd hc (by simp)) (fun _ => ?_); refine st_ ?_; (refine ru_ ?_; intros)))
  refine rn_ ?_; intros
  refine go_keep [0, 1, 5] [] ?_
  refine st_ ?_
  refine x_loop rfl (fun q s => ∃ (k : Nat), k ≤ l.length ∧ q = l.length - k ∧
    s = ⟨[(0, .v (.slice ad1 l.length cap1)), (1, .v (.slice ad2 l.length cap2)), (5, .v (.int .i64 k))], [], G, []⟩) ⟨0, by omega, rfl, by simp⟩ ?_
  rintro q s ⟨k, hk, hq, rfl⟩ ih
  refine rn_ ?_; intros
  refine x_if rfl rfl rfl rfl (fun hjl => ?_) (fun hjl => ?_)
  · have hlt : k < l.length := by simp at hjl; omega
    obtain ⟨c1, o1, sa1, cs1, rfl, ha1, ht1, hr1⟩ := rT_at h10 (i := k) hlt
    obtain ⟨c2, o2, sa2, cs2, rfl, ha2, ht2, hr2⟩ := rT_at h20 (i := k) hlt
    have ha1a : At G c1 (o1 + k * 2) [.slice sa1 l[k].runs.length cs1] := by simpa using ha1.sub 0 1 (by simp)
    have ha1b : At G c1 (o1 + k * 2 + 1) [.int .i64 l[k].took] := by simpa using ha1.sub 1 1 (by simp)
    have ha2a : At G c2 (o2 + k * 2) [.slice sa2 l[k].runs.length cs2] := by simpa using ha2.sub 0 1 (by simp)
    have ha2b : At G c2 (o2 + k * 2 + 1) [.int .i64 l[k].took] := by simpa using ha2.sub 1 1 (by simp)
    have hrl := Rp.S_len hr1
    refine rn_ ?_; intros
    refine x_draw rfl (by rw [hP]; kernel_rfl) rfl (by kernel_rfl) ?_
    refine runq 400 hty hnt ?_; refine st_ ?_
    refine q_q (by rw [hnt]; rfl) (quiet_index (by rw [hty]; rfl) (by rw [hty]; rfl) rfl rfl rfl (by omega) (by omega)) ?_; refine runq 400 hty hnt ?_; refine st_ ?_
    refine q_q (by rw [hnt]; rfl) (quiet_load (by rw [hty]; rfl) rfl (by simp [TK.agg]) ha1b rfl) ?_; refine runq 400 hty hnt ?_; refine st_ ?_
    refine q_q (by rw [hnt]; rfl) (quiet_index (by rw [hty]; rfl) (by rw [hty]; rfl) rfl rfl rfl (by omega) (by omega)) ?_; refine runq 400 hty hnt ?_; refine st_ ?_
    refine q_q (by rw [hnt]; rfl) (quiet_load (by rw [hty]; rfl) rfl (by simp [TK.agg]) ha2b rfl) ?_; refine runq 400 hty hnt ?_; refine st_ ?_
    (refine go_qsplit rfl rfl (fun hc => absurd hc (by simp)) (fun _ => ?_); refine st_ ?_; (try (refine runq 400 hty hnt ?_; refine st_ ?_)))
    refine q_q (by rw [hnt]; rfl) (quiet_index (by rw [hty]; rfl) (by rw [hty]; rfl) rfl rfl rfl (by omega) (by omega)) ?_; refine runq 400 hty hnt ?_; refine st_ ?_
    refine q_q (by rw [hnt]; rfl) (quiet_load (by rw [hty]; rfl) rfl (by simp [TK.agg]) ha1a rfl) ?_; refine runq 400 hty hnt ?_; refine st_ ?_
    refine q_q (by rw [hnt]; rfl) (quiet_index (by rw [hty]; rfl) (by rw [hty]; rfl) rfl rfl rfl (by omega) (by omega)) ?_; refine runq 400 hty hnt ?_; refine st_ ?_
    refine q_q (by rw [hnt]; rfl) (quiet_load (by rw [hty]; rfl) rfl (by simp [TK.agg]) ha2a rfl) ?_; refine runq 400 hty hnt ?_; refine st_ ?_
    refine q_end ?_; refine rn_ ?_; intros
    repeat ((refine x_split rfl rfl rfl (fun hc => absurd hc (by simp)) (fun _ => ?_); refine st_ ?_; (refine ru_ ?_; intros)))
    refine rn_ ?_; intros
    refine go_keep [0, 1, 5, 6] [] ?_
    refine st_ ?_
    refine x_loop rfl (fun q s => ∃ (m : Nat), m ≤ l[k].runs.length ∧ q = l[k].runs.length - m ∧
      s = ⟨[(0, .v (.slice (some ⟨c1, o1, none⟩) l.length cap1)), (1, .v (.slice (some ⟨c2, o2, none⟩) l.length cap2)), (5, .v (.int .i64 k)), (6, .v (.int .i64 m))], [], G, []⟩) ⟨0, by omega, rfl, by simp⟩ ?_
    rintro q s ⟨m, hm, hq, rfl⟩ ihk
    refine rn_ ?_; intros
    refine go_q (by rw [hnt]; rfl) (quiet_index (by rw [hty]; rfl) (by rw [hty]; rfl) rfl rfl rfl (by omega) (by omega)) ?_
    refine rn_ ?_; intros
    refine go_q (by rw [hnt]; rfl) (quiet_load (by rw [hty]; rfl) rfl (by simp [TK.agg]) ha1a rfl) ?_; refine rn_ ?_; intros
    refine x_if rfl rfl rfl rfl (fun hml => ?_) (fun hml => ?_)
    · have hmt : m < l[k].runs.length := by simp at hml; omega
      obtain ⟨d1, p1, rfl, hb1⟩ := rI_at hr1 (i := m) hmt
      obtain ⟨d2, p2, rfl, hb2⟩ := rI_at hr2 (i := m) hmt
      refine rn_ ?_; intros
      refine x_draw rfl (by rw [hP]; kernel_rfl) rfl (by kernel_rfl) ?_
      refine runq 400 hty hnt ?_; refine st_ ?_
      refine q_q (by rw [hnt]; rfl) (quiet_index (by rw [hty]; rfl) (by rw [hty]; rfl) rfl rfl rfl (by omega) (by omega)) ?_; refine runq 400 hty hnt ?_; refine st_ ?_
      refine q_q (by rw [hnt]; rfl) (quiet_load (by rw [hty]; rfl) rfl (by simp [TK.agg]) ha1a rfl) ?_; refine runq 400 hty hnt ?_; refine st_ ?_
      refine q_q (by rw [hnt]; rfl) (quiet_index (by rw [hty]; rfl) (by rw [hty]; rfl) rfl rfl rfl (by omega) (by omega)) ?_; refine runq 400 hty hnt ?_; refine st_ ?_
      refine q_q (by rw [hnt]; rfl) (quiet_load (vs := [.int .i64 l[k].runs[m]]) (by rw [hty]; rfl) rfl (by simp [TK.agg]) (by simpa using hb1) rfl) ?_
      refine runq 400 hty hnt ?_; refine st_ ?_
      refine q_q (by rw [hnt]; rfl) (quiet_index (by rw [hty]; rfl) (by rw [hty]; rfl) rfl rfl rfl (by omega) (by omega)) ?_; refine runq 400 hty hnt ?_; refine st_ ?_
      refine q_q (by rw [hnt]; rfl) (quiet_load (by rw [hty]; rfl) rfl (by simp [TK.agg]) ha2a rfl) ?_; refine runq 400 hty hnt ?_; refine st_ ?_
      refine q_q (by rw [hnt]; rfl) (quiet_index (by rw [hty]; rfl) (by rw [hty]; rfl) rfl rfl rfl (by omega) (by omega)) ?_; refine runq 400 hty hnt ?_; refine st_ ?_
      refine q_q (by rw [hnt]; rfl) (quiet_load (vs := [.int .i64 l[k].runs[m]]) (by rw [hty]; rfl) rfl (by simp [TK.agg]) (by simpa using hb2) rfl) ?_
      refine runq 400 hty hnt ?_; refine st_ ?_
      refine q_end ?_; refine rn_ ?_; intros
      repeat ((refine x_split rfl rfl rfl (fun hc => absurd hc (by simp)) (fun _ => ?_); refine st_ ?_; (refine ru_ ?_; intros)))
      rw [wr (n := (m : Int) + 1) (by omega) (by omega)]
      refine go_keep [0, 1, 5, 6] [] ?_
      refine st_ ?_
      exact ihk (l[k].runs.length - (m + 1)) _ (by omega) ⟨m + 1, by omega, rfl, by simp⟩
    clear ihk hml hq hm
    refine rn_ ?_; intros
    rw [wr (n := (k : Int) + 1) (by omega) (by omega)]
    refine go_keep [0, 1, 5] [] ?_
    refine st_ ?_
    exact ih (l.length - (k + 1)) _ (by omega) ⟨k + 1, by omega, rfl, by simp⟩
  · have hge : k = l.length := by simp at hjl; omega
    subst hge
    refine rn_ ?_; intros
    refine x_retc rfl hQ hmb rfl (by rw [hty]; simp only [so, sq, zy, zz, tyE, SO', SQ', opQ, opStore, opAlloc, ev, putS, dOk, cv, SV.cs, SV.one, SV.bool?, eqB, Value.oneCell', ldOwn, binInt, binConst, binBool, binStr, isC, TK.agg, rv, rv1, ldV, resOne, resV, Nat.reduceAdd, Nat.reduceMul, Nat.reduceSub, Nat.reduceLT, Nat.reduceLeDiff, Nat.reduceEqDiff, Nat.reduceBEq, reduceIte, reduceCtorEq, eq_self]; try rfl) rfl ?_; simp only [SV.den, resV, dens]
theorem rep_one (v : Value) : ∀ n, rep [v] n = List.replicate n v
  | 0 => rfl
  | n + 1 => by simp only [rep, List.replicate_succ, rep_one v n]; rfl
theorem lay1 {α : Type} {A : List α} {f : α → Value} {i off : Nat} (x : α) {v : Value} (h : i < A.length) (ho : off = i) (hv : v = f x) : lay (A.map f) off [v] = some ((A.set i x).map f) := by
  subst ho hv
  rw [lay_put (by simp; omega)]
  simp only [List.length_singleton]
  rw [List.map_set, List.set_eq_take_append_cons_drop, if_pos (by simpa using h)]
  simp
theorem take_set1 {xs l : List Int} {k : Nat} (hk : k < l.length) (hl : xs.length = l.length) (h : xs.take k = l.take k) : (xs.set k l[k]).take (k + 1) = l.take (k + 1) := by
  rw [← List.take_append_getElem hk, ← List.take_append_getElem (show k < (xs.set k l[k]).length by simp; omega), List.getElem_set_self, List.take_set, List.set_eq_of_length_le (by simp; omega), h]
def rK (k : IntKind) : Rp Int where
  size := 1
  e _ x cs := cs = [.int k x] ∧ 0 ≤ x ∧ x < 256
  mono _ h := h
  len h := by rw [h.1]; rfl
  one h u hu := by rw [h.1] at hu; simp at hu; rw [hu]; rfl
theorem rK_at {G : Hp} {q : IntKind} {l : List Int} {ad : Option Addr} {n cap : Nat} (h : (rK q).S G l (.slice ad n cap)) {i : Nat} (hi : i < l.length) : ∃ b off, ad = some ⟨b, off, none⟩ ∧ At G b (off + i) [.int q l[i]] ∧ 0 ≤ l[i] ∧ l[i] < 256 := by
  obtain ⟨b, off, cap', c, hv, hat, rfl, h2⟩ := Rp.S_get h hi
  cases hv
  exact ⟨b, off, rfl, by simpa [rK] using hat, h2⟩
theorem rK_L {G : Hp} {q : IntKind} : ∀ {l : List Int}, (∀ x ∈ l, 0 ≤ x ∧ x < 256) → (rK q).L G l (l.map (Value.int q ·))
  | [], _ => rfl
  | x :: l, h => ⟨[.int q x], l.map (Value.int q ·), rfl, ⟨rfl, h x (by simp)⟩, rK_L fun y hy => h y (by simp [hy])⟩
theorem picks_ok (l : List Int) (s1 : Value) (G : Hp) (h1 : (rK .u8).S G l s1) (hb : l.length ≤ 1000) : Pure Try.prog 22 [s1] G (fun r G' => (rK .u64).S G' l r) := by
  have h10 := h1
  obtain ⟨ad1, cap1, rfl⟩ := Rp.S_slice h1
  refine enterX ty tyok Try.func22 rfl Try.ntmps22 [.v (.slice ad1 l.length cap1)] (by simp) ?_
  intro C hP hQ hnt hty hmb hmh hro; have hQp := qp_body hQ; refine st_ ?_
  refine rn_ ?_; intros
  refine x_split rfl rfl rfl (fun h0 => ?_) (fun h0 => ?_) <;> (refine st_ ?_; (refine ru_ ?_; intros))
  · have e : l = [] := by have h : ((l.length : Int) == 0) = true := h0; rw [beq_iff_eq] at h; exact List.length_eq_zero_iff.1 (by omega)
    subst e
    refine rn_ ?_; intros
    refine x_retc rfl hQ hmb rfl (by rw [hty]; simp only [so, sq, zy, zz, tyE, SO', SQ', opQ, opStore, opAlloc, ev, putS, dOk, cv, SV.cs, SV.one, SV.bool?, eqB, Value.oneCell', ldOwn, binInt, binConst, binBool, binStr, isC, TK.agg, rv, rv1, ldV, resOne, resV, Nat.reduceAdd, Nat.reduceMul, Nat.reduceSub, Nat.reduceLT, Nat.reduceLeDiff, Nat.reduceEqDiff, Nat.reduceBEq, reduceIte, reduceCtorEq, eq_self]; try rfl) rfl ?_; simp only [SV.den, resV, dens]
    exact Rp.S_nil _ _
  refine rn_ ?_; intros
  refine go_make 41 (by rw [hnt]; rfl) (by rw [hty]; rfl) (by rw [hty]; rfl) rfl rfl (Nat.le_refl _) rfl (by omega) (by omega) (by simp only []; omega) (by simp) ?_
  intro g1
  refine st_ ?_
  refine rn_ ?_; intros
  refine go_keep [3, 12, 13, 14] [41] ?_
  refine st_ ?_
  refine x_loop rfl (fun q s => ∃ (k : Nat) (xs : List Int), k ≤ l.length ∧ q = l.length - k ∧ xs.length = l.length ∧ xs.take k = l.take k ∧
    s = ⟨[(3, .v (.slice (some ⟨g1, 0, none⟩) l.length l.length)), (12, .v (.slice ad1 l.length cap1)), (13, .v (.int .i64 l.length)), (14, .v (.int .i64 k))],
      [(41, g1, .row (.slice (some ⟨g1, 0, none⟩) l.length l.length) 52 1 l.length (xs.map (Value.int .u64 ·)))], G, []⟩) ⟨0, List.replicate l.length 0, by omega, rfl, by simp, rfl, by rw [rep_one]; simp⟩ ?_
  rintro q s ⟨k, xs, hk, hq, hxl, hxs, rfl⟩ ih
  refine rn_ ?_; intros
  refine x_if rfl rfl rfl rfl (fun hjl => ?_) (fun hjl => ?_)
  · have hlt : k < l.length := by simp at hjl; omega
    obtain ⟨c1, o1, rfl, ha1, hx0, hx1⟩ := rK_at h10 (i := k) hlt
    refine rn_ ?_; intros
    refine go_q (by rw [hnt]; rfl) (quiet_index (by rw [hty]; rfl) (by rw [hty]; rfl) rfl rfl rfl (by omega) (by omega)) ?_
    refine rn_ ?_; intros
    refine go_q (by rw [hnt]; rfl) (quiet_load (vs := [.int .u8 l[k]]) (by rw [hty]; rfl) rfl (by simp [TK.agg]) (by simpa using ha1) rfl) ?_
    refine rn_ ?_; intros
    refine go_q (by rw [hnt]; rfl) (quiet_index (by rw [hty]; rfl) (by rw [hty]; rfl) rfl rfl rfl (by omega) (by omega)) ?_
    refine rn_ ?_; intros
    have hw : IntKind.u64.wrap l[k] = l[k] := by rw [show IntKind.u64.wrap l[k] = l[k] % 18446744073709551616 from by simp [IntKind.wrap, IntKind.bits, IntKind.signed]]; omega
    rw [hw]
    refine go_storeR 41 rfl (by rw [hty]; rfl) rfl rfl rfl rfl rfl rfl (lay1 (i := k) l[k] (by omega) (by simp) rfl) ?_
    refine rn_ ?_; intros
    rw [wr (n := (k : Int) + 1) (by omega) (by omega)]
    refine go_keep [3, 12, 13, 14] [41] ?_
    refine st_ ?_
    exact ih (l.length - (k + 1)) _ (by omega) ⟨k + 1, xs.set k l[k], by omega, rfl, by simp [hxl], take_set1 hlt hxl hxs, rfl⟩
  · have hge : k = l.length := by simp at hjl; omega
    subst hge
    rw [← hxl, List.take_length, hxl, List.take_length] at hxs
    subst hxs
    have hok : ∀ x ∈ xs, 0 ≤ x ∧ x < 256 := fun x hx => by
      obtain ⟨i, hi, rfl⟩ := List.getElem_of_mem hx
      obtain ⟨_, _, _, _, h⟩ := rK_at h10 (i := i) hi
      exact h
    refine go_pubL (rK .u64) 41 rfl (by omega) (ts := xs) (by omega) (by omega) (rK_L hok) ?_
    rintro G1 ad2 cap2 (hle1 : Le G G1) hse hS1
    injection hse with e1 _ e3
    subst e1 e3
    refine rn_ ?_; intros
    refine x_retc rfl hQ hmb rfl (by rw [hty]; simp only [so, sq, zy, zz, tyE, SO', SQ', opQ, opStore, opAlloc, ev, putS, dOk, cv, SV.cs, SV.one, SV.bool?, eqB, Value.oneCell', ldOwn, binInt, binConst, binBool, binStr, isC, TK.agg, rv, rv1, ldV, resOne, resV, Nat.reduceAdd, Nat.reduceMul, Nat.reduceSub, Nat.reduceLT, Nat.reduceLeDiff, Nat.reduceEqDiff, Nat.reduceBEq, reduceIte, reduceCtorEq, eq_self]; try rfl) rfl ?_; simp only [SV.den, resV, dens]
    exact hS1
theorem rep_len {α : Type} (z : List α) (n : Nat) : (rep z n).length = n * z.length := by
  induction n with
  | zero => simp [rep]
  | succ n ih => simp only [rep, List.length_append, ih, Nat.succ_mul]; omega
def upI (n : Nat) : List Int := (List.range n).map fun (i : Nat) => (i : Int)
def rndT (n turns : Nat) : List Tn := (List.range turns).map fun i => ⟨upI n, ((i % n : Nat) : Int)⟩
def rndB (n turns : Int) : Bool := decide (n < 1) || decide (4096 < n) || decide (turns < 0) || decide (4096 < turns)
def rnd (n turns : Int) : List Tn × Int := if rndB n turns then ([], 2) else (rndT n.toNat turns.toNat, 0)
theorem upI_len (n : Nat) : (upI n).length = n := by simp [upI]
theorem upI_get {n k : Nat} (h : k < (upI n).length) : (upI n)[k] = (k : Int) := by simp [upI]
theorem rem_ok {m n : Nat} (h : n ≠ 0) : binConst .rem .i64 .i64 (m : Int) (n : Int) = some (.int .i64 ((m % n : Nat) : Int)) := by
  simp only [binConst, if_true]; rw [if_neg (by omega)]; rfl
theorem round_ok (n turns : Int) (G : Hp) (hn : isI64 n) (ht : isI64 turns) : Pure Try.prog 14 [.int .i64 n, .int .i64 turns] G (fun r G' => ∃ sl, r = .tuple #[sl, .int .i64 (rnd n turns).2] ∧ rT.S G' (rnd n turns).1 sl) := by
  refine enterX ty tyok Try.func14 rfl Try.ntmps14 [.v (.int .i64 n), .v (.int .i64 turns)] (by simp) ?_
  intro C hP hQ hnt hty hmb hmh hro; have hQp := qp_body hQ; refine st_ ?_
  refine rn_ ?_; intros
  refine go_gsplit rfl rfl (fun h1 => ?_) (fun h1 => ?_) <;> (refine st_ ?_; (refine rn_ ?_; intros))
  · repeat (refine go_gundef rfl (by rw [hnt]; rfl) rfl ?_; (refine st_ ?_; (refine rn_ ?_; intros)))
    refine rn_ ?_; intros
    refine x_retc rfl hQ hmb rfl (by rw [hty]; simp only [so, sq, zy, zz, tyE, SO', SQ', opQ, opStore, opAlloc, ev, putS, dOk, cv, SV.cs, SV.one, SV.bool?, eqB, Value.oneCell', ldOwn, binInt, binConst, binBool, binStr, isC, TK.agg, rv, rv1, ldV, resOne, resV, Nat.reduceAdd, Nat.reduceMul, Nat.reduceSub, Nat.reduceLT, Nat.reduceLeDiff, Nat.reduceEqDiff, Nat.reduceBEq, reduceIte, reduceCtorEq, eq_self]; try rfl) rfl ?_; simp only [SV.den, resV, dens]
    have hr : rnd n turns = ([], 2) := by
      have := of_decide_eq_true h1
      rw [rnd, if_pos (by simp only [rndB, Bool.or_eq_true, decide_eq_true_eq]; omega)]
    rw [hr]
    exact ⟨_, rfl, Rp.S_nil _ _⟩
  refine go_gsplit rfl rfl (fun h2 => ?_) (fun h2 => ?_) <;> (refine st_ ?_; (refine rn_ ?_; intros))
  · repeat (refine go_gundef rfl (by rw [hnt]; rfl) rfl ?_; (refine st_ ?_; (refine rn_ ?_; intros)))
    refine rn_ ?_; intros
    refine x_retc rfl hQ hmb rfl (by rw [hty]; simp only [so, sq, zy, zz, tyE, SO', SQ', opQ, opStore, opAlloc, ev, putS, dOk, cv, SV.cs, SV.one, SV.bool?, eqB, Value.oneCell', ldOwn, binInt, binConst, binBool, binStr, isC, TK.agg, rv, rv1, ldV, resOne, resV, Nat.reduceAdd, Nat.reduceMul, Nat.reduceSub, Nat.reduceLT, Nat.reduceLeDiff, Nat.reduceEqDiff, Nat.reduceBEq, reduceIte, reduceCtorEq, eq_self]; try rfl) rfl ?_; simp only [SV.den, resV, dens]
    have hr : rnd n turns = ([], 2) := by
      have := of_decide_eq_true h2
      rw [rnd, if_pos (by simp only [rndB, Bool.or_eq_true, decide_eq_true_eq]; omega)]
    rw [hr]
    exact ⟨_, rfl, Rp.S_nil _ _⟩
  refine go_gsplit rfl rfl (fun h3 => ?_) (fun h3 => ?_) <;> (refine st_ ?_; (refine rn_ ?_; intros))
  · repeat (refine go_gundef rfl (by rw [hnt]; rfl) rfl ?_; (refine st_ ?_; (refine rn_ ?_; intros)))
    refine rn_ ?_; intros
    refine x_retc rfl hQ hmb rfl (by rw [hty]; simp only [so, sq, zy, zz, tyE, SO', SQ', opQ, opStore, opAlloc, ev, putS, dOk, cv, SV.cs, SV.one, SV.bool?, eqB, Value.oneCell', ldOwn, binInt, binConst, binBool, binStr, isC, TK.agg, rv, rv1, ldV, resOne, resV, Nat.reduceAdd, Nat.reduceMul, Nat.reduceSub, Nat.reduceLT, Nat.reduceLeDiff, Nat.reduceEqDiff, Nat.reduceBEq, reduceIte, reduceCtorEq, eq_self]; try rfl) rfl ?_; simp only [SV.den, resV, dens]
    have hr : rnd n turns = ([], 2) := by
      have := of_decide_eq_true h3
      rw [rnd, if_pos (by simp only [rndB, Bool.or_eq_true, decide_eq_true_eq]; omega)]
    rw [hr]
    exact ⟨_, rfl, Rp.S_nil _ _⟩
  refine x_split rfl rfl rfl (fun h4 => ?_) (fun h4 => ?_) <;> (refine st_ ?_; (refine ru_ ?_; intros))
  · repeat (refine go_gundef rfl (by rw [hnt]; rfl) rfl ?_; (refine st_ ?_; (refine rn_ ?_; intros)))
    refine rn_ ?_; intros
    refine x_retc rfl hQ hmb rfl (by rw [hty]; simp only [so, sq, zy, zz, tyE, SO', SQ', opQ, opStore, opAlloc, ev, putS, dOk, cv, SV.cs, SV.one, SV.bool?, eqB, Value.oneCell', ldOwn, binInt, binConst, binBool, binStr, isC, TK.agg, rv, rv1, ldV, resOne, resV, Nat.reduceAdd, Nat.reduceMul, Nat.reduceSub, Nat.reduceLT, Nat.reduceLeDiff, Nat.reduceEqDiff, Nat.reduceBEq, reduceIte, reduceCtorEq, eq_self]; try rfl) rfl ?_; simp only [SV.den, resV, dens]
    have hr : rnd n turns = ([], 2) := by
      have := of_decide_eq_true h4
      rw [rnd, if_pos (by simp only [rndB, Bool.or_eq_true, decide_eq_true_eq]; omega)]
    rw [hr]
    exact ⟨_, rfl, Rp.S_nil _ _⟩
  obtain ⟨N, rfl⟩ : ∃ N : Nat, n = N := ⟨n.toNat, by have := of_decide_eq_false h1; omega⟩
  obtain ⟨M, rfl⟩ : ∃ M : Nat, turns = M := ⟨turns.toNat, by have := of_decide_eq_false h3; omega⟩
  have p1 := of_decide_eq_false h1
  have p2 := of_decide_eq_false h2
  have p4 := of_decide_eq_false h4
  have hr : rnd (N : Int) (M : Int) = (rndT N M, 0) := by
    rw [rnd, if_neg (by simp only [rndB, Bool.or_eq_true, decide_eq_true_eq]; omega)]
    simp only [Int.toNat_natCast]
  clear h1 h2 h3 h4
  refine rn_ ?_; intros
  refine x_split rfl rfl rfl (fun h0 => ?_) (fun h0 => ?_) <;> (refine st_ ?_; (refine ru_ ?_; intros))
  · refine rn_ ?_; intros
    refine x_retc rfl hQ hmb rfl (by rw [hty]; simp only [so, sq, zy, zz, tyE, SO', SQ', opQ, opStore, opAlloc, ev, putS, dOk, cv, SV.cs, SV.one, SV.bool?, eqB, Value.oneCell', ldOwn, binInt, binConst, binBool, binStr, isC, TK.agg, rv, rv1, ldV, resOne, resV, Nat.reduceAdd, Nat.reduceMul, Nat.reduceSub, Nat.reduceLT, Nat.reduceLeDiff, Nat.reduceEqDiff, Nat.reduceBEq, reduceIte, reduceCtorEq, eq_self]; try rfl) rfl ?_; simp only [SV.den, resV, dens]
    have e : M = 0 := by have h : ((M : Int) == 0) = true := h0; rw [beq_iff_eq] at h; omega
    subst e
    rw [hr]
    exact ⟨_, rfl, Rp.S_nil _ _⟩
  have hM0 : 0 < M := by have h : ((M : Int) == 0) = false := h0; rw [beq_eq_false_iff_ne] at h; omega
  refine rn_ ?_; intros
  refine go_make 41 (by rw [hnt]; rfl) (by rw [hty]; rfl) (by rw [hty]; rfl) rfl rfl (Nat.le_refl _) rfl (by omega) (by omega) (by simp only []; omega) (by simp) ?_
  intro g1
  refine st_ ?_
  refine rn_ ?_; intros
  refine go_keep [0, 6, 29, 30] [41] ?_
  refine st_ ?_
  refine x_loop rfl (fun q s => ∃ (i : Nat) (xs : List Value) (G' : Hp), i ≤ M ∧ q = M - i ∧ Le G G' ∧ xs.length = M * 2 ∧ rT.L G' (rndT N i) (xs.take (i * 2)) ∧
    s = ⟨[(0, .v (.int .i64 N)), (6, .v (.slice (some ⟨g1, 0, none⟩) M M)), (29, .v (.int .i64 M)), (30, .v (.int .i64 i))],
      [(41, g1, .row (.slice (some ⟨g1, 0, none⟩) M M) 46 2 M xs)], G', []⟩) ⟨0, _, G, by omega, rfl, Le.refl _, by simp [rep_len], by simp [rndT]; rfl, rfl⟩ ?_
  rintro q s ⟨i, xs, G1, hi, hq, hle1, hxl, hL, rfl⟩ ih
  refine rn_ ?_; intros
  refine x_if rfl rfl rfl rfl (fun hil => ?_) (fun hil => ?_)
  · have hlt : i < M := by simp at hil; omega
    refine rn_ ?_; intros
    refine go_make 42 (by rw [hnt]; rfl) (by rw [hty]; rfl) (by rw [hty]; rfl) rfl rfl (Nat.le_refl _) rfl (by omega) (by omega) (by simp only []; omega) (by simp) ?_
    intro g2
    refine st_ ?_
    refine rn_ ?_; intros
    refine go_keep [0, 6, 7, 8, 29, 30, 36, 37] [41, 42] ?_
    refine st_ ?_
    have hul := upI_len N
    refine x_loop rfl (fun q s => ∃ (k : Nat) (zs : List Int), k ≤ N ∧ q = N - k ∧ zs.length = N ∧ zs.take k = (upI N).take k ∧
      s = ⟨[(0, .v (.int .i64 N)), (6, .v (.slice (some ⟨g1, 0, none⟩) M M)), (7, .v (.int .i64 i)), (8, .v (.slice (some ⟨g2, 0, none⟩) N N)), (29, .v (.int .i64 M)), (30, .v (.int .i64 i)), (36, .v (.int .i64 N)), (37, .v (.int .i64 k))],
        [(41, g1, .row (.slice (some ⟨g1, 0, none⟩) M M) 46 2 M xs), (42, g2, .row (.slice (some ⟨g2, 0, none⟩) N N) 3 1 N (zs.map (Value.int .i64 ·)))], G1, []⟩) ⟨0, List.replicate N 0, by omega, rfl, by simp, rfl, by rw [rep_one]; simp⟩ ?_
    rintro q s ⟨k, zs, hk, hq, hzl, hzs, rfl⟩ ihk
    refine rn_ ?_; intros
    refine x_if rfl rfl rfl rfl (fun hjl => ?_) (fun hjl => ?_)
    · have hklt : k < N := by simp at hjl; omega
      refine rn_ ?_; intros
      refine go_q (by rw [hnt]; rfl) (quiet_index (by rw [hty]; rfl) (by rw [hty]; rfl) rfl rfl rfl (by omega) (by omega)) ?_
      refine rn_ ?_; intros
      refine go_storeR 42 rfl (by rw [hty]; rfl) rfl rfl rfl rfl rfl rfl (lay1 (i := k) (k : Int) (by omega) (by simp) rfl) ?_
      refine rn_ ?_; intros
      rw [wr (n := (k : Int) + 1) (by omega) (by omega)]
      refine go_keep [0, 6, 7, 8, 29, 30, 36, 37] [41, 42] ?_
      refine st_ ?_
      have hts := take_set1 (xs := zs) (l := upI N) (k := k) (by omega) (by omega) hzs
      rw [upI_get] at hts
      exact ihk (N - (k + 1)) _ (by omega) ⟨k + 1, zs.set k k, by omega, rfl, by simp [hzl], hts, rfl⟩
    have hge : k = N := by simp at hjl; omega
    subst hge
    clear ihk hjl hq hk
    rw [List.take_of_length_le (by omega), List.take_of_length_le (by omega)] at hzs
    subst hzs
    refine go_pubL rI 42 rfl (by omega) (ts := upI k) (by omega) (by omega) (rI_L.2 ⟨rfl, fun x hx => by simp [upI] at hx; obtain ⟨a, ha, rfl⟩ := hx; simp only [isI64]; omega⟩) ?_
    rintro G2 ad2 cap2 (hle2 : Le G1 G2) hse hS2
    injection hse with e1 _ e3
    subst e1 e3
    refine rn_ ?_; intros
    refine go_q (v := .int .i64 ((i % k : Nat) : Int)) (by rw [hnt]; rfl) (quiet_bin rfl rfl rfl rfl (rem_ok (by omega))) ?_
    refine rn_ ?_; intros
    refine go_q (by rw [hnt]; rfl) (quiet_index (by rw [hty]; rfl) (by rw [hty]; rfl) rfl rfl rfl (by omega) (by omega)) ?_
    refine rn_ ?_; intros
    have hml := Nat.mod_lt i (show 0 < k by omega)
    have hlay := lay_put (xs := xs) (c := [.slice (some ⟨g2, 0, none⟩) k k, .int .i64 ((i % k : Nat) : Int)]) (m := i * 2) (by simp; omega)
    refine go_storeR 41 rfl (by rw [hty]; rfl) rfl rfl rfl rfl rfl rfl hlay ?_
    refine rn_ ?_; intros
    rw [wr (n := (i : Int) + 1) (by omega) (by omega)]
    refine go_keep [0, 6, 29, 30] [41] ?_
    refine st_ ?_
    rw [hul] at hS2
    exact ih (M - (i + 1)) _ (by omega) ⟨i + 1, xs.take (i * 2) ++ [.slice (some ⟨g2, 0, none⟩) k k, .int .i64 ((i % k : Nat) : Int)] ++ xs.drop (i * 2 + 2), G2, by omega, rfl, hle1.trans hle2, by simp; omega, by
      rw [List.take_append_of_le_length (by simp; omega), List.take_of_length_le (by simp; omega)]
      have : rndT k (i + 1) = rndT k i ++ [⟨upI k, ((i % k : Nat) : Int)⟩] := by simp [rndT, List.range_succ]
      rw [this]
      exact Rp.L_append (Rp.L_mono hle2 hL) (Rp.L_single ⟨_, rfl, by simp only [isI64]; omega, by rw [hul] at *; exact hS2⟩), by simp⟩
  have hge : i = M := by simp at hil; omega
  subst hge
  rw [List.take_of_length_le (by omega)] at hL
  have hrl : (rndT N i).length = i := by simp [rndT]
  refine go_pubL rT 41 rfl (by omega) (ts := rndT N i) (by omega) (by omega) hL ?_
  rintro G2 ad2 cap2 (hle2 : Le G1 G2) hse hS2
  injection hse with e1 _ e3
  subst e1 e3
  refine rn_ ?_; intros
  refine x_retc rfl hQ hmb rfl (by rw [hty]; simp only [so, sq, zy, zz, tyE, SO', SQ', opQ, opStore, opAlloc, ev, putS, dOk, cv, SV.cs, SV.one, SV.bool?, eqB, Value.oneCell', ldOwn, binInt, binConst, binBool, binStr, isC, TK.agg, rv, rv1, ldV, resOne, resV, Nat.reduceAdd, Nat.reduceMul, Nat.reduceSub, Nat.reduceLT, Nat.reduceLeDiff, Nat.reduceEqDiff, Nat.reduceBEq, reduceIte, reduceCtorEq, eq_self]; try rfl) rfl ?_; simp only [SV.den, resV, dens]
  rw [hr]
  exact ⟨_, rfl, by rw [hrl] at hS2; exact hS2⟩
end Go.Proofs.Ytcaohcmlicbjhaa
namespace Go.Proofs.Ytcaohcmlicbjhaa
set_option linter.unusedSimpArgs false
set_option linter.unusedVariables false
open Go.Sx
set_option maxHeartbeats 4000000
theorem rround_ok (n turns : Int) (G : Hp) (hn : isI64 n) (ht : isI64 turns) : Pure Try.prog 15 [.int .i64 n, .int .i64 turns] G (fun r G' => ∃ sl, r = .tuple #[sl, .int .i64 (rnd n turns).2] ∧ rT.S G' (rnd n turns).1 sl) := by
  refine enterX ty tyok Try.func15 rfl Try.ntmps15 [.v (.int .i64 n), .v (.int .i64 turns)] (by simp) ?_
  intro C hP hQ hnt hty hmb hmh hro; have hQp := qp_body hQ; refine st_ ?_
  refine rn_ ?_; intros
  refine go_gsplit rfl rfl (fun h1 => ?_) (fun h1 => ?_) <;> (refine st_ ?_; (refine rn_ ?_; intros))
  · repeat (refine go_gundef rfl (by rw [hnt]; rfl) rfl ?_; (refine st_ ?_; (refine rn_ ?_; intros)))
    refine rn_ ?_; intros
    refine x_retc rfl hQ hmb rfl (by rw [hty]; simp only [so, sq, zy, zz, tyE, SO', SQ', opQ, opStore, opAlloc, ev, putS, dOk, cv, SV.cs, SV.one, SV.bool?, eqB, Value.oneCell', ldOwn, binInt, binConst, binBool, binStr, isC, TK.agg, rv, rv1, ldV, resOne, resV, Nat.reduceAdd, Nat.reduceMul, Nat.reduceSub, Nat.reduceLT, Nat.reduceLeDiff, Nat.reduceEqDiff, Nat.reduceBEq, reduceIte, reduceCtorEq, eq_self]; try rfl) rfl ?_; simp only [SV.den, resV, dens]
    have hr : rnd n turns = ([], 2) := by
      have := of_decide_eq_true h1
      rw [rnd, if_pos (by simp only [rndB, Bool.or_eq_true, decide_eq_true_eq]; omega)]
    rw [hr]
    exact ⟨_, rfl, Rp.S_nil _ _⟩
  refine go_gsplit rfl rfl (fun h2 => ?_) (fun h2 => ?_) <;> (refine st_ ?_; (refine rn_ ?_; intros))
  · repeat (refine go_gundef rfl (by rw [hnt]; rfl) rfl ?_; (refine st_ ?_; (refine rn_ ?_; intros)))
    refine rn_ ?_; intros
    refine x_retc rfl hQ hmb rfl (by rw [hty]; simp only [so, sq, zy, zz, tyE, SO', SQ', opQ, opStore, opAlloc, ev, putS, dOk, cv, SV.cs, SV.one, SV.bool?, eqB, Value.oneCell', ldOwn, binInt, binConst, binBool, binStr, isC, TK.agg, rv, rv1, ldV, resOne, resV, Nat.reduceAdd, Nat.reduceMul, Nat.reduceSub, Nat.reduceLT, Nat.reduceLeDiff, Nat.reduceEqDiff, Nat.reduceBEq, reduceIte, reduceCtorEq, eq_self]; try rfl) rfl ?_; simp only [SV.den, resV, dens]
    have hr : rnd n turns = ([], 2) := by
      have := of_decide_eq_true h2
      rw [rnd, if_pos (by simp only [rndB, Bool.or_eq_true, decide_eq_true_eq]; omega)]
    rw [hr]
    exact ⟨_, rfl, Rp.S_nil _ _⟩
  refine go_gsplit rfl rfl (fun h3 => ?_) (fun h3 => ?_) <;> (refine st_ ?_; (refine rn_ ?_; intros))
  · repeat (refine go_gundef rfl (by rw [hnt]; rfl) rfl ?_; (refine st_ ?_; (refine rn_ ?_; intros)))
    refine rn_ ?_; intros
    refine x_retc rfl hQ hmb rfl (by rw [hty]; simp only [so, sq, zy, zz, tyE, SO', SQ', opQ, opStore, opAlloc, ev, putS, dOk, cv, SV.cs, SV.one, SV.bool?, eqB, Value.oneCell', ldOwn, binInt, binConst, binBool, binStr, isC, TK.agg, rv, rv1, ldV, resOne, resV, Nat.reduceAdd, Nat.reduceMul, Nat.reduceSub, Nat.reduceLT, Nat.reduceLeDiff, Nat.reduceEqDiff, Nat.reduceBEq, reduceIte, reduceCtorEq, eq_self]; try rfl) rfl ?_; simp only [SV.den, resV, dens]
    have hr : rnd n turns = ([], 2) := by
      have := of_decide_eq_true h3
      rw [rnd, if_pos (by simp only [rndB, Bool.or_eq_true, decide_eq_true_eq]; omega)]
    rw [hr]
    exact ⟨_, rfl, Rp.S_nil _ _⟩
  refine x_split rfl rfl rfl (fun h4 => ?_) (fun h4 => ?_) <;> (refine st_ ?_; (refine ru_ ?_; intros))
  · repeat (refine go_gundef rfl (by rw [hnt]; rfl) rfl ?_; (refine st_ ?_; (refine rn_ ?_; intros)))
    refine rn_ ?_; intros
    refine x_retc rfl hQ hmb rfl (by rw [hty]; simp only [so, sq, zy, zz, tyE, SO', SQ', opQ, opStore, opAlloc, ev, putS, dOk, cv, SV.cs, SV.one, SV.bool?, eqB, Value.oneCell', ldOwn, binInt, binConst, binBool, binStr, isC, TK.agg, rv, rv1, ldV, resOne, resV, Nat.reduceAdd, Nat.reduceMul, Nat.reduceSub, Nat.reduceLT, Nat.reduceLeDiff, Nat.reduceEqDiff, Nat.reduceBEq, reduceIte, reduceCtorEq, eq_self]; try rfl) rfl ?_; simp only [SV.den, resV, dens]
    have hr : rnd n turns = ([], 2) := by
      have := of_decide_eq_true h4
      rw [rnd, if_pos (by simp only [rndB, Bool.or_eq_true, decide_eq_true_eq]; omega)]
    rw [hr]
    exact ⟨_, rfl, Rp.S_nil _ _⟩
  obtain ⟨N, rfl⟩ : ∃ N : Nat, n = N := ⟨n.toNat, by have := of_decide_eq_false h1; omega⟩
  obtain ⟨M, rfl⟩ : ∃ M : Nat, turns = M := ⟨turns.toNat, by have := of_decide_eq_false h3; omega⟩
  have p1 := of_decide_eq_false h1
  have p2 := of_decide_eq_false h2
  have p4 := of_decide_eq_false h4
  have hr : rnd (N : Int) (M : Int) = (rndT N M, 0) := by
    rw [rnd, if_neg (by simp only [rndB, Bool.or_eq_true, decide_eq_true_eq]; omega)]
    simp only [Int.toNat_natCast]
  clear h1 h2 h3 h4
  refine rn_ ?_; intros
  refine go_nilrow 41 46 2 rfl (by omega) ?_
  refine go_keep [0, 1, 6, 7] [41] ?_
  refine st_ ?_
  refine x_loop rfl (fun q s => ∃ (i : Nat) (xs : List Value) (v : Value) (G' : Hp), i ≤ M ∧ q = M - i ∧ Le G G' ∧ rT.L G' (rndT N i) xs ∧
    s = ⟨[(0, .v (.int .i64 N)), (1, .v (.int .i64 M)), (6, .v v), (7, .v (.int .i64 i))],
      [(41, 0, .row v 46 2 i xs)], G', []⟩) ⟨0, [], _, G, by omega, rfl, Le.refl _, rfl, rfl⟩ ?_
  rintro q s ⟨i, xs, v, G1, hi, hq, hle1, hL, rfl⟩ ih
  refine go_rowS 41 rfl ?_
  rintro ad cap rfl
  have hxl := Rp.L_len hL
  have hrl : (rndT N i).length = i := by simp [rndT]
  rw [hrl] at hxl
  refine rn_ ?_; intros
  refine x_if rfl rfl rfl rfl (fun hil => ?_) (fun hil => ?_)
  · have hlt : i < M := by simp at hil; omega
    refine rn_ ?_; intros
    refine go_nilrow 42 3 1 rfl (by omega) ?_
    refine go_keep [0, 1, 6, 7, 8, 9] [41, 42] ?_
    refine st_ ?_
    refine x_loop rfl (fun q s => ∃ (k : Nat) (u : Value), k ≤ N ∧ q = N - k ∧
      s = ⟨[(0, .v (.int .i64 N)), (1, .v (.int .i64 M)), (6, .v (.slice ad i cap)), (7, .v (.int .i64 i)), (8, .v u), (9, .v (.int .i64 k))],
        [(41, 0, .row (.slice ad i cap) 46 2 i xs), (42, 0, .row u 3 1 k ((upI k).map (Value.int .i64 ·)))], G1, []⟩) ⟨0, _, by omega, rfl, rfl⟩ ?_
    rintro q s ⟨k, u, hk, hq, rfl⟩ ihk
    refine go_rowS 42 rfl ?_
    rintro ad2 cap2 rfl
    refine rn_ ?_; intros
    refine x_if rfl rfl rfl rfl (fun hjl => ?_) (fun hjl => ?_)
    · have hklt : k < N := by simp at hjl; omega
      refine rn_ ?_; intros
      refine go_append 42 (by rw [hnt]; rfl) (by rw [hty]; rfl) (by rw [hty]; rfl) (by decide) rfl rfl rfl (by omega) rfl (src_own 1 rfl rfl) rfl (by simp [dens, SV.den, Value.oneCell']) (by omega) (by simp only []; omega) ?_
      intro v'
      refine rn_ ?_; intros
      rw [wr (n := (k : Int) + 1) (by omega) (by omega)]
      refine go_keep [0, 1, 6, 7, 8, 9] [41, 42] ?_
      refine st_ ?_
      exact ihk (N - (k + 1)) _ (by omega) ⟨k + 1, v', by omega, rfl, by simp [upI, List.range_succ, dens, SV.den]⟩
    have hge : k = N := by simp at hjl; omega
    subst hge
    clear ihk hjl hq hk
    refine go_pubL rI 42 rfl (by omega) (ts := upI k) (by simp [upI]) (by omega) (rI_L.2 ⟨rfl, fun x hx => by simp [upI] at hx; obtain ⟨a, ha, rfl⟩ := hx; simp only [isI64]; omega⟩) ?_
    rintro G2 ad3 cap3 (hle2 : Le G1 G2) hse hS2
    rw [upI_len] at hse hS2
    injection hse with e1 _ e3
    subst e1 e3
    refine rn_ ?_; intros
    refine go_q (v := .int .i64 ((i % k : Nat) : Int)) (by rw [hnt]; rfl) (quiet_bin rfl rfl rfl rfl (rem_ok (by omega))) ?_
    refine rn_ ?_; intros
    have hml := Nat.mod_lt i (show 0 < k by omega)
    refine go_append 41 (by rw [hnt]; rfl) (by rw [hty]; rfl) (by rw [hty]; rfl) (by decide) rfl rfl rfl (by omega) rfl (src_own 2 rfl rfl) rfl (by simp [dens, SV.den, Value.oneCell']) (by omega) (by simp only []; omega) ?_
    intro v'
    refine rn_ ?_; intros
    rw [wr (n := (i : Int) + 1) (by omega) (by omega)]
    refine go_keep [0, 1, 6, 7] [41] ?_
    refine st_ ?_
    exact ih (M - (i + 1)) _ (by omega) ⟨i + 1, xs ++ [.slice ad2 k cap2, .int .i64 ((i % k : Nat) : Int)], v', G2, by omega, rfl, hle1.trans hle2, by
      have : rndT k (i + 1) = rndT k i ++ [⟨upI k, ((i % k : Nat) : Int)⟩] := by simp [rndT, List.range_succ]
      rw [this]
      exact Rp.L_append (Rp.L_mono hle2 hL) (Rp.L_single ⟨_, rfl, by simp only [isI64]; omega, by rw [← upI_len k] at hS2; simpa [upI_len] using hS2⟩), by simp [dens, SV.den]⟩
  have hge : i = M := by simp at hil; omega
  subst hge
  refine go_pubL rT 41 rfl (by omega) (ts := rndT N i) (by omega) (by omega) hL ?_
  rintro G2 ad2 cap2 (hle2 : Le G1 G2) hse hS2
  rw [hrl] at hse hS2
  injection hse with e1 _ e3
  subst e1 e3
  refine rn_ ?_; intros
  refine x_retc rfl hQ hmb rfl (by rw [hty]; simp only [so, sq, zy, zz, tyE, SO', SQ', opQ, opStore, opAlloc, ev, putS, dOk, cv, SV.cs, SV.one, SV.bool?, eqB, Value.oneCell', ldOwn, binInt, binConst, binBool, binStr, isC, TK.agg, rv, rv1, ldV, resOne, resV, Nat.reduceAdd, Nat.reduceMul, Nat.reduceSub, Nat.reduceLT, Nat.reduceLeDiff, Nat.reduceEqDiff, Nat.reduceBEq, reduceIte, reduceCtorEq, eq_self]; try rfl) rfl ?_; simp only [SV.den, resV, dens]
  rw [hr]
  exact ⟨_, rfl, hS2⟩
def wSt (t : Int) (s : Nat × Nat) (x : Tn) : Nat × Nat := let n := if inB x.runs t && x.took != t then s.2 + 1 else 0; (max s.1 n, n)
def waitF (l : List Tn) (t : Int) : Nat × Nat := l.foldl (wSt t) (0, 0)
def wentF (l : List Tn) (t : Int) : Nat := (l.filter fun x => x.took == t).length
theorem waitF_snoc {l : List Tn} {k : Nat} (h : k < l.length) (t : Int) : waitF (l.take (k + 1)) t = wSt t (waitF (l.take k) t) l[k] := by
  rw [← List.take_append_getElem h, waitF, List.foldl_append]; rfl
theorem waitF_le (t : Int) : ∀ (l : List Tn) (s : Nat × Nat), s.2 ≤ s.1 → (l.foldl (wSt t) s).2 ≤ (l.foldl (wSt t) s).1 ∧ (l.foldl (wSt t) s).1 ≤ s.1 + l.length
  | [], s, h => by simp [h]
  | x :: l, s, h => by
    have := waitF_le t l (wSt t s x) (by simp only [wSt]; omega)
    simp only [List.foldl_cons, List.length_cons]
    have h2 : (wSt t s x).1 ≤ s.1 + 1 := by simp only [wSt]; split <;> omega
    omega
theorem waitF_bd (l : List Tn) (t : Int) : (waitF l t).2 ≤ (waitF l t).1 ∧ (waitF l t).1 ≤ l.length := by
  have := waitF_le t l (0, 0) (by simp)
  simpa [waitF] using this
theorem wentF_snoc {l : List Tn} {k : Nat} (h : k < l.length) (t : Int) : wentF (l.take (k + 1)) t = wentF (l.take k) t + if l[k].took == t then 1 else 0 := by
  rw [← List.take_append_getElem h, wentF, List.filter_append, List.length_append, wentF]
  by_cases q : l[k].took == t <;> simp [q]
theorem wentF_le (l : List Tn) (t : Int) : wentF l t ≤ l.length := List.length_filter_le _ _
theorem rwent_ok (l : List Tn) (s1 : Value) (t : Int) (G : Hp) (h1 : rT.S G l s1) : Pure Try.prog 13 [s1, .int .i64 t] G (fun r _ => r = .int .i64 (wentF l t)) := by
  have h10 := h1
  obtain ⟨ad1, cap1, rfl⟩ := Rp.S_slice h1
  have h63 := Rp.S_len h1
  refine enterX ty tyok Try.func13 rfl Try.ntmps13 [.v (.slice ad1 l.length cap1), .v (.int .i64 t)] (by simp) ?_
  intro C hP hQ hnt hty hmb hmh hro; have hQp := qp_body hQ; refine st_ ?_
  refine rn_ ?_; intros
  refine go_keep [0, 1, 5, 6] [] ?_
  refine st_ ?_
  refine x_loop rfl (fun q s => ∃ (k : Nat), k ≤ l.length ∧ q = l.length - k ∧
    s = ⟨[(0, .v (.slice ad1 l.length cap1)), (1, .v (.int .i64 t)), (5, .v (.int .i64 (wentF (l.take k) t))), (6, .v (.int .i64 k))], [], G, []⟩) ⟨0, by omega, rfl, by simp [wentF]⟩ ?_
  rintro q s ⟨k, hk, hq, rfl⟩ ih
  refine rn_ ?_; intros
  refine x_if rfl rfl rfl rfl (fun hjl => ?_) (fun hjl => ?_)
  · have hlt : k < l.length := by simp at hjl; omega
    obtain ⟨c1, o1, sa, cs, rfl, ha1, ht, hr⟩ := rT_at h10 (i := k) hlt
    have ha1b : At G c1 (o1 + k * 2 + 1) [.int .i64 l[k].took] := by simpa using ha1.sub 1 1 (by simp)
    have hs := wentF_snoc hlt t
    have hle := wentF_le (l.take k) t
    simp only [List.length_take] at hle
    refine rn_ ?_; intros
    refine go_q (by rw [hnt]; rfl) (quiet_index (by rw [hty]; rfl) (by rw [hty]; rfl) rfl rfl rfl (by omega) (by omega)) ?_
    refine rn_ ?_; intros
    refine go_q (by rw [hnt]; rfl) (quiet_load (by rw [hty]; rfl) rfl (by simp [TK.agg]) ha1b rfl) ?_; refine rn_ ?_; intros
    refine x_split rfl rfl rfl (fun he => ?_) (fun he => ?_) <;> (refine st_ ?_; (refine ru_ ?_; intros))
    · rw [if_pos (by simpa using he)] at hs
      rw [wr (n := ((wentF (l.take k) t : Nat) : Int) + 1) (by omega) (by omega), wr (n := (k : Int) + 1) (by omega) (by omega)]
      refine go_keep [0, 1, 5, 6] [] ?_
      refine st_ ?_
      exact ih (l.length - (k + 1)) _ (by omega) ⟨k + 1, by omega, rfl, by rw [hs]; simp⟩
    · rw [if_neg (by simpa using he), Nat.add_zero] at hs
      rw [wr (n := (k : Int) + 1) (by omega) (by omega)]
      refine go_keep [0, 1, 5, 6] [] ?_
      refine st_ ?_
      exact ih (l.length - (k + 1)) _ (by omega) ⟨k + 1, by omega, rfl, by rw [hs]; simp⟩
  · have hge : k = l.length := by simp at hjl; omega
    subst hge
    rw [List.take_length]
    refine rn_ ?_; intros
    refine x_retc rfl hQ hmb rfl (by rw [hty]; simp only [so, sq, zy, zz, tyE, SO', SQ', opQ, opStore, opAlloc, ev, putS, dOk, cv, SV.cs, SV.one, SV.bool?, eqB, Value.oneCell', ldOwn, binInt, binConst, binBool, binStr, isC, TK.agg, rv, rv1, ldV, resOne, resV, Nat.reduceAdd, Nat.reduceMul, Nat.reduceSub, Nat.reduceLT, Nat.reduceLeDiff, Nat.reduceEqDiff, Nat.reduceBEq, reduceIte, reduceCtorEq, eq_self]; try rfl) rfl ?_; simp only [SV.den, resV, dens]
theorem rwait_ok (l : List Tn) (s1 : Value) (t : Int) (G : Hp) (h1 : rT.S G l s1) : Pure Try.prog 12 [s1, .int .i64 t] G (fun r _ => r = .int .i64 (waitF l t).1) := by
  have h10 := h1
  obtain ⟨ad1, cap1, rfl⟩ := Rp.S_slice h1
  have h63 := Rp.S_len h1
  refine enterX ty tyok Try.func12 rfl Try.ntmps12 [.v (.slice ad1 l.length cap1), .v (.int .i64 t)] (by simp) ?_
  intro C hP hQ hnt hty hmb hmh hro; have hQp := qp_body hQ; refine st_ ?_
  refine rn_ ?_; intros
  refine go_keep [0, 1, 5, 6, 7] [] ?_
  refine st_ ?_
  refine x_loop rfl (fun q s => ∃ (k : Nat), k ≤ l.length ∧ q = l.length - k ∧
    s = ⟨[(0, .v (.slice ad1 l.length cap1)), (1, .v (.int .i64 t)), (5, .v (.int .i64 (waitF (l.take k) t).1)), (6, .v (.int .i64 (waitF (l.take k) t).2)), (7, .v (.int .i64 k))], [], G, []⟩) ⟨0, by omega, rfl, by simp [waitF]⟩ ?_
  rintro q s ⟨k, hk, hq, rfl⟩ ih
  refine rn_ ?_; intros
  refine x_if rfl rfl rfl rfl (fun hjl => ?_) (fun hjl => ?_)
  · have hlt : k < l.length := by simp at hjl; omega
    obtain ⟨c1, o1, sa, cs, rfl, ha1, ht, hr⟩ := rT_at h10 (i := k) hlt
    have ha1a : At G c1 (o1 + k * 2) [.slice sa l[k].runs.length cs] := by simpa using ha1.sub 0 1 (by simp)
    have ha1b : At G c1 (o1 + k * 2 + 1) [.int .i64 l[k].took] := by simpa using ha1.sub 1 1 (by simp)
    have hs := waitF_snoc hlt t
    have hb := waitF_bd (l.take k) t
    simp only [List.length_take] at hb
    rcases hw : waitF (l.take k) t with ⟨B, n⟩
    rw [hw] at hs hb
    simp only [wSt] at hs hb
    refine rn_ ?_; intros
    refine go_q (by rw [hnt]; rfl) (quiet_index (by rw [hty]; rfl) (by rw [hty]; rfl) rfl rfl rfl (by omega) (by omega)) ?_
    refine rn_ ?_; intros
    refine go_q (by rw [hnt]; rfl) (quiet_load (by rw [hty]; rfl) rfl (by simp [TK.agg]) ha1a rfl) ?_; refine rn_ ?_; intros
    refine go_callf (by rw [hnt]; rfl) (by rw [hP]; kernel_rfl) rfl (hP ▸ rin_ok l[k].runs _ t G hr) ?_; refine rn_ ?_; intros
    refine go_gsplit rfl rfl (fun hin => ?_) (fun hin => ?_) <;> (refine st_ ?_; (refine rn_ ?_; intros))
    · rw [hin] at hs
      refine go_q (by rw [hnt]; rfl) (quiet_index (by rw [hty]; rfl) (by rw [hty]; rfl) rfl rfl rfl (by omega) (by omega)) ?_
      refine rn_ ?_; intros
      refine go_q (by rw [hnt]; rfl) (quiet_load (by rw [hty]; rfl) rfl (by simp [TK.agg]) ha1b rfl) ?_; refine rn_ ?_; intros
      refine x_split rfl rfl rfl (fun hne => ?_) (fun hne => ?_) <;> (refine st_ ?_; (refine ru_ ?_; intros))
      · rw [show (l[k].took != t) = true from hne] at hs
        simp only [Bool.and_self, if_true] at hs
        rw [wr (n := (n : Int) + 1) (by omega) (by omega), wr (n := (k : Int) + 1) (by omega) (by omega), show (if (B : Int) < (n : Int) + 1 then (n : Int) + 1 else (B : Int)) = ((max B (n + 1) : Nat) : Int) by split <;> omega]
        refine go_keep [0, 1, 5, 6, 7] [] ?_
        refine st_ ?_
        exact ih (l.length - (k + 1)) _ (by omega) ⟨k + 1, by omega, rfl, by rw [hs]; simp⟩
      · rw [show (l[k].took != t) = false from hne] at hs
        simp only [Bool.and_false, Bool.false_eq_true, if_false] at hs
        rw [wr (n := (k : Int) + 1) (by omega) (by omega), show (if (B : Int) < 0 then (0 : Int) else (B : Int)) = ((max B 0 : Nat) : Int) by split <;> omega]
        refine go_keep [0, 1, 5, 6, 7] [] ?_
        refine st_ ?_
        exact ih (l.length - (k + 1)) _ (by omega) ⟨k + 1, by omega, rfl, by rw [hs]; simp⟩
    · rw [hin] at hs
      repeat (refine go_gundef rfl (by rw [hnt]; rfl) rfl ?_; (refine st_ ?_; (refine rn_ ?_; intros)))
      simp only [Bool.false_and, Bool.false_eq_true, if_false] at hs
      rw [wr (n := (k : Int) + 1) (by omega) (by omega), show (if (B : Int) < 0 then (0 : Int) else (B : Int)) = ((max B 0 : Nat) : Int) by split <;> omega]
      refine go_keep [0, 1, 5, 6, 7] [] ?_
      refine st_ ?_
      exact ih (l.length - (k + 1)) _ (by omega) ⟨k + 1, by omega, rfl, by rw [hs]; simp⟩
  · have hge : k = l.length := by simp at hjl; omega
    subst hge
    rw [List.take_length]
    refine rn_ ?_; intros
    refine x_retc rfl hQ hmb rfl (by rw [hty]; simp only [so, sq, zy, zz, tyE, SO', SQ', opQ, opStore, opAlloc, ev, putS, dOk, cv, SV.cs, SV.one, SV.bool?, eqB, Value.oneCell', ldOwn, binInt, binConst, binBool, binStr, isC, TK.agg, rv, rv1, ldV, resOne, resV, Nat.reduceAdd, Nat.reduceMul, Nat.reduceSub, Nat.reduceLT, Nat.reduceLeDiff, Nat.reduceEqDiff, Nat.reduceBEq, reduceIte, reduceCtorEq, eq_self]; try rfl) rfl ?_; simp only [SV.den, resV, dens]
end Go.Proofs.Ytcaohcmlicbjhaa
namespace Go.Proofs.Ytcaohcmlicbjhaa
set_option linter.unusedSimpArgs false
set_option linter.unusedVariables false
open Go.RowKit Go.Maps Go.Sort Go.Shelf
def keysA_ren : Go.Shelf.Ren := ⟨fun | 7 => 33 | 10 => 38 | n => n, fun | 23 => 64 | 26 => 3 | 3 => 60 | 28 => 68 | 0 => 0 | 27 => 67 | 33 => 71 | 4 => 4 | n => n, fun | n => n⟩
theorem keysA : Go.Proofs.SlLaysZI.n7 Try.prog keysA_ren where
  mixed := by kernel_rfl
  f7 := ⟨Try.f33.name, by decide, Try.func33.trans (congrArg some (by kernel_rfl))⟩
  f10 := ⟨Try.f38.name, by decide, Try.func38.trans (congrArg some (by kernel_rfl))⟩
  t0 := Try.underlying0
  a0 := Try.isAgg0
  z0 := Try.sizeOf0
  v0 := Try.zeroValue0
  t4 := Try.underlying4
  a4 := Try.isAgg4
  z4 := Try.sizeOf4
  v4 := Try.zeroValue4
  t23 := Try.underlying64
  a23 := Try.isAgg64
  z23 := Try.sizeOf64
  v23 := Try.zeroValue64
  t26 := Try.underlying3
  a26 := Try.isAgg3
  z26 := Try.sizeOf3
  v26 := Try.zeroValue3
  t27 := Try.underlying67
  a27 := Try.isAgg67
  z27 := Try.sizeOf67
  v27 := Try.zeroValue67
  t28 := Try.underlying68
  a28 := Try.isAgg68
  z28 := Try.sizeOf68
  v28 := Try.zeroValue68
  t33 := Try.underlying71
  a33 := Try.isAgg71
  z33 := Try.sizeOf71
  v33 := Try.zeroValue71
def sortedA_ren : Go.Shelf.Ren := ⟨fun | 6 => 32 | 8 => 36 | 9 => 37 | 11 => 40 | 13 => 42 | 12 => 41 | 23 => 52 | 24 => 53 | 14 => 43 | 15 => 44 | 16 => 45 | 17 => 46 | 18 => 47 | 19 => 48 | 20 => 49 | 21 => 50 | 22 => 51 | 25 => 54 | 26 => 55 | 27 => 56 | 28 => 57 | 29 => 58 | 30 => 59 | 31 => 60 | n => n, fun | 26 => 3 | 28 => 68 | 24 => 25 | 0 => 0 | 3 => 3 | 37 => 76 | 48 => 85 | 50 => 52 | 4 => 4 | 40 => 79 | 39 => 78 | 45 => 43 | 5 => 5 | 9 => 9 | 51 => 87 | 55 => 91 | 57 => 93 | 58 => 26 | 33 => 71 | n => n, fun | n => n⟩
theorem sortedA : Go.Proofs.SlLaysZI.n6 Try.prog sortedA_ren where
  mixed := by kernel_rfl
  f6 := ⟨Try.f32.name, by decide, Try.func32.trans (congrArg some (by kernel_rfl))⟩
  f8 := ⟨Try.f36.name, by decide, Try.func36.trans (congrArg some (by kernel_rfl))⟩
  f11 := ⟨Try.f40.name, by decide, Try.func40.trans (congrArg some (by kernel_rfl))⟩
  t0 := Try.underlying0
  a0 := Try.isAgg0
  z0 := Try.sizeOf0
  v0 := Try.zeroValue0
  t24 := Try.underlying25
  a24 := Try.isAgg25
  z24 := Try.sizeOf25
  v24 := Try.zeroValue25
  t26 := Try.underlying3
  a26 := Try.isAgg3
  z26 := Try.sizeOf3
  v26 := Try.zeroValue3
  t28 := Try.underlying68
  a28 := Try.isAgg68
  z28 := Try.sizeOf68
  v28 := Try.zeroValue68
  i26 := by kernel_rfl
def sortA_ren : Go.Shelf.Ren := ⟨fun | 5 => 37 | 8 => 42 | 7 => 41 | 19 => 52 | 20 => 53 | 10 => 43 | 11 => 44 | 12 => 45 | 13 => 46 | 14 => 47 | 15 => 48 | 16 => 49 | 17 => 50 | 18 => 51 | 30 => 54 | 31 => 55 | 32 => 56 | 33 => 57 | 34 => 58 | 35 => 59 | 40 => 60 | n => n, fun | 23 => 25 | 25 => 3 | 3 => 3 | 32 => 76 | 22 => 25 | 0 => 0 | 44 => 85 | 46 => 52 | 4 => 4 | 36 => 79 | 35 => 78 | 41 => 43 | 5 => 5 | 9 => 9 | 53 => 87 | 57 => 91 | 63 => 93 | 64 => 26 | n => n, fun | n => n⟩
theorem sortA : Go.Proofs.SlLaysM.n5 Try.prog sortA_ren where
  mixed := by kernel_rfl
  f5 := ⟨Try.f37.name, by decide, Try.func37.trans (congrArg some (by kernel_rfl))⟩
  f7 := ⟨Try.f41.name, by decide, Try.func41.trans (congrArg some (by kernel_rfl))⟩
  f8 := Try.func42.trans (congrArg some (by kernel_rfl))
  f10 := ⟨Try.f43.name, by decide, Try.func43.trans (congrArg some (by kernel_rfl))⟩
  f11 := ⟨Try.f44.name, by decide, Try.func44.trans (congrArg some (by kernel_rfl))⟩
  f12 := ⟨Try.f45.name, by decide, Try.func45.trans (congrArg some (by kernel_rfl))⟩
  f13 := ⟨Try.f46.name, by decide, Try.func46.trans (congrArg some (by kernel_rfl))⟩
  f14 := ⟨Try.f47.name, by decide, Try.func47.trans (congrArg some (by kernel_rfl))⟩
  f15 := ⟨Try.f48.name, by decide, Try.func48.trans (congrArg some (by kernel_rfl))⟩
  f16 := ⟨Try.f49.name, by decide, Try.func49.trans (congrArg some (by kernel_rfl))⟩
  f17 := ⟨Try.f50.name, by decide, Try.func50.trans (congrArg some (by kernel_rfl))⟩
  f18 := ⟨Try.f51.name, by decide, Try.func51.trans (congrArg some (by kernel_rfl))⟩
  f19 := Try.func52.trans (congrArg some (by kernel_rfl))
  f20 := Try.func53.trans (congrArg some (by kernel_rfl))
  f30 := ⟨Try.f54.name, by decide, Try.func54.trans (congrArg some (by kernel_rfl))⟩
  f31 := Try.func55.trans (congrArg some (by kernel_rfl))
  f32 := Try.func56.trans (congrArg some (by kernel_rfl))
  f33 := ⟨Try.f57.name, by decide, Try.func57.trans (congrArg some (by kernel_rfl))⟩
  f34 := ⟨Try.f58.name, by decide, Try.func58.trans (congrArg some (by kernel_rfl))⟩
  f35 := ⟨Try.f59.name, by decide, Try.func59.trans (congrArg some (by kernel_rfl))⟩
  f40 := ⟨Try.f60.name, by decide, Try.func60.trans (congrArg some (by kernel_rfl))⟩
  t0 := Try.underlying0
  a0 := Try.isAgg0
  z0 := Try.sizeOf0
  v0 := Try.zeroValue0
  t3 := Try.underlying3
  a3 := Try.isAgg3
  z3 := Try.sizeOf3
  v3 := Try.zeroValue3
  t4 := Try.underlying4
  a4 := Try.isAgg4
  z4 := Try.sizeOf4
  v4 := Try.zeroValue4
  t5 := Try.underlying5
  a5 := Try.isAgg5
  z5 := Try.sizeOf5
  v5 := Try.zeroValue5
  t9 := Try.underlying9
  a9 := Try.isAgg9
  z9 := Try.sizeOf9
  v9 := Try.zeroValue9
  t22 := Try.underlying25
  a22 := Try.isAgg25
  z22 := Try.sizeOf25
  v22 := Try.zeroValue25
  t23 := Try.underlying25
  a23 := Try.isAgg25
  z23 := Try.sizeOf25
  v23 := Try.zeroValue25
  t25 := Try.underlying3
  a25 := Try.isAgg3
  z25 := Try.sizeOf3
  v25 := Try.zeroValue3
  t32 := Try.underlying76
  a32 := Try.isAgg76
  z32 := Try.sizeOf76
  v32 := Try.zeroValue76
  t35 := Try.underlying78
  a35 := Try.isAgg78
  z35 := Try.sizeOf78
  v35 := Try.zeroValue78
  t36 := Try.underlying79
  a36 := Try.isAgg79
  z36 := Try.sizeOf79
  v36 := Try.zeroValue79
  t41 := Try.underlying43
  a41 := Try.isAgg43
  z41 := Try.sizeOf43
  v41 := Try.zeroValue43
  t44 := Try.underlying85
  a44 := Try.isAgg85
  z44 := Try.sizeOf85
  v44 := Try.zeroValue85
  t46 := Try.underlying52
  a46 := Try.isAgg52
  z46 := Try.sizeOf52
  v46 := Try.zeroValue52
  t53 := Try.underlying87
  a53 := Try.isAgg87
  z53 := Try.sizeOf87
  v53 := Try.zeroValue87
  t57 := Try.underlying91
  a57 := Try.isAgg91
  z57 := Try.sizeOf91
  v57 := Try.zeroValue91
  t63 := Try.underlying93
  a63 := Try.isAgg93
  z63 := Try.sizeOf93
  v63 := Try.zeroValue93
  t64 := Try.underlying26
  a64 := Try.isAgg26
  z64 := Try.sizeOf26
  v64 := Try.zeroValue26
end Go.Proofs.Ytcaohcmlicbjhaa
namespace Go.Sx
set_option linter.unusedSimpArgs false
set_option linter.unusedVariables false
theorem grow_alloc1 {w : World} {G : Hp} (hw : Has w G) (o : Obj) : Grow [] w G (w.alloc o) (fun j => if j = w.heap.size then some o else G j) := by
  refine ⟨rfl, rfl, rfl, by simp, fun k hk _ => alloc_old w o hk, fun b x e => ?_, fun b hb => ?_⟩
  · change (if b = w.heap.size then some o else G b) = some x at e
    split at e
    · rename_i h; cases e; rw [h]; exact alloc_new w o
    · have := hw b x e; rw [alloc_old w o (lt_of_heap this)]; exact this
  · show (if b = w.heap.size then some o else G b) = G b
    rw [if_neg (by omega)]
end Go.Sx
namespace Go.Proofs.Ytcaohcmlicbjhaa
open Go.Sx Go.RowKit Go.Maps Go.Sort Go.Shelf Go.MapKept
theorem at_cells {G : Hp} {b : Nat} {vs : List Value} {e : TypeId} (h : G b = some (.cells vs.toArray e)) : At G b 0 vs := ⟨_, _, _, h, by simp, fun i hi => by simp⟩
abbrev leZ : Int → Int → Bool := fun x y => decide (x ≤ y)
theorem leZ_tr : ∀ a b c : Int, leZ a b = true → leZ b c = true → leZ a c = true := fun a b c h1 h2 => by simp only [leZ, decide_eq_true_eq] at *; omega
theorem leZ_to : ∀ a b : Int, (leZ a b || leZ b a) = true := fun a b => by simp only [leZ, Bool.or_eq_true, decide_eq_true_eq]; omega
theorem sort_eq {l m : List Int} (h : l.Perm m) (hm : m.Pairwise (· < ·)) : l.mergeSort leZ = m := by
  refine List.Perm.eq_of_pairwise (le := fun a b => leZ a b = true) (fun a b _ _ h1 h2 => ?_) (List.pairwise_mergeSort leZ_tr leZ_to l) (hm.imp fun {a b} hab => by simp only [leZ, decide_eq_true_eq]; omega) ((List.mergeSort_perm l leZ).trans h)
  simp only [leZ, decide_eq_true_eq] at h1 h2
  omega
theorem sort_perm {l m : List Int} (h : l.Perm m) : l.mergeSort leZ = m.mergeSort leZ := by
  refine List.Perm.eq_of_pairwise (le := fun a b => leZ a b = true) (fun a b _ _ h1 h2 => ?_) (List.pairwise_mergeSort leZ_tr leZ_to l) (List.pairwise_mergeSort leZ_tr leZ_to m) (((List.mergeSort_perm l leZ).trans h).trans (List.mergeSort_perm m leZ).symm)
  simp only [leZ, decide_eq_true_eq] at h1 h2
  omega
theorem keys_ok (b : Nat) (G : Hp) : Sx.Pure Try.prog 33 [.map (some b)] G (fun v G' => ∃ bb, v = .func (.func 38) #[] #[.pointer (some ⟨bb, 0, none⟩)] ∧ At G' bb 0 [.map (some b)]) := by
  intro w hw
  have h := (callsIn_wide (n := 5)).1 (AnyZI.keys_in keysA Fence.wide 5 trivial rfl (some b) w)
  refine h.mono ?_
  rintro e w' ⟨rfl, rfl⟩
  exact ⟨_, _, rfl, grow_alloc1 hw _, w.heap.size, rfl, at_cells (vs := [.map (some b)]) (e := 64) (by simp; rfl)⟩
theorem sortsA (m : Nat) : AnyZI.SortsIn Try.prog sortedA_ren Fence.wide m :=
  ⟨fun blk off cap ss W hH hblk hsz => callsIn_wide.2 (AnyM.slices_Sort_int sortA blk off cap ss W hH hblk hsz),
   fun p cap W => callsIn_wide.2 (AnyM.slices_Sort_int_none sortA p cap W)⟩
def anyR (_ : Value) : Option (DataW Unit × List MemPlace) := some (.nil, [])
theorem owns_of {w : World} {b c : Nat} {es : MEs} (h : w.heap[b]? = some (mObj .i64 es c)) (h1 : ∀ x ∈ es, isI64 x.1 ∧ x.2.2 < c) (h2 : (es.map (·.1)).Nodup) (h3 : (es.map (·.2.2)).Nodup) (hl : es.length ≤ 1000000) :
    ∃ D : DataW Unit, w.ownsMap Try.prog 3 anyR b es.length D ∧ (intKeys D).Perm (es.map (·.1)) ∧ Maps.size D = es.length := by
  have hkey : ∀ x ∈ es, keyOf Try.prog 3 (.int .i64 x.1) = some (.int .i64 x.1) := fun x hx => keyOf_int_mk Try.underlying3 (by have := (h1 x hx).1; simp only [isI64] at this; simp [Lit.wf, IntKind.min, IntKind.max, IntKind.bits, IntKind.signed]; omega)
  have hrd : ∀ x ∈ es, WideElems.rd Try.prog 3 anyR (mEnt .i64 x) = some (.int .i64 x.1, .nil) := fun x hx => WideElems.rd_mk (R := anyR) (val := x.2.1) (born := x.2.2) (yv := (.nil, [])) (hkey x hx) rfl
  refine ⟨_, ⟨(es.map (mEnt .i64)).toArray, c, h, ⟨by simp [maxLen]; omega, ⟨?_, ?_, ?_⟩, ?_⟩, by simp, rfl⟩, ?_, ?_⟩
  · intro x hx
    simp at hx
    obtain ⟨y, z, u, hy, rfl⟩ := hx
    exact (h1 _ hy).2
  · simpa [List.map_map, Function.comp_def, mEnt] using h3
  · have : ((es.map (mEnt .i64)).toArray.toList.map (·.key)) = (es.map (·.1)).map (Value.int .i64) := by simp [List.map_map, Function.comp_def, mEnt]
    rw [this, List.nodup_iff_pairwise_ne, List.pairwise_map]
    exact (List.nodup_iff_pairwise_ne.1 h2).imp fun {a b} hab e => hab (by cases e; rfl)
  · intro x hx
    simp at hx
    obtain ⟨y, z, u, hy, rfl⟩ := hx
    exact ⟨_, hrd _ hy⟩
  · have hm : ((es.map (mEnt .i64)).toArray.toList.map (WideElems.rg Try.prog 3 anyR)) = es.map fun x => ((.int .i64 x.1 : Lit), (.nil : DataW Unit)) := by
      rw [List.map_map]
      refine List.map_congr_left fun x hx => ?_
      rw [Function.comp_apply]
      exact WideElems.rg_of (hrd x hx)
    rw [hm]
    simp only [intKeys]
    have := (WideShapes.sorted_perm (es.map fun x => ((.int .i64 x.1 : Lit), (.nil : DataW Unit)))).map fun p => Go.intOf p.1
    refine this.trans ?_
    rw [List.map_map]
    exact List.Perm.refl _
  · simp only [Maps.size, DataW.length_sorted]
    simp
theorem sorted_ok (b bb c : Nat) (es : MEs) (G : Hp) (h : G b = some (mObj .i64 es c)) (hb : At G bb 0 [.map (some b)]) (h1 : ∀ x ∈ es, isI64 x.1 ∧ x.2.2 < c) (h2 : (es.map (·.1)).Nodup) (h3 : (es.map (·.2.2)).Nodup) (hl : es.length ≤ 1000000) :
    Pure Try.prog 32 [.func (.func 38) #[] #[.pointer (some ⟨bb, 0, none⟩)]] G (fun v G' => rI.S (diff G' G) ((es.map (·.1)).mergeSort leZ) v) := by
  intro w hw
  obtain ⟨D, hown, hperm, hsz⟩ := owns_of (hw _ _ h) h1 h2 h3 hl
  obtain ⟨arr, e0, fz, a1, a2, a3⟩ := hb
  have hbw := hw _ _ a1
  have hcell : w.cell? ⟨bb, 0, none⟩ = some (.map (some b)) := by
    rw [cell_at hbw]
    have := a3 0 (by simp)
    simpa using this
  have hseq := AnyZI.keys_gives (ρ := keysA_ren) { keysA with } Fence.wide 2 trivial rfl (by omega) bb b es.length D w (lt_of_heap hbw) hcell hown
  have cS := AnyZI.sorted_in sortedA Fence.wide 5 trivial trivial trivial trivial rfl (by omega) (sortsA _) (enters_of Try.func37 (by kernel_rfl) rfl) 38 #[.pointer (some ⟨bb, 0, none⟩)] trivial (enters_of Try.func38 (by kernel_rfl) rfl) _ (Maps.size D) (by rw [hsz]; simp only [maxLen]; omega) (by rw [hsz]; omega) w hseq
  refine ((callsIn_wide (n := 5)).1 cS).mono ?_
  rintro e w' ⟨v, ss, rfl, hS, hrow, hnil, hB⟩
  have hsort : ss.mergeSort (fun x y => decide (x ≤ y)) = (es.map (·.1)).mergeSort leZ := sort_perm (hS.trans hperm)
  rw [hsort] at hrow
  have hlen : ss.length = ((es.map (·.1)).mergeSort leZ).length := by
    rw [← hsort]; simp
  rw [hlen] at hrow
  have h64 : ∀ n ∈ (es.map (·.1)).mergeSort leZ, isI64 n := fun n hn => by
    rw [List.mem_mergeSort] at hn
    obtain ⟨x, hx, rfl⟩ := List.mem_map.1 hn
    exact (h1 x hx).1
  have hll : ((es.map (·.1)).mergeSort leZ).length ≤ 1000000 := by simpa using hl
  generalize (es.map (·.1)).mergeSort leZ = L at *
  have hlt := hrow.lt
  rcases hrow.2 with ⟨q1, q2⟩ | ⟨g0, cap, cur, q1, hbg, hgg, hnc, hcm, hcss, htake⟩
  · subst q1
    have : L = [] := List.length_eq_zero_iff.1 q2
    subst this
    refine ⟨_, G, rfl, ⟨hB.os, hB.tape, hB.output, hB.size, fun k hk _ => hB.block k hk, fun j y e => ?_, fun _ _ => rfl⟩, Rp.S_nil _ _⟩
    have := hw j y e
    rw [hB.block j (lt_of_heap this)]; exact this
  · subst q1
    obtain ⟨x, hx, hat⟩ := row_block hrow
    have hgn : G g0 = none := by
      cases hq : G g0 with
      | none => rfl
      | some o => have := lt_of_heap (hw _ _ hq); omega
    refine ⟨_, fun j => if j = g0 then some x else G j, rfl, ⟨hB.os, hB.tape, hB.output, hB.size, fun k hk _ => hB.block k hk, fun j y e => ?_, fun j hj => ?_⟩, ?_⟩
    · change (if j = g0 then some x else G j) = some y at e
      split at e
      · rename_i q; subst q; cases e; exact hx
      · have := hw j y e
        rw [hB.block j (lt_of_heap this)]; exact this
    · show (if j = g0 then some x else G j) = G j
      rw [if_neg (by omega)]
    · exact ⟨by omega, _, _, rfl, .inr ⟨_, _, _, rfl, at_diff (hat _ (by simp)) hgn, rI_L.2 ⟨rfl, h64⟩⟩⟩
end Go.Proofs.Ytcaohcmlicbjhaa
namespace Go.Proofs.Ytcaohcmlicbjhaa
set_option linter.unusedSimpArgs false
set_option linter.unusedVariables false
open Go.Sx
structure Tal where
  seen : Nat
  waits : Nat
  most : Nat
  went : Nat
abbrev TLs := List (Int × Tal)
def tst (i : Nat) (took t : Int) (c : Tal) : Tal :=
  let w := if c.seen < i - 1 then 0 else c.waits
  if t = took then ⟨i, 0, c.most, c.went + 1⟩ else ⟨i, w + 1, max c.most (w + 1), c.went⟩
def stepK (i : Nat) (took t : Int) : TLs → TLs
  | [] => [(t, tst i took t ⟨i, 0, 0, 0⟩)]
  | x :: l => if x.1 = t then (t, tst i took t x.2) :: l else x :: stepK i took t l
def cntI (i : Nat) (took : Int) (runs : List Int) (T : TLs) : TLs := runs.foldl (fun T t => stepK i took t T) T
def cntG : Nat → TLs → List Tn → TLs
  | _, T, [] => T
  | i, T, x :: l => cntG (i + 1) (cntI i x.took x.runs T) l
def cntL (l : List Tn) : TLs := cntG 0 [] l
theorem cntG_snoc (x : Tn) : ∀ (l : List Tn) (i : Nat) (T : TLs), cntG i T (l ++ [x]) = cntI (i + l.length) x.took x.runs (cntG i T l)
  | [], i, T => rfl
  | y :: l, i, T => by
    simp only [List.cons_append, cntG, cntG_snoc x l (i + 1), List.length_cons]
    congr 1; omega
theorem cntL_snoc {l : List Tn} {k : Nat} (h : k < l.length) : cntL (l.take (k + 1)) = cntI k l[k].took l[k].runs (cntL (l.take k)) := by
  rw [← List.take_append_getElem h, cntL, cntG_snoc, cntL]
  simp only [Nat.zero_add, List.length_take]
  congr 1; omega
theorem cntI_snoc {i : Nat} {took : Int} {runs : List Int} {T : TLs} {k : Nat} (h : k < runs.length) : cntI i took (runs.take (k + 1)) T = stepK i took runs[k] (cntI i took (runs.take k) T) := by
  rw [← List.take_append_getElem h, cntI, List.foldl_append]; rfl
def talV (c : Tal) : List Value := [.int .i64 c.seen, .int .i64 c.waits, .int .i64 c.most, .int .i64 c.went]
def esT : Nat → List Nat → TLs → MEs
  | i, g :: gs, x :: T => (x.1, .pointer (some ⟨g, 0, none⟩), i) :: esT (i + 1) gs T
  | _, _, _ => []
def rwT (g : Nat) (c : Tal) : Rw := ⟨62, 4, .slice (some ⟨g, 0, none⟩) 1 1, 1, talV c⟩
def rsT : List Nat → TLs → List Rw
  | g :: gs, x :: T => rwT g x.2 :: rsT gs T
  | _, _ => []
theorem esT_len : ∀ {gs : List Nat} {T : TLs} (i : Nat), gs.length = T.length → (esT i gs T).length = T.length
  | [], [], _, _ => rfl
  | g :: gs, x :: T, i, h => by simp [esT, esT_len (gs := gs) (T := T) (i + 1) (by simpa using h)]
theorem rsT_len : ∀ {gs : List Nat} {T : TLs}, gs.length = T.length → (rsT gs T).length = T.length
  | [], [], _ => rfl
  | g :: gs, x :: T, h => by simp [rsT, rsT_len (gs := gs) (T := T) (by simpa using h)]
theorem esT_snoc (g : Nat) (x : Int × Tal) : ∀ {gs : List Nat} {T : TLs} (i : Nat), gs.length = T.length → esT i (gs ++ [g]) (T ++ [x]) = esT i gs T ++ [(x.1, .pointer (some ⟨g, 0, none⟩), i + T.length)]
  | [], [], i, _ => by simp [esT]
  | h :: gs, y :: T, i, hl => by simp [esT, esT_snoc g x (gs := gs) (T := T) (i + 1) (by simpa using hl)]; omega
theorem rsT_snoc (g : Nat) (x : Int × Tal) : ∀ {gs : List Nat} {T : TLs}, gs.length = T.length → rsT (gs ++ [g]) (T ++ [x]) = rsT gs T ++ [rwT g x.2]
  | [], [], _ => by simp [rsT]
  | h :: gs, y :: T, hl => by simp [rsT, rsT_snoc g x (gs := gs) (T := T) (by simpa using hl)]
theorem rsT_set {g : Nat} {x : Int × Tal} : ∀ {gs : List Nat} {T : TLs} {j : Nat}, gs[j]? = some g → (rsT gs T).set j (rwT g x.2) = rsT gs (T.set j x)
  | [], _, _, h => by simp at h
  | _ :: _, [], _, _ => by simp [rsT]
  | h :: gs, y :: T, 0, e => by simp at e; subst e; simp [rsT]
  | h :: gs, y :: T, j + 1, e => by simp [rsT, rsT_set (gs := gs) (T := T) (j := j) (x := x) (by simpa using e)]
theorem esT_set {x y : Int × Tal} (hxy : x.1 = y.1) : ∀ {gs : List Nat} {T : TLs} {j : Nat} (i : Nat), T[j]? = some y → esT i gs (T.set j x) = esT i gs T
  | [], _, _, _, _ => by simp [esT]
  | g :: gs, [], _, _, h => by simp at h
  | g :: gs, z :: T, 0, i, h => by simp at h; subst h; simp [esT, hxy]
  | g :: gs, z :: T, j + 1, i, h => by simp [esT, esT_set hxy (gs := gs) (T := T) (j := j) (i + 1) (by simpa using h)]
theorem step_or (i : Nat) (took t : Int) : ∀ {gs : List Nat} {T : TLs} (i0 : Nat), gs.length = T.length →
    (mget t (esT i0 gs T) = none ∧ stepK i took t T = T ++ [(t, tst i took t ⟨i, 0, 0, 0⟩)]) ∨
    ∃ j g c, gs[j]? = some g ∧ T[j]? = some (t, c) ∧ (rsT gs T)[j]? = some (rwT g c) ∧ mget t (esT i0 gs T) = some (.pointer (some ⟨g, 0, none⟩)) ∧ stepK i took t T = T.set j (t, tst i took t c)
  | [], [], i0, _ => .inl ⟨rfl, rfl⟩
  | g :: gs, x :: T, i0, h => by
    by_cases hx : x.1 = t
    · refine .inr ⟨0, g, x.2, rfl, by subst hx; rfl, rfl, by simp [esT, mget, hx], by simp [stepK, hx]⟩
    · rcases step_or i took t (gs := gs) (T := T) (i0 + 1) (by simpa using h) with ⟨h1, h2⟩ | ⟨j, g', c, h1, h2, h3, h4, h5⟩
      · exact .inl ⟨by simp [esT, mget, hx, h1], by simp [stepK, hx, h2]⟩
      · exact .inr ⟨j + 1, g', c, by simpa using h1, by simpa using h2, by simpa [rsT] using h3, by simp [esT, mget, hx, h4], by simp [stepK, hx, h5]⟩
def bdT (i S : Nat) (T : TLs) : Prop := ∀ x ∈ T, x.2.seen ≤ i ∧ x.2.waits ≤ S ∧ x.2.most ≤ S ∧ x.2.went ≤ S
theorem tst_bd {i S : Nat} {took t : Int} {c : Tal} (h : c.seen ≤ i ∧ c.waits ≤ S ∧ c.most ≤ S ∧ c.went ≤ S) : (tst i took t c).seen ≤ i ∧ (tst i took t c).waits ≤ S + 1 ∧ (tst i took t c).most ≤ S + 1 ∧ (tst i took t c).went ≤ S + 1 := by
  by_cases h1 : t = took <;> by_cases h2 : c.seen < i - 1 <;> simp [tst, h1, h2] <;> omega
theorem bdT.mono {i S i' S' : Nat} {T : TLs} (h : bdT i S T) (hi : i ≤ i') (hS : S ≤ S') : bdT i' S' T := fun x hx => by
  have := h x hx; omega
theorem bdT.step {i S : Nat} {took t : Int} : ∀ {T : TLs}, bdT i S T → bdT i (S + 1) (stepK i took t T)
  | [], _, x, hx => by
    simp only [stepK, List.mem_singleton] at hx
    subst hx
    have := tst_bd (i := i) (S := S) (took := took) (t := t) (c := ⟨i, 0, 0, 0⟩) (by simp)
    exact this
  | y :: T, h, x, hx => by
    simp only [stepK] at hx
    split at hx
    · rcases List.mem_cons.1 hx with rfl | hx
      · exact tst_bd (h y (by simp))
      · have := h x (by simp [hx]); omega
    · rcases List.mem_cons.1 hx with rfl | hx
      · have := h x (by simp); omega
      · exact bdT.step (fun z hz => h z (by simp [hz])) x hx
def TM (G : Hp) (b : Nat) (T : TLs) : Prop := ∃ gs : List Nat, gs.length = T.length ∧ G b = some (mObj .i64 (esT 0 gs T) T.length) ∧ ∀ (j g : Nat) (x : Int × Tal), gs[j]? = some g → T[j]? = some x → At G g 0 (talV x.2)
theorem rsT_get : ∀ {gs : List Nat} {T : TLs} {j g : Nat} {x : Int × Tal}, gs[j]? = some g → T[j]? = some x → (rsT gs T)[j]? = some (rwT g x.2)
  | [], _, _, _, _, h, _ => by simp at h
  | _ :: _, [], _, _, _, _, h => by simp at h
  | g :: gs, y :: T, 0, _, _, h, h' => by simp at h h'; subst h h'; rfl
  | g :: gs, y :: T, j + 1, _, _, h, h' => by simpa [rsT] using rsT_get (gs := gs) (T := T) (j := j) (by simpa using h) (by simpa using h')
theorem go_znew {C : Ctx} {K : List KI} {s : St} (k : Nat) {b : Nat} {rs : List Rw} {Z : Nat → Prop} (hk : lk k s.own = some (b, .z (ZR rs) Z Z)) (h : (∀ (i : Nat) (r : Rw) (g : Nat), rs[i]? = some r → r.v.ownBlock = some g → s.G g = none) → SGo C K s) : SGo C K s :=
  go_known (fun _ _ hS i r g e hb => ((hS.mem.own _ _ _ hk).2 g (((hS.mem.own _ _ _ hk).1.2.2.1 g).2 ⟨i, r, e, hb⟩)).1) h
set_option maxHeartbeats 8000000
theorem count_ok (l : List Tn) (s1 : Value) (G : Hp) (h1 : rT.S G l s1) (hl : l.length ≤ 1000) (hr : ∀ x ∈ l, x.runs.length ≤ 1000) : Pure Try.prog 29 [s1] G (fun r G' => ∃ b, r = .map (some b) ∧ TM (diff G' G) b (cntL l)) := by
  have h10 := h1
  obtain ⟨ad1, cap1, rfl⟩ := Rp.S_slice h1
  refine enterX ty tyok Try.func29 rfl Try.ntmps29 [.v (.slice ad1 l.length cap1)] (by simp) ?_
  intro C hP hQ hnt hty hmb hmh hro; have hQp := qp_body hQ; refine st_ ?_
  refine rn_ ?_; intros
  refine go_mkmap 40 .i64 (by rw [hnt]; rfl) rfl (by omega) ?_
  intro bm
  refine rn_ ?_; intros
  refine go_znil 50 rfl (by omega) ?_
  intro Z0
  refine go_keep [3, 10, 11, 12] [40, 50] ?_
  refine st_ ?_
  refine x_loop rfl (fun q s => ∃ (i : Nat) (gs : List Nat) (b : Nat) (Z : Nat → Prop), i ≤ l.length ∧ q = l.length - i ∧ gs.length = (cntL (l.take i)).length ∧ bdT i (i * 1000) (cntL (l.take i)) ∧
    s = ⟨[(3, .v (.map (some bm))), (10, .v (.slice ad1 l.length cap1)), (11, .v (.int .i64 l.length)), (12, .v (.int .i64 i))],
      [(40, bm, .o (mObj .i64 (esT 0 gs (cntL (l.take i))) (cntL (l.take i)).length)), (50, b, .z (ZR (rsT gs (cntL (l.take i)))) Z Z)], G, []⟩) ⟨0, [], 0, Z0, by omega, rfl, rfl, fun x hx => by simp [cntL, cntG] at hx, rfl⟩ ?_
  rintro q s ⟨i, gs, bz, Z, hi, hq, hgs, hbd, rfl⟩ ih
  refine rn_ ?_; intros
  refine x_if rfl rfl rfl rfl (fun hil => ?_) (fun hil => ?_)
  · have hlt : i < l.length := by simp at hil; omega
    obtain ⟨c1, o1, sa, cs, rfl, ha1, ht, hrr⟩ := rT_at h10 (i := i) hlt
    have hrl := hr _ (List.getElem_mem hlt)
    refine rn_ ?_; intros
    refine go_q (by rw [hnt]; rfl) (quiet_index (by rw [hty]; rfl) (by rw [hty]; rfl) rfl rfl rfl (by omega) (by omega)) ?_
    refine rn_ ?_; intros
    refine go_q (by rw [hnt]; rfl) (quiet_load (by rw [hty]; rfl) rfl (by simp [TK.agg]) ha1 rfl) ?_
    refine rn_ ?_; intros
    rename_i b5
    have hsn := cntL_snoc hlt
    generalize cntL (l.take i) = T0 at *
    refine go_keep [3, 4, 5, 10, 11, 12, 18, 19, 20] [40, 50, 51] ?_
    refine st_ ?_
    refine x_loop rfl (fun q s => ∃ (k : Nat) (gs : List Nat) (b : Nat) (Z : Nat → Prop), k ≤ l[i].runs.length ∧ q = l[i].runs.length - k ∧ gs.length = (cntI i l[i].took (l[i].runs.take k) T0).length ∧ bdT i (i * 1000 + k) (cntI i l[i].took (l[i].runs.take k) T0) ∧
      s = ⟨[(3, .v (.map (some bm))), (4, .v (.int .i64 i)), (5, .p 51 b5 0), (10, .v (.slice (some ⟨c1, o1, none⟩) l.length cap1)), (11, .v (.int .i64 l.length)), (12, .v (.int .i64 i)), (18, .v (.slice sa l[i].runs.length cs)), (19, .v (.int .i64 l[i].runs.length)), (20, .v (.int .i64 k))],
        [(40, bm, .o (mObj .i64 (esT 0 gs (cntI i l[i].took (l[i].runs.take k) T0)) (cntI i l[i].took (l[i].runs.take k) T0).length)), (50, b, .z (ZR (rsT gs (cntI i l[i].took (l[i].runs.take k) T0))) Z Z), (51, b5, .c 46 [.v (.slice sa l[i].runs.length cs), .v (.int .i64 l[i].took)])], G, []⟩) ⟨0, gs, bz, Z, by omega, rfl, hgs, by simpa [cntI] using hbd, by simp only [List.take_zero, cntI, List.foldl_nil]; rfl⟩ ?_
    clear hgs hbd gs bz Z
    rintro q s ⟨k, gs, bz, Z, hk, hq, hgs, hbd, rfl⟩ ihk
    refine rn_ ?_; intros
    refine x_if rfl rfl rfl rfl (fun hjl => ?_) (fun hjl => ?_)
    · have hklt : k < l[i].runs.length := by simp at hjl; omega
      obtain ⟨d1, p1, rfl, hb1⟩ := rI_at hrr (i := k) hklt
      have hcs := cntI_snoc (i := i) (took := l[i].took) (T := T0) hklt
      generalize cntI i l[i].took (l[i].runs.take k) T0 = T at *
      refine rn_ ?_; intros
      refine go_q (by rw [hnt]; rfl) (quiet_index (by rw [hty]; rfl) (by rw [hty]; rfl) rfl rfl rfl (by omega) (by omega)) ?_
      refine rn_ ?_; intros
      refine go_q (by rw [hnt]; rfl) (quiet_load (vs := [.int .i64 l[i].runs[k]]) (by rw [hty]; rfl) rfl (by simp [TK.agg]) (by simpa using hb1) rfl) ?_
      refine rn_ ?_; intros
      rcases step_or i l[i].took l[i].runs[k] (gs := gs) (T := T) 0 hgs with ⟨hn1, hn2⟩ | ⟨j, g, c, hj1, hj2, hj3, hj4, hj5⟩
      · refine go_q (v := .pointer none) (by rw [hnt]; rfl) ((quiet_lookup (ok := false) 40 (z := .pointer none) (by rw [hty]; rfl) (by rw [hty]; rfl) (by rw [hP]; exact ⟨_, (by kernel_rfl : Try.prog.info? 60 = some Try.t60), rfl⟩) rfl rfl rfl).cast (by rw [hn1]; rfl)) ?_
        refine rn_ ?_; intros
        refine go_q (by rw [hnt]; rfl) (quiet_pnil (by rw [hty]; rfl) rfl rfl) ?_
        refine rn_ ?_; intros
        refine cut_tail 1 (fun s' => ∃ (T' : TLs) (gs' : List Nat) (j g : Nat) (c : Tal) (b : Nat) (Z : Nat → Prop), gs'.length = T'.length ∧ T'[j]? = some (l[i].runs[k], c) ∧ gs'[j]? = some g ∧ (rsT gs' T')[j]? = some (rwT g c) ∧ stepK i l[i].took l[i].runs[k] T = T'.set j (l[i].runs[k], tst i l[i].took l[i].runs[k] c) ∧ (c.seen ≤ i ∧ c.waits ≤ i * 1000 + k ∧ c.most ≤ i * 1000 + k ∧ c.went ≤ i * 1000 + k) ∧
          s' = ⟨[(3, .v (.map (some bm))), (4, .v (.int .i64 i)), (5, .p 51 b5 0), (7, .v (.int .i64 l[i].runs[k])), (8, .v (.pointer (some ⟨g, 0, none⟩))), (10, .v (.slice (some ⟨c1, o1, none⟩) l.length cap1)), (11, .v (.int .i64 l.length)), (12, .v (.int .i64 i)), (18, .v (.slice (some ⟨d1, p1, none⟩) l[i].runs.length cs)), (19, .v (.int .i64 l[i].runs.length)), (20, .v (.int .i64 k))], [(40, bm, .o (mObj .i64 (esT 0 gs' T') T'.length)), (50, b, .z (ZR (rsT gs' T')) Z Z), (51, b5, .c 46 [.v (.slice (some ⟨d1, p1, none⟩) l[i].runs.length cs), .v (.int .i64 l[i].took)])], G, []⟩) ?_ (fun key => ?_)
        rotate_left
        · refine go_slot 28 (.b true) rfl (by simp [SV.den]) ?_
          refine rn_ ?_; intros
          rename_i b6
          refine go_mupd 40 (.inl rfl) (by rw [hnt]; rfl) (by rw [hty]; rfl) (by rw [hty]; rfl) rfl rfl rfl rfl ?_
          rw [mput_none hn1, mclk, hn1]
          refine st_ ?_
          refine go_ops ?_
          refine go_litrow 52 (n := 1) (size := 4) rfl (by omega) rfl (by omega) ?_
          refine st_ ?_
          refine go_zadd 50 52 rfl rfl (by omega) (by omega) (by omega) ?_
          intro Z2
          refine go_slot 8 (.v (.pointer (some ⟨b6, 0, none⟩))) rfl rfl ?_
          refine go_keep [3, 4, 5, 7, 8, 10, 11, 12, 18, 19, 20] [40, 50, 51] ?_
          refine st_ ?_
          refine key _ ⟨T ++ [(l[i].runs[k], ⟨i, 0, 0, 0⟩)], gs ++ [b6], T.length, b6, ⟨i, 0, 0, 0⟩, bz, Z2, by simp [hgs], by simp, by rw [← hgs]; simp, by rw [rsT_snoc _ _ hgs, ← rsT_len hgs]; simp, by rw [hn2]; simp, by simp, ?_⟩
          rw [esT_snoc _ _ _ hgs, rsT_snoc _ _ hgs]
          simp [dens, SV.den, rwT, talV]
        · rintro s' ⟨T', gs', j, g, c, bz, Z, hgl, hT, hg, hrs, hst, ⟨hc1, hc2, hc3, hc4⟩, rfl⟩
          simp only [List.drop_succ_cons, List.drop_zero]
          have hjl' : j < T'.length := (List.getElem?_eq_some_iff.1 hT).1
          have e1 : esT 0 gs' (stepK i l[i].took l[i].runs[k] T) = esT 0 gs' T' := by rw [hst]; exact esT_set (x := (l[i].runs[k], tst i l[i].took l[i].runs[k] c)) (y := (l[i].runs[k], c)) rfl 0 hT
          have e2 : (((rsT gs' T').set j (Rw.nil 62 4)).set j (rwT g (tst i l[i].took l[i].runs[k] c))) = rsT gs' (stepK i l[i].took l[i].runs[k] T) := by rw [List.set_set, hst]; exact rsT_set (x := (l[i].runs[k], tst i l[i].took l[i].runs[k] c)) hg
          have e3 : (stepK i l[i].took l[i].runs[k] T).length = T'.length := by rw [hst]; simp
          have hwi : IntKind.i64.wrap ((i : Int) - 1) = (i : Int) - 1 := wr (by omega) (by omega)
          refine go_ztake 50 60 j rfl hrs rfl (by omega) (by omega) ?_
          intro Z2
          simp only [rwT]
          refine st_ ?_
          refine rn_ ?_; intros
          refine go_q (v := .int .i64 (c.seen)) (by rw [hnt]; rfl) ((quiet_loadR (k := 60) (by rw [hty]; rfl) rfl (by simp [TK.agg]) rfl (by simp [talV])).cast rfl) ?_
          refine rn_ ?_; intros
          rw [hwi]
          refine cut_tail 1 (fun s' => s' = ⟨[(3, .v (.map (some bm))), (4, .v (.int .i64 i)), (5, .p 51 b5 0), (7, .v (.int .i64 l[i].runs[k])), (8, .v (.pointer (some ⟨g, 0, none⟩))), (10, .v (.slice (some ⟨c1, o1, none⟩) l.length cap1)), (11, .v (.int .i64 l.length)), (12, .v (.int .i64 i)), (18, .v (.slice (some ⟨d1, p1, none⟩) l[i].runs.length cs)), (19, .v (.int .i64 l[i].runs.length)), (20, .v (.int .i64 k))], [(40, bm, .o (mObj .i64 (esT 0 gs' T') T'.length)), (50, bz, .z (ZR ((rsT gs' T').set j (Rw.nil 62 4))) Z2 Z2), (51, b5, .c 46 [.v (.slice (some ⟨d1, p1, none⟩) l[i].runs.length cs), .v (.int .i64 l[i].took)]), (60, 0, .row (.slice (some ⟨g, 0, none⟩) 1 1) 62 4 1 (talV ⟨c.seen, if c.seen < i - 1 then 0 else c.waits, c.most, c.went⟩))], G, []⟩) ?_ (fun key2 => ?_)
          rotate_left
          · refine x_if rfl rfl rfl rfl (fun hsl => ?_) (fun hsl => ?_)
            · have hsl' : c.seen < i - 1 := by simp at hsl; omega
              refine rn_ ?_; intros
              refine go_storeR 60 rfl (by rw [hty]; rfl) rfl rfl rfl rfl rfl rfl (show lay (talV c) 1 [.int .i64 0] = some (talV ⟨c.seen, 0, c.most, c.went⟩) from rfl) ?_
              refine go_ops ?_
              refine go_keep [3, 4, 5, 7, 8, 10, 11, 12, 18, 19, 20] [40, 50, 51, 60] ?_
              refine st_ ?_
              exact key2 _ (by rw [if_pos hsl'])
            · have hsl' : ¬ c.seen < i - 1 := by simp at hsl; omega
              refine x_skip rfl ?_
              refine go_keep [3, 4, 5, 7, 8, 10, 11, 12, 18, 19, 20] [40, 50, 51, 60] ?_
              refine st_ ?_
              exact key2 _ (by rw [if_neg hsl'])
          rintro s' rfl
          simp only [List.drop_succ_cons, List.drop_zero]
          have hwb : (if c.seen < i - 1 then 0 else c.waits) ≤ i * 1000 + k := by split <;> omega
          have htst : ∀ w, w = (if c.seen < i - 1 then 0 else c.waits) → tst i l[i].took l[i].runs[k] c = if l[i].runs[k] = l[i].took then ⟨i, 0, c.most, c.went + 1⟩ else ⟨i, w + 1, max c.most (w + 1), c.went⟩ := fun w hw => by rw [hw]; rfl
          generalize hwe : (if c.seen < i - 1 then 0 else c.waits) = w at *
          have htst := htst w rfl
          refine rn_ ?_; intros
          refine go_storeR 60 rfl (by rw [hty]; rfl) rfl rfl rfl rfl rfl rfl (show lay (talV ⟨c.seen, w, c.most, c.went⟩) 0 [.int .i64 i] = some (talV ⟨i, w, c.most, c.went⟩) from rfl) ?_
          refine rn_ ?_; intros
          refine x_if rfl rfl rfl rfl (fun heq => ?_) (fun heq => ?_)
          · have e4 := htst.trans (if_pos (by simpa using heq))
            refine rn_ ?_; intros
            refine go_storeR 60 rfl (by rw [hty]; rfl) rfl rfl rfl rfl rfl rfl (show lay (talV ⟨i, w, c.most, c.went⟩) 1 [.int .i64 0] = some (talV ⟨i, 0, c.most, c.went⟩) from rfl) ?_
            refine rn_ ?_; intros
            refine go_q (v := .int .i64 (c.went)) (by rw [hnt]; rfl) ((quiet_loadR (k := 60) (by rw [hty]; rfl) rfl (by simp [TK.agg]) rfl (by simp [talV])).cast rfl) ?_
            refine rn_ ?_; intros
            rw [wr (n := (c.went : Int) + 1) (by omega) (by omega)]
            refine go_storeR 60 rfl (by rw [hty]; rfl) rfl rfl rfl rfl rfl rfl (show lay (talV ⟨i, 0, c.most, c.went⟩) 3 [.int .i64 ((c.went + 1 : Nat) : Int)] = some (talV ⟨i, 0, c.most, c.went + 1⟩) from rfl) ?_
            refine rn_ ?_; intros
            refine go_zgive 50 60 j rfl (show ((rsT gs' T').set j (Rw.nil 62 4))[j]? = some (Rw.nil 62 4) from by rw [List.getElem?_set_self (by rw [rsT_len hgl]; exact hjl')]) rfl rfl (by omega) (by omega) (by omega) ?_
            intro Z3
            rw [wr (n := (k : Int) + 1) (by omega) (by omega), show (⟨62, 4, .slice (some ⟨g, 0, none⟩) 1 1, 1, talV ⟨i, 0, c.most, c.went + 1⟩⟩ : Rw) = rwT g (tst i l[i].took l[i].runs[k] c) from by rw [e4]; rfl, e2]
            refine go_keep [3, 4, 5, 10, 11, 12, 18, 19, 20] [40, 50, 51] ?_
            refine st_ ?_
            exact ihk (l[i].runs.length - (k + 1)) _ (by omega) ⟨k + 1, gs', bz, Z3, by omega, rfl, by rw [hcs, e3]; exact hgl, by rw [hcs, ← Nat.add_assoc]; exact hbd.step, by rw [hcs, e1, e3]; simp⟩
          · have e4 := htst.trans (if_neg (by simpa using heq))
            refine rn_ ?_; intros
            refine go_q (v := .int .i64 w) (by rw [hnt]; rfl) ((quiet_loadR (k := 60) (by rw [hty]; rfl) rfl (by simp [TK.agg]) rfl (by simp [talV])).cast rfl) ?_
            refine rn_ ?_; intros
            rw [wr (n := (w : Int) + 1) (by omega) (by omega)]
            refine go_storeR 60 rfl (by rw [hty]; rfl) rfl rfl rfl rfl rfl rfl (show lay (talV ⟨i, w, c.most, c.went⟩) 1 [.int .i64 ((w + 1 : Nat) : Int)] = some (talV ⟨i, w + 1, c.most, c.went⟩) from rfl) ?_
            refine rn_ ?_; intros
            refine x_held [] rfl (by rw [hP]; kernel_rfl) rfl rfl rfl ?_
            refine st_ ?_
            refine h_take 0 rfl (by kernel_rfl) (by kernel_rfl) (by kernel_rfl) hQp (by rw [hnt]; rfl) (allIn (by repeat (first | exact trivial | refine ⟨rfl, ?_⟩))) (by first | exact Le.refl _ | assumption) (quiet_op (by rw [hty]; first | rfl | (refine st_ ?_; rfl))) ?_; refine st_ ?_
            refine h_take 1 rfl (by kernel_rfl) (by kernel_rfl) (by kernel_rfl) hQp (by rw [hnt]; rfl) (allIn (by repeat (first | exact trivial | refine ⟨rfl, ?_⟩))) (by first | exact Le.refl _ | assumption) (quiet_op (by rw [hty]; first | rfl | (refine st_ ?_; rfl))) ?_; refine st_ ?_
            refine h_take 2 rfl (by kernel_rfl) (by kernel_rfl) (by kernel_rfl) hQp (by rw [hnt]; rfl) (allIn (by repeat (first | exact trivial | refine ⟨rfl, ?_⟩))) (by first | exact Le.refl _ | assumption) (quiet_op (by rw [hty]; first | rfl | (refine st_ ?_; rfl))) ?_; refine st_ ?_
            refine h_take 3 rfl (by kernel_rfl) (by kernel_rfl) (by kernel_rfl) hQp (by rw [hnt]; rfl) (allIn (by repeat (first | exact trivial | refine ⟨rfl, ?_⟩))) (by first | exact Le.refl _ | assumption) (quiet_op (by rw [hty]; first | rfl | (refine st_ ?_; rfl))) ?_; refine st_ ?_
            refine h_take 5 rfl (by kernel_rfl) (by kernel_rfl) (by kernel_rfl) hQp (by rw [hnt]; rfl) (allIn (by repeat (first | exact trivial | refine ⟨rfl, ?_⟩))) (by first | exact Le.refl _ | assumption) (quiet_op (by rw [hty]; first | rfl | (refine st_ ?_; rfl))) ?_; refine st_ ?_
            refine h_take 6 rfl (by kernel_rfl) (by kernel_rfl) (by kernel_rfl) hQp (by rw [hnt]; rfl) (allIn (by repeat (first | exact trivial | refine ⟨rfl, ?_⟩))) (by first | exact Le.refl _ | assumption) (quiet_op (by rw [hty]; first | rfl | (refine st_ ?_; rfl))) ?_; refine st_ ?_
            refine h_take 7 rfl (by kernel_rfl) (by kernel_rfl) (by kernel_rfl) hQp (by rw [hnt]; rfl) (allIn (by repeat (first | exact trivial | refine ⟨rfl, ?_⟩))) (by first | exact Le.refl _ | assumption) (quiet_op (by rw [hty]; first | rfl | (refine st_ ?_; rfl))) ?_; refine st_ ?_
            refine h_two 4 8 rfl rfl (by kernel_rfl) ?_ ?_
            · refine go_q (v := .int .i64 (c.most)) (by rw [hnt]; rfl) ((quiet_loadR (k := 60) (by rw [hty]; rfl) rfl (by simp [TK.agg]) rfl (by simp [talV])).cast rfl) ?_
              refine rn_ ?_; intros
              refine h_hs (allIn (by repeat (first | exact trivial | refine ⟨rfl, ?_⟩))) (by first | exact Le.refl _ | assumption) ?_
              refine h_one 8 rfl (by kernel_rfl) ?_
              refine go_q (v := .int .i64 ((w + 1 : Nat) : Int)) (by rw [hnt]; rfl) ((quiet_loadR (k := 60) (by rw [hty]; rfl) rfl (by simp [TK.agg]) rfl (by simp [talV])).cast rfl) ?_
              refine rn_ ?_; intros
              refine h_hs (allIn (by repeat (first | exact trivial | refine ⟨rfl, ?_⟩))) (by first | exact Le.refl _ | assumption) ?_
              refine h_take 9 rfl (by kernel_rfl) (by kernel_rfl) (by kernel_rfl) hQp (by rw [hnt]; rfl) (allIn (by repeat (first | exact trivial | refine ⟨rfl, ?_⟩))) (by first | exact Le.refl _ | assumption) (quiet_op (by rw [hty]; first | rfl | (refine st_ ?_; rfl))) ?_; refine st_ ?_
              refine h_take 10 rfl (by kernel_rfl) (by kernel_rfl) (by kernel_rfl) hQp (by rw [hnt]; rfl) (allIn (by repeat (first | exact trivial | refine ⟨rfl, ?_⟩))) (by first | exact Le.refl _ | assumption) (quiet_op (by rw [hty]; first | rfl | (refine st_ ?_; rfl))) ?_; refine st_ ?_
              refine h_take 11 rfl (by kernel_rfl) (by kernel_rfl) (by kernel_rfl) hQp (by rw [hnt]; rfl) (allIn (by repeat (first | exact trivial | refine ⟨rfl, ?_⟩))) (by first | exact Le.refl _ | assumption) (quiet_op (by rw [hty]; first | rfl | (refine st_ ?_; rfl))) ?_; refine st_ ?_
              refine h_one 12 rfl (by kernel_rfl) ?_
              rw [show (if (c.most : Int) < ((w + 1 : Nat) : Int) then ((w + 1 : Nat) : Int) else (c.most : Int)) = ((max c.most (w + 1) : Nat) : Int) by split <;> omega]
              refine go_storeR 60 rfl (by rw [hty]; rfl) rfl rfl rfl rfl rfl rfl (show lay (talV ⟨i, w + 1, c.most, c.went⟩) 2 [.int .i64 ((max c.most (w + 1) : Nat) : Int)] = some (talV ⟨i, w + 1, max c.most (w + 1), c.went⟩) from rfl) ?_
              refine rn_ ?_; intros
              refine h_hs (allIn (by repeat (first | exact trivial | refine ⟨rfl, ?_⟩))) (by first | exact Le.refl _ | assumption) ?_
              refine h_end (by kernel_rfl) ?_
              refine rn_ ?_; intros
              refine go_zgive 50 60 j rfl (show ((rsT gs' T').set j (Rw.nil 62 4))[j]? = some (Rw.nil 62 4) from by rw [List.getElem?_set_self (by rw [rsT_len hgl]; exact hjl')]) rfl rfl (by omega) (by omega) (by omega) ?_
              intro Z3
              rw [wr (n := (k : Int) + 1) (by omega) (by omega), show (⟨62, 4, .slice (some ⟨g, 0, none⟩) 1 1, 1, talV ⟨i, w + 1, max c.most (w + 1), c.went⟩⟩ : Rw) = rwT g (tst i l[i].took l[i].runs[k] c) from by rw [e4]; rfl, e2]
              refine go_keep [3, 4, 5, 10, 11, 12, 18, 19, 20] [40, 50, 51] ?_
              refine st_ ?_
              exact ihk (l[i].runs.length - (k + 1)) _ (by omega) ⟨k + 1, gs', bz, Z3, by omega, rfl, by rw [hcs, e3]; exact hgl, by rw [hcs, ← Nat.add_assoc]; exact hbd.step, by rw [hcs, e1, e3]; simp⟩
            · refine go_q (v := .int .i64 ((w + 1 : Nat) : Int)) (by rw [hnt]; rfl) ((quiet_loadR (k := 60) (by rw [hty]; rfl) rfl (by simp [TK.agg]) rfl (by simp [talV])).cast rfl) ?_
              refine rn_ ?_; intros
              refine h_hs (allIn (by repeat (first | exact trivial | refine ⟨rfl, ?_⟩))) (by first | exact Le.refl _ | assumption) ?_
              refine h_one 4 rfl (by kernel_rfl) ?_
              refine go_q (v := .int .i64 (c.most)) (by rw [hnt]; rfl) ((quiet_loadR (k := 60) (by rw [hty]; rfl) rfl (by simp [TK.agg]) rfl (by simp [talV])).cast rfl) ?_
              refine rn_ ?_; intros
              refine h_hs (allIn (by repeat (first | exact trivial | refine ⟨rfl, ?_⟩))) (by first | exact Le.refl _ | assumption) ?_
              refine h_take 9 rfl (by kernel_rfl) (by kernel_rfl) (by kernel_rfl) hQp (by rw [hnt]; rfl) (allIn (by repeat (first | exact trivial | refine ⟨rfl, ?_⟩))) (by first | exact Le.refl _ | assumption) (quiet_op (by rw [hty]; first | rfl | (refine st_ ?_; rfl))) ?_; refine st_ ?_
              refine h_take 10 rfl (by kernel_rfl) (by kernel_rfl) (by kernel_rfl) hQp (by rw [hnt]; rfl) (allIn (by repeat (first | exact trivial | refine ⟨rfl, ?_⟩))) (by first | exact Le.refl _ | assumption) (quiet_op (by rw [hty]; first | rfl | (refine st_ ?_; rfl))) ?_; refine st_ ?_
              refine h_take 11 rfl (by kernel_rfl) (by kernel_rfl) (by kernel_rfl) hQp (by rw [hnt]; rfl) (allIn (by repeat (first | exact trivial | refine ⟨rfl, ?_⟩))) (by first | exact Le.refl _ | assumption) (quiet_op (by rw [hty]; first | rfl | (refine st_ ?_; rfl))) ?_; refine st_ ?_
              refine h_one 12 rfl (by kernel_rfl) ?_
              rw [show (if (c.most : Int) < ((w + 1 : Nat) : Int) then ((w + 1 : Nat) : Int) else (c.most : Int)) = ((max c.most (w + 1) : Nat) : Int) by split <;> omega]
              refine go_storeR 60 rfl (by rw [hty]; rfl) rfl rfl rfl rfl rfl rfl (show lay (talV ⟨i, w + 1, c.most, c.went⟩) 2 [.int .i64 ((max c.most (w + 1) : Nat) : Int)] = some (talV ⟨i, w + 1, max c.most (w + 1), c.went⟩) from rfl) ?_
              refine rn_ ?_; intros
              refine h_hs (allIn (by repeat (first | exact trivial | refine ⟨rfl, ?_⟩))) (by first | exact Le.refl _ | assumption) ?_
              refine h_end (by kernel_rfl) ?_
              refine rn_ ?_; intros
              refine go_zgive 50 60 j rfl (show ((rsT gs' T').set j (Rw.nil 62 4))[j]? = some (Rw.nil 62 4) from by rw [List.getElem?_set_self (by rw [rsT_len hgl]; exact hjl')]) rfl rfl (by omega) (by omega) (by omega) ?_
              intro Z3
              rw [wr (n := (k : Int) + 1) (by omega) (by omega), show (⟨62, 4, .slice (some ⟨g, 0, none⟩) 1 1, 1, talV ⟨i, w + 1, max c.most (w + 1), c.went⟩⟩ : Rw) = rwT g (tst i l[i].took l[i].runs[k] c) from by rw [e4]; rfl, e2]
              refine go_keep [3, 4, 5, 10, 11, 12, 18, 19, 20] [40, 50, 51] ?_
              refine st_ ?_
              exact ihk (l[i].runs.length - (k + 1)) _ (by omega) ⟨k + 1, gs', bz, Z3, by omega, rfl, by rw [hcs, e3]; exact hgl, by rw [hcs, ← Nat.add_assoc]; exact hbd.step, by rw [hcs, e1, e3]; simp⟩
      · refine go_q (v := .pointer (some ⟨g, 0, none⟩)) (by rw [hnt]; rfl) ((quiet_lookup (ok := false) 40 (z := .pointer none) (by rw [hty]; rfl) (by rw [hty]; rfl) (by rw [hP]; exact ⟨_, (by kernel_rfl : Try.prog.info? 60 = some Try.t60), rfl⟩) rfl rfl rfl).cast (by rw [hj4]; rfl)) ?_
        refine rn_ ?_; intros
        refine go_q (by rw [hnt]; rfl) (quiet_pnil (by rw [hty]; rfl) rfl rfl) ?_
        refine rn_ ?_; intros
        refine cut_tail 1 (fun s' => ∃ (T' : TLs) (gs' : List Nat) (j g : Nat) (c : Tal) (b : Nat) (Z : Nat → Prop), gs'.length = T'.length ∧ T'[j]? = some (l[i].runs[k], c) ∧ gs'[j]? = some g ∧ (rsT gs' T')[j]? = some (rwT g c) ∧ stepK i l[i].took l[i].runs[k] T = T'.set j (l[i].runs[k], tst i l[i].took l[i].runs[k] c) ∧ (c.seen ≤ i ∧ c.waits ≤ i * 1000 + k ∧ c.most ≤ i * 1000 + k ∧ c.went ≤ i * 1000 + k) ∧
          s' = ⟨[(3, .v (.map (some bm))), (4, .v (.int .i64 i)), (5, .p 51 b5 0), (7, .v (.int .i64 l[i].runs[k])), (8, .v (.pointer (some ⟨g, 0, none⟩))), (10, .v (.slice (some ⟨c1, o1, none⟩) l.length cap1)), (11, .v (.int .i64 l.length)), (12, .v (.int .i64 i)), (18, .v (.slice (some ⟨d1, p1, none⟩) l[i].runs.length cs)), (19, .v (.int .i64 l[i].runs.length)), (20, .v (.int .i64 k))], [(40, bm, .o (mObj .i64 (esT 0 gs' T') T'.length)), (50, b, .z (ZR (rsT gs' T')) Z Z), (51, b5, .c 46 [.v (.slice (some ⟨d1, p1, none⟩) l[i].runs.length cs), .v (.int .i64 l[i].took)])], G, []⟩) ?_ (fun key => ?_)
        rotate_left
        · refine go_slot 28 (.b false) rfl (by simp [SV.den]) ?_
          refine st_ ?_
          refine x_iff rfl rfl rfl ?_
          refine x_skip rfl ?_
          refine go_keep [3, 4, 5, 7, 8, 10, 11, 12, 18, 19, 20] [40, 50, 51] ?_
          refine st_ ?_
          exact key _ ⟨T, gs, j, g, c, bz, Z, hgs, hj2, hj1, hj3, hj5, hbd _ (List.mem_of_getElem? hj2), rfl⟩
        · rintro s' ⟨T', gs', j, g, c, bz, Z, hgl, hT, hg, hrs, hst, ⟨hc1, hc2, hc3, hc4⟩, rfl⟩
          simp only [List.drop_succ_cons, List.drop_zero]
          have hjl' : j < T'.length := (List.getElem?_eq_some_iff.1 hT).1
          have e1 : esT 0 gs' (stepK i l[i].took l[i].runs[k] T) = esT 0 gs' T' := by rw [hst]; exact esT_set (x := (l[i].runs[k], tst i l[i].took l[i].runs[k] c)) (y := (l[i].runs[k], c)) rfl 0 hT
          have e2 : (((rsT gs' T').set j (Rw.nil 62 4)).set j (rwT g (tst i l[i].took l[i].runs[k] c))) = rsT gs' (stepK i l[i].took l[i].runs[k] T) := by rw [List.set_set, hst]; exact rsT_set (x := (l[i].runs[k], tst i l[i].took l[i].runs[k] c)) hg
          have e3 : (stepK i l[i].took l[i].runs[k] T).length = T'.length := by rw [hst]; simp
          have hwi : IntKind.i64.wrap ((i : Int) - 1) = (i : Int) - 1 := wr (by omega) (by omega)
          refine go_ztake 50 60 j rfl hrs rfl (by omega) (by omega) ?_
          intro Z2
          simp only [rwT]
          refine st_ ?_
          refine rn_ ?_; intros
          refine go_q (v := .int .i64 (c.seen)) (by rw [hnt]; rfl) ((quiet_loadR (k := 60) (by rw [hty]; rfl) rfl (by simp [TK.agg]) rfl (by simp [talV])).cast rfl) ?_
          refine rn_ ?_; intros
          rw [hwi]
          refine cut_tail 1 (fun s' => s' = ⟨[(3, .v (.map (some bm))), (4, .v (.int .i64 i)), (5, .p 51 b5 0), (7, .v (.int .i64 l[i].runs[k])), (8, .v (.pointer (some ⟨g, 0, none⟩))), (10, .v (.slice (some ⟨c1, o1, none⟩) l.length cap1)), (11, .v (.int .i64 l.length)), (12, .v (.int .i64 i)), (18, .v (.slice (some ⟨d1, p1, none⟩) l[i].runs.length cs)), (19, .v (.int .i64 l[i].runs.length)), (20, .v (.int .i64 k))], [(40, bm, .o (mObj .i64 (esT 0 gs' T') T'.length)), (50, bz, .z (ZR ((rsT gs' T').set j (Rw.nil 62 4))) Z2 Z2), (51, b5, .c 46 [.v (.slice (some ⟨d1, p1, none⟩) l[i].runs.length cs), .v (.int .i64 l[i].took)]), (60, 0, .row (.slice (some ⟨g, 0, none⟩) 1 1) 62 4 1 (talV ⟨c.seen, if c.seen < i - 1 then 0 else c.waits, c.most, c.went⟩))], G, []⟩) ?_ (fun key2 => ?_)
          rotate_left
          · refine x_if rfl rfl rfl rfl (fun hsl => ?_) (fun hsl => ?_)
            · have hsl' : c.seen < i - 1 := by simp at hsl; omega
              refine rn_ ?_; intros
              refine go_storeR 60 rfl (by rw [hty]; rfl) rfl rfl rfl rfl rfl rfl (show lay (talV c) 1 [.int .i64 0] = some (talV ⟨c.seen, 0, c.most, c.went⟩) from rfl) ?_
              refine go_ops ?_
              refine go_keep [3, 4, 5, 7, 8, 10, 11, 12, 18, 19, 20] [40, 50, 51, 60] ?_
              refine st_ ?_
              exact key2 _ (by rw [if_pos hsl'])
            · have hsl' : ¬ c.seen < i - 1 := by simp at hsl; omega
              refine x_skip rfl ?_
              refine go_keep [3, 4, 5, 7, 8, 10, 11, 12, 18, 19, 20] [40, 50, 51, 60] ?_
              refine st_ ?_
              exact key2 _ (by rw [if_neg hsl'])
          rintro s' rfl
          simp only [List.drop_succ_cons, List.drop_zero]
          have hwb : (if c.seen < i - 1 then 0 else c.waits) ≤ i * 1000 + k := by split <;> omega
          have htst : ∀ w, w = (if c.seen < i - 1 then 0 else c.waits) → tst i l[i].took l[i].runs[k] c = if l[i].runs[k] = l[i].took then ⟨i, 0, c.most, c.went + 1⟩ else ⟨i, w + 1, max c.most (w + 1), c.went⟩ := fun w hw => by rw [hw]; rfl
          generalize hwe : (if c.seen < i - 1 then 0 else c.waits) = w at *
          have htst := htst w rfl
          refine rn_ ?_; intros
          refine go_storeR 60 rfl (by rw [hty]; rfl) rfl rfl rfl rfl rfl rfl (show lay (talV ⟨c.seen, w, c.most, c.went⟩) 0 [.int .i64 i] = some (talV ⟨i, w, c.most, c.went⟩) from rfl) ?_
          refine rn_ ?_; intros
          refine x_if rfl rfl rfl rfl (fun heq => ?_) (fun heq => ?_)
          · have e4 := htst.trans (if_pos (by simpa using heq))
            refine rn_ ?_; intros
            refine go_storeR 60 rfl (by rw [hty]; rfl) rfl rfl rfl rfl rfl rfl (show lay (talV ⟨i, w, c.most, c.went⟩) 1 [.int .i64 0] = some (talV ⟨i, 0, c.most, c.went⟩) from rfl) ?_
            refine rn_ ?_; intros
            refine go_q (v := .int .i64 (c.went)) (by rw [hnt]; rfl) ((quiet_loadR (k := 60) (by rw [hty]; rfl) rfl (by simp [TK.agg]) rfl (by simp [talV])).cast rfl) ?_
            refine rn_ ?_; intros
            rw [wr (n := (c.went : Int) + 1) (by omega) (by omega)]
            refine go_storeR 60 rfl (by rw [hty]; rfl) rfl rfl rfl rfl rfl rfl (show lay (talV ⟨i, 0, c.most, c.went⟩) 3 [.int .i64 ((c.went + 1 : Nat) : Int)] = some (talV ⟨i, 0, c.most, c.went + 1⟩) from rfl) ?_
            refine rn_ ?_; intros
            refine go_zgive 50 60 j rfl (show ((rsT gs' T').set j (Rw.nil 62 4))[j]? = some (Rw.nil 62 4) from by rw [List.getElem?_set_self (by rw [rsT_len hgl]; exact hjl')]) rfl rfl (by omega) (by omega) (by omega) ?_
            intro Z3
            rw [wr (n := (k : Int) + 1) (by omega) (by omega), show (⟨62, 4, .slice (some ⟨g, 0, none⟩) 1 1, 1, talV ⟨i, 0, c.most, c.went + 1⟩⟩ : Rw) = rwT g (tst i l[i].took l[i].runs[k] c) from by rw [e4]; rfl, e2]
            refine go_keep [3, 4, 5, 10, 11, 12, 18, 19, 20] [40, 50, 51] ?_
            refine st_ ?_
            exact ihk (l[i].runs.length - (k + 1)) _ (by omega) ⟨k + 1, gs', bz, Z3, by omega, rfl, by rw [hcs, e3]; exact hgl, by rw [hcs, ← Nat.add_assoc]; exact hbd.step, by rw [hcs, e1, e3]; simp⟩
          · have e4 := htst.trans (if_neg (by simpa using heq))
            refine rn_ ?_; intros
            refine go_q (v := .int .i64 w) (by rw [hnt]; rfl) ((quiet_loadR (k := 60) (by rw [hty]; rfl) rfl (by simp [TK.agg]) rfl (by simp [talV])).cast rfl) ?_
            refine rn_ ?_; intros
            rw [wr (n := (w : Int) + 1) (by omega) (by omega)]
            refine go_storeR 60 rfl (by rw [hty]; rfl) rfl rfl rfl rfl rfl rfl (show lay (talV ⟨i, w, c.most, c.went⟩) 1 [.int .i64 ((w + 1 : Nat) : Int)] = some (talV ⟨i, w + 1, c.most, c.went⟩) from rfl) ?_
            refine rn_ ?_; intros
            refine x_held [] rfl (by rw [hP]; kernel_rfl) rfl rfl rfl ?_
            refine st_ ?_
            refine h_take 0 rfl (by kernel_rfl) (by kernel_rfl) (by kernel_rfl) hQp (by rw [hnt]; rfl) (allIn (by repeat (first | exact trivial | refine ⟨rfl, ?_⟩))) (by first | exact Le.refl _ | assumption) (quiet_op (by rw [hty]; first | rfl | (refine st_ ?_; rfl))) ?_; refine st_ ?_
            refine h_take 1 rfl (by kernel_rfl) (by kernel_rfl) (by kernel_rfl) hQp (by rw [hnt]; rfl) (allIn (by repeat (first | exact trivial | refine ⟨rfl, ?_⟩))) (by first | exact Le.refl _ | assumption) (quiet_op (by rw [hty]; first | rfl | (refine st_ ?_; rfl))) ?_; refine st_ ?_
            refine h_take 2 rfl (by kernel_rfl) (by kernel_rfl) (by kernel_rfl) hQp (by rw [hnt]; rfl) (allIn (by repeat (first | exact trivial | refine ⟨rfl, ?_⟩))) (by first | exact Le.refl _ | assumption) (quiet_op (by rw [hty]; first | rfl | (refine st_ ?_; rfl))) ?_; refine st_ ?_
            refine h_take 3 rfl (by kernel_rfl) (by kernel_rfl) (by kernel_rfl) hQp (by rw [hnt]; rfl) (allIn (by repeat (first | exact trivial | refine ⟨rfl, ?_⟩))) (by first | exact Le.refl _ | assumption) (quiet_op (by rw [hty]; first | rfl | (refine st_ ?_; rfl))) ?_; refine st_ ?_
            refine h_take 5 rfl (by kernel_rfl) (by kernel_rfl) (by kernel_rfl) hQp (by rw [hnt]; rfl) (allIn (by repeat (first | exact trivial | refine ⟨rfl, ?_⟩))) (by first | exact Le.refl _ | assumption) (quiet_op (by rw [hty]; first | rfl | (refine st_ ?_; rfl))) ?_; refine st_ ?_
            refine h_take 6 rfl (by kernel_rfl) (by kernel_rfl) (by kernel_rfl) hQp (by rw [hnt]; rfl) (allIn (by repeat (first | exact trivial | refine ⟨rfl, ?_⟩))) (by first | exact Le.refl _ | assumption) (quiet_op (by rw [hty]; first | rfl | (refine st_ ?_; rfl))) ?_; refine st_ ?_
            refine h_take 7 rfl (by kernel_rfl) (by kernel_rfl) (by kernel_rfl) hQp (by rw [hnt]; rfl) (allIn (by repeat (first | exact trivial | refine ⟨rfl, ?_⟩))) (by first | exact Le.refl _ | assumption) (quiet_op (by rw [hty]; first | rfl | (refine st_ ?_; rfl))) ?_; refine st_ ?_
            refine h_two 4 8 rfl rfl (by kernel_rfl) ?_ ?_
            · refine go_q (v := .int .i64 (c.most)) (by rw [hnt]; rfl) ((quiet_loadR (k := 60) (by rw [hty]; rfl) rfl (by simp [TK.agg]) rfl (by simp [talV])).cast rfl) ?_
              refine rn_ ?_; intros
              refine h_hs (allIn (by repeat (first | exact trivial | refine ⟨rfl, ?_⟩))) (by first | exact Le.refl _ | assumption) ?_
              refine h_one 8 rfl (by kernel_rfl) ?_
              refine go_q (v := .int .i64 ((w + 1 : Nat) : Int)) (by rw [hnt]; rfl) ((quiet_loadR (k := 60) (by rw [hty]; rfl) rfl (by simp [TK.agg]) rfl (by simp [talV])).cast rfl) ?_
              refine rn_ ?_; intros
              refine h_hs (allIn (by repeat (first | exact trivial | refine ⟨rfl, ?_⟩))) (by first | exact Le.refl _ | assumption) ?_
              refine h_take 9 rfl (by kernel_rfl) (by kernel_rfl) (by kernel_rfl) hQp (by rw [hnt]; rfl) (allIn (by repeat (first | exact trivial | refine ⟨rfl, ?_⟩))) (by first | exact Le.refl _ | assumption) (quiet_op (by rw [hty]; first | rfl | (refine st_ ?_; rfl))) ?_; refine st_ ?_
              refine h_take 10 rfl (by kernel_rfl) (by kernel_rfl) (by kernel_rfl) hQp (by rw [hnt]; rfl) (allIn (by repeat (first | exact trivial | refine ⟨rfl, ?_⟩))) (by first | exact Le.refl _ | assumption) (quiet_op (by rw [hty]; first | rfl | (refine st_ ?_; rfl))) ?_; refine st_ ?_
              refine h_take 11 rfl (by kernel_rfl) (by kernel_rfl) (by kernel_rfl) hQp (by rw [hnt]; rfl) (allIn (by repeat (first | exact trivial | refine ⟨rfl, ?_⟩))) (by first | exact Le.refl _ | assumption) (quiet_op (by rw [hty]; first | rfl | (refine st_ ?_; rfl))) ?_; refine st_ ?_
              refine h_one 12 rfl (by kernel_rfl) ?_
              rw [show (if (c.most : Int) < ((w + 1 : Nat) : Int) then ((w + 1 : Nat) : Int) else (c.most : Int)) = ((max c.most (w + 1) : Nat) : Int) by split <;> omega]
              refine go_storeR 60 rfl (by rw [hty]; rfl) rfl rfl rfl rfl rfl rfl (show lay (talV ⟨i, w + 1, c.most, c.went⟩) 2 [.int .i64 ((max c.most (w + 1) : Nat) : Int)] = some (talV ⟨i, w + 1, max c.most (w + 1), c.went⟩) from rfl) ?_
              refine rn_ ?_; intros
              refine h_hs (allIn (by repeat (first | exact trivial | refine ⟨rfl, ?_⟩))) (by first | exact Le.refl _ | assumption) ?_
              refine h_end (by kernel_rfl) ?_
              refine rn_ ?_; intros
              refine go_zgive 50 60 j rfl (show ((rsT gs' T').set j (Rw.nil 62 4))[j]? = some (Rw.nil 62 4) from by rw [List.getElem?_set_self (by rw [rsT_len hgl]; exact hjl')]) rfl rfl (by omega) (by omega) (by omega) ?_
              intro Z3
              rw [wr (n := (k : Int) + 1) (by omega) (by omega), show (⟨62, 4, .slice (some ⟨g, 0, none⟩) 1 1, 1, talV ⟨i, w + 1, max c.most (w + 1), c.went⟩⟩ : Rw) = rwT g (tst i l[i].took l[i].runs[k] c) from by rw [e4]; rfl, e2]
              refine go_keep [3, 4, 5, 10, 11, 12, 18, 19, 20] [40, 50, 51] ?_
              refine st_ ?_
              exact ihk (l[i].runs.length - (k + 1)) _ (by omega) ⟨k + 1, gs', bz, Z3, by omega, rfl, by rw [hcs, e3]; exact hgl, by rw [hcs, ← Nat.add_assoc]; exact hbd.step, by rw [hcs, e1, e3]; simp⟩
            · refine go_q (v := .int .i64 ((w + 1 : Nat) : Int)) (by rw [hnt]; rfl) ((quiet_loadR (k := 60) (by rw [hty]; rfl) rfl (by simp [TK.agg]) rfl (by simp [talV])).cast rfl) ?_
              refine rn_ ?_; intros
              refine h_hs (allIn (by repeat (first | exact trivial | refine ⟨rfl, ?_⟩))) (by first | exact Le.refl _ | assumption) ?_
              refine h_one 4 rfl (by kernel_rfl) ?_
              refine go_q (v := .int .i64 (c.most)) (by rw [hnt]; rfl) ((quiet_loadR (k := 60) (by rw [hty]; rfl) rfl (by simp [TK.agg]) rfl (by simp [talV])).cast rfl) ?_
              refine rn_ ?_; intros
              refine h_hs (allIn (by repeat (first | exact trivial | refine ⟨rfl, ?_⟩))) (by first | exact Le.refl _ | assumption) ?_
              refine h_take 9 rfl (by kernel_rfl) (by kernel_rfl) (by kernel_rfl) hQp (by rw [hnt]; rfl) (allIn (by repeat (first | exact trivial | refine ⟨rfl, ?_⟩))) (by first | exact Le.refl _ | assumption) (quiet_op (by rw [hty]; first | rfl | (refine st_ ?_; rfl))) ?_; refine st_ ?_
              refine h_take 10 rfl (by kernel_rfl) (by kernel_rfl) (by kernel_rfl) hQp (by rw [hnt]; rfl) (allIn (by repeat (first | exact trivial | refine ⟨rfl, ?_⟩))) (by first | exact Le.refl _ | assumption) (quiet_op (by rw [hty]; first | rfl | (refine st_ ?_; rfl))) ?_; refine st_ ?_
              refine h_take 11 rfl (by kernel_rfl) (by kernel_rfl) (by kernel_rfl) hQp (by rw [hnt]; rfl) (allIn (by repeat (first | exact trivial | refine ⟨rfl, ?_⟩))) (by first | exact Le.refl _ | assumption) (quiet_op (by rw [hty]; first | rfl | (refine st_ ?_; rfl))) ?_; refine st_ ?_
              refine h_one 12 rfl (by kernel_rfl) ?_
              rw [show (if (c.most : Int) < ((w + 1 : Nat) : Int) then ((w + 1 : Nat) : Int) else (c.most : Int)) = ((max c.most (w + 1) : Nat) : Int) by split <;> omega]
              refine go_storeR 60 rfl (by rw [hty]; rfl) rfl rfl rfl rfl rfl rfl (show lay (talV ⟨i, w + 1, c.most, c.went⟩) 2 [.int .i64 ((max c.most (w + 1) : Nat) : Int)] = some (talV ⟨i, w + 1, max c.most (w + 1), c.went⟩) from rfl) ?_
              refine rn_ ?_; intros
              refine h_hs (allIn (by repeat (first | exact trivial | refine ⟨rfl, ?_⟩))) (by first | exact Le.refl _ | assumption) ?_
              refine h_end (by kernel_rfl) ?_
              refine rn_ ?_; intros
              refine go_zgive 50 60 j rfl (show ((rsT gs' T').set j (Rw.nil 62 4))[j]? = some (Rw.nil 62 4) from by rw [List.getElem?_set_self (by rw [rsT_len hgl]; exact hjl')]) rfl rfl (by omega) (by omega) (by omega) ?_
              intro Z3
              rw [wr (n := (k : Int) + 1) (by omega) (by omega), show (⟨62, 4, .slice (some ⟨g, 0, none⟩) 1 1, 1, talV ⟨i, w + 1, max c.most (w + 1), c.went⟩⟩ : Rw) = rwT g (tst i l[i].took l[i].runs[k] c) from by rw [e4]; rfl, e2]
              refine go_keep [3, 4, 5, 10, 11, 12, 18, 19, 20] [40, 50, 51] ?_
              refine st_ ?_
              exact ihk (l[i].runs.length - (k + 1)) _ (by omega) ⟨k + 1, gs', bz, Z3, by omega, rfl, by rw [hcs, e3]; exact hgl, by rw [hcs, ← Nat.add_assoc]; exact hbd.step, by rw [hcs, e1, e3]; simp⟩
    have hge : k = l[i].runs.length := by simp at hjl; omega
    subst hge
    clear ihk hjl hq hk
    rw [List.take_length] at *
    rw [← hsn] at *
    refine rn_ ?_; intros
    rw [wr (n := (i : Int) + 1) (by omega) (by omega)]
    refine go_keep [3, 10, 11, 12] [40, 50] ?_
    refine st_ ?_
    exact ih (l.length - (i + 1)) _ (by omega) ⟨i + 1, gs, bz, Z, by omega, rfl, hgs, hbd.mono (by omega) (by omega), by simp⟩
  have hge : i = l.length := by simp at hil; omega
  subst hge
  rw [List.take_length] at *
  refine go_znew 50 rfl ?_
  intro hznew
  refine go_zpub 50 rfl (by omega) ?_
  rintro G1 (hle1 : Le G G1) hrw
  refine go_new0 40 (g := bm) rfl rfl ?_
  intro (hnm : G1 bm = none)
  refine go_pubx 40 (g := bm) rfl (by omega) rfl (fun _ h => h) ?_
  rintro G2 (hle2 : Le G1 G2) hGm
  refine rn_ ?_; intros
  refine x_retc rfl hQ hmb rfl (by rw [hty]; simp only [so, sq, zy, zz, tyE, SO', SQ', opQ, opStore, opAlloc, ev, putS, dOk, cv, SV.cs, SV.one, SV.bool?, eqB, Value.oneCell', ldOwn, binInt, binConst, binBool, binStr, isC, TK.agg, rv, rv1, ldV, resOne, resV, Nat.reduceAdd, Nat.reduceMul, Nat.reduceSub, Nat.reduceLT, Nat.reduceLeDiff, Nat.reduceEqDiff, Nat.reduceBEq, reduceIte, reduceCtorEq, eq_self]; try rfl) rfl ?_; simp only [SV.den, resV, dens]
  have hGn : G bm = none := by
    cases hq : G bm with
    | none => rfl
    | some o => have := hle1 _ _ hq; rw [hnm] at this; cases this
  refine ⟨bm, rfl, gs, hgs, by simp only [diff, hGn]; exact hGm, fun j g x hj hx => ?_⟩
  have hrj := rsT_get hj hx
  have hg0 : G g = none := hznew j _ g hrj rfl
  rcases hrw j _ hrj with ⟨h, _⟩ | ⟨g', cap, h, hat⟩
  · cases h
  · cases h
    exact at_diff (hat.mono hle2) hg0
end Go.Proofs.Ytcaohcmlicbjhaa
namespace Go.Sx
set_option linter.unusedSimpArgs false
set_option linter.unusedVariables false
section
variable {C : Ctx} {K : List KI} {s : St} {R : Array Oper} {l : List Oper} {d : Option Tmp} {t : TypeId} {pos : String} {aft : Array Edge} {es : MEs} {kd : IntKind} {bm c : Nat}
theorem go_mrange (k : Nat) {T KT E : TypeId} {x : Operand} {sz by' : Nat} {ze : List Value} {fl : List (Nat × Nat × Bool)} (hd : dOk C.nt d = true) (hT : C.ty T = some ⟨.map KT E, sz, by', ze, fl⟩) (hx : ev s.sl x = some (.v (.map (some bm)))) (hG : s.G bm = some (mObj kd es c)) (hk : lk k s.own = none) (hmh : C.mh ≤ k)
    (h : ∀ g, SGo C (.ops R l :: K) ⟨putS d (.v (.pointer (some ⟨g, 0, none⟩))) s.sl, stk k (g, .o (.mapIter (some bm) c #[] c)) s.own, s.G, s.df⟩) : SGo C (.ops R (⟨d, .range T x, t, pos, aft, none⟩ :: l) :: K) s := by
  intro a w hS
  have hxv := ev_ok hS.sl hx
  simp only [SV.den] at hxv
  have h1 := (C.tyok _ _ hT).k
  simp only [TK.fits] at h1
  have hb := hS.mem.has _ _ hG
  have hrun : (execOp a.eval ⟨d, .range T x, t, pos, aft, none⟩).run C.P w = .ok (.value (.pointer (some ⟨w.heap.size, 0, none⟩))) (w.alloc (.mapIter (some bm) c #[] c)) := by
    have hg : (getObj bm).run C.P w = .ok (mObj kd es c) w := by simp [getObj, Sem.run, hb, mObj]
    simp only [execOp, hxv, Instr.range, Sem.run_bind, run_und w h1, Result.andThen_ok, hg, mObj, Sem.run_pure]
    simp [newObj, Sem.run]
  refine K_value rfl hrun ?_
  have hm : Mem C (stk k (w.heap.size, .o (.mapIter (some bm) c #[] c)) s.own) s.G (w.alloc (.mapIter (some bm) c #[] c)) :=
    hS.mem.new hk hmh rfl rfl rfl (by simp) (fun j hj => alloc_old w _ hj) (alloc_new w _) (fun g hg => by simp only [OO.blks] at hg; omega)
  have hS' := hS.put hd (.v (.pointer (some ⟨w.heap.size, 0, none⟩))) hm
  simp only [SV.den] at hS'
  exact h _ _ _ hS'
theorem go_mnext (k : Nat) {x : Operand} {g : Nat} {seen : Array Nat} (hd : dOk C.nt d = true) (hx : ev s.sl x = some (.v (.pointer (some ⟨g, 0, none⟩)))) (hk : lk k s.own = some (g, .o (.mapIter (some bm) c seen c))) (hG : s.G bm = some (mObj kd es c)) (hold : ∀ x ∈ es, x.2.2 < c)
    (h0 : (∀ x ∈ es, seen.contains x.2.2 = true) → SGo C (.ops R l :: K) ⟨putS d (.t [.v (.bool false)]) s.sl, s.own, s.G, s.df⟩)
    (h1 : ∀ x ∈ es, seen.contains x.2.2 = false → SGo C (.ops R l :: K) ⟨putS d (.t [.v (.bool true), .v (.int kd x.1), .v x.2.1]) s.sl, stk k (g, .o (.mapIter (some bm) c (seen.push x.2.2) c)) s.own, s.G, s.df⟩) :
    SGo C (.ops R (⟨d, .next x false, t, pos, aft, none⟩ :: l) :: K) s := by
  intro a w hS
  have hxv := ev_ok hS.sl hx
  simp only [SV.den] at hxv
  have hb := hS.mem.has _ _ hG
  have hi := (hS.mem.own _ _ _ hk).1
  simp only [OO.holds] at hi
  have hold' : ∀ y ∈ ((es.map (mEnt kd)).toArray).toList, y.born < c := fun y hy => by
    simp only [List.mem_map] at hy
    obtain ⟨z, hz, rfl⟩ := hy
    exact hold z hz
  rcases run_next_at (P := C.P) w t g bm c c seen (es.map (mEnt kd)).toArray c hi hb hold' (Nat.le_refl _) with ⟨hz, hr⟩ | ⟨e, he, w1, hw1, hr⟩
  · have hrun : (execOp a.eval ⟨d, .next x false, t, pos, aft, none⟩).run C.P w = .ok (.value (.tuple #[.bool false])) w := by
      simp only [execOp, hxv, Sem.run_bind, hr, Result.andThen_ok, Sem.run_pure]
    refine K_value rfl hrun ?_
    have hS' := hS.put hd (.t [.v (.bool false)]) hS.mem
    simp only [SV.den, dens] at hS'
    refine h0 (fun y hy => ?_) _ _ hS'
    have hem : leftOf (es.map (mEnt kd)).toArray seen = #[] := Array.eq_empty_of_size_eq_zero hz
    cases hq : seen.contains y.2.2 with
    | true => rfl
    | false =>
      have : mEnt kd y ∈ leftOf (es.map (mEnt kd)).toArray seen := by
        rw [leftOf, Array.mem_filter]
        exact ⟨by simp only [List.mem_toArray, List.mem_map]; exact ⟨y, hy, rfl⟩, by simp only [mEnt, hq]; rfl⟩
      rw [hem] at this
      simp at this
  · have hmem : e ∈ leftOf (es.map (mEnt kd)).toArray seen := by simpa using he
    rw [leftOf, Array.mem_filter] at hmem
    obtain ⟨hm1, hm2⟩ := hmem
    simp only [List.mem_toArray, List.mem_map] at hm1
    obtain ⟨y, hy, rfl⟩ := hm1
    have hq : seen.contains y.2.2 = false := by simpa [mEnt] using hm2
    have hrun : (execOp a.eval ⟨d, .next x false, t, pos, aft, none⟩).run C.P w = .ok (.value (.tuple #[.bool true, .int kd y.1, y.2.1])) (setBlk w1 g (.mapIter (some bm) c (seen.push y.2.2) c)) := by
      simp only [execOp, hxv, Sem.run_bind, hr, Result.andThen_ok, Sem.run_pure]
      rfl
    refine K_value rfl hrun ?_
    have hm0 : Mem C s.own s.G w1 := by
      rcases hw1 with rfl | rfl
      · exact hS.mem
      · exact hS.mem.drew
    have hlt : g < w1.heap.size := by
      have := lt_of_heap hi
      rcases hw1 with rfl | rfl
      · exact this
      · exact this
    have hm : Mem C (stk k (g, .o (.mapIter (some bm) c (seen.push y.2.2) c)) s.own) s.G (setBlk w1 g (.mapIter (some bm) c (seen.push y.2.2) c)) :=
      hm0.put hk rfl rfl rfl (by rw [setBlk_size]; exact Nat.le_refl _) (fun j _ hj => setBlk_ne (fun e => hj e) _) (setBlk_same hlt _) (fun g => ⟨.inl, .inl⟩)
    have hS' := hS.put hd (.t [.v (.bool true), .v (.int kd y.1), .v y.2.1]) hm
    simp only [SV.den, dens] at hS'
    exact h1 y hy hq _ _ hS'
theorem quiet_mentry (k : Nat) {x : Operand} {g : Nat} {seen : Array Nat} {y : Int × Value × Nat} (hx : ev s.sl x = some (.v (.pointer (some ⟨g, 0, none⟩)))) (hk : lk k s.own = some (g, .o (.mapIter (some bm) c (seen.push y.2.2) c))) (hG : s.G bm = some (mObj kd es c)) (hy : y ∈ es) (hn : (es.map (·.2.2)).Nodup) :
    Quiet C s.sl s.own s.G (.entry x) (.tuple #[.int kd y.1, y.2.1]) := by
  intro a w d t pos aft g' hs hh
  have hxv := ev_ok hs hx
  simp only [SV.den] at hxv
  have hi := hh.1 _ _ _ hk
  have hb := hh.2 _ _ hG
  simp only [OO.holds] at hi
  have := run_entry_at (P := C.P) w g bm c seen (es.map (mEnt kd)).toArray c (mEnt kd y) hi hb (by simp only [List.mem_map]; exact ⟨y, hy, rfl⟩) (by simpa [List.map_map, Function.comp_def, mEnt] using hn)
  simp only [execOp, hxv, Sem.run_bind, this, Result.andThen_ok, Sem.run_pure]
  rfl
end
end Go.Sx
namespace Go.Proofs.Ytcaohcmlicbjhaa
set_option linter.unusedSimpArgs false
set_option linter.unusedVariables false
open Go.Sx
def keysT (T : TLs) : List Int := T.map (·.1)
theorem stepK_keys (i : Nat) (took t : Int) : ∀ (T : TLs), keysT (stepK i took t T) = if t ∈ keysT T then keysT T else keysT T ++ [t]
  | [] => by simp [stepK, keysT]
  | x :: T => by
    have ih := stepK_keys i took t T
    simp only [keysT] at ih
    by_cases h : x.1 = t
    · simp [stepK, keysT, h]
    · have h' : ¬ t = x.1 := fun q => h q.symm
      simp only [stepK, keysT, h, if_false, List.map_cons, List.mem_cons, h', false_or, ih]
      split <;> rename_i q <;> simp [q]
theorem stepK_mem {i : Nat} {took t : Int} {T : TLs} {u : Int} : u ∈ keysT (stepK i took t T) ↔ u ∈ keysT T ∨ u = t := by
  rw [stepK_keys]
  split
  · rename_i h; exact ⟨.inl, fun q => q.elim id fun q => q ▸ h⟩
  · simp
theorem stepK_nd {i : Nat} {took t : Int} {T : TLs} (h : (keysT T).Nodup) : (keysT (stepK i took t T)).Nodup := by
  rw [stepK_keys]
  split
  · exact h
  · rename_i hn
    rw [List.nodup_append]
    exact ⟨h, by simp, fun a ha b hb => by simp at hb; subst hb; exact fun q => hn (q ▸ ha)⟩
theorem cntI_mem {i : Nat} {took : Int} {u : Int} : ∀ {runs : List Int} {T : TLs}, u ∈ keysT (cntI i took runs T) ↔ u ∈ keysT T ∨ u ∈ runs
  | [], T => by simp [cntI]
  | t :: r, T => by
    have := cntI_mem (i := i) (took := took) (u := u) (runs := r) (T := stepK i took t T)
    simp only [cntI, List.foldl_cons] at this ⊢
    rw [this, stepK_mem, List.mem_cons]
    constructor
    · rintro ((h | h) | h)
      · exact .inl h
      · exact .inr (.inl h)
      · exact .inr (.inr h)
    · rintro (h | h | h)
      · exact .inl (.inl h)
      · exact .inl (.inr h)
      · exact .inr h
theorem cntI_nd {i : Nat} {took : Int} : ∀ {runs : List Int} {T : TLs}, (keysT T).Nodup → (keysT (cntI i took runs T)).Nodup
  | [], T, h => h
  | t :: r, T, h => by
    have := cntI_nd (i := i) (took := took) (runs := r) (stepK_nd (i := i) (took := took) (t := t) h)
    simpa only [cntI, List.foldl_cons] using this
theorem cntG_mem {u : Int} : ∀ {l : List Tn} {i : Nat} {T : TLs}, u ∈ keysT (cntG i T l) ↔ u ∈ keysT T ∨ ∃ x ∈ l, u ∈ x.runs
  | [], i, T => by simp [cntG]
  | y :: l, i, T => by
    rw [cntG, cntG_mem (l := l), cntI_mem]
    simp only [List.mem_cons, exists_eq_or_imp, or_assoc]
theorem cntG_nd : ∀ {l : List Tn} {i : Nat} {T : TLs}, (keysT T).Nodup → (keysT (cntG i T l)).Nodup
  | [], i, T, h => h
  | y :: l, i, T, h => cntG_nd (l := l) (cntI_nd h)
theorem cntL_mem {l : List Tn} {u : Int} : u ∈ keysT (cntL l) ↔ ∃ x ∈ l, u ∈ x.runs := by
  rw [cntL, cntG_mem]; simp [keysT]
theorem cntL_nd (l : List Tn) : (keysT (cntL l)).Nodup := cntG_nd (by simp [keysT])
def tg (t : Int) (T : TLs) : Option Tal := (T.find? fun x => x.1 == t).map (·.2)
theorem tg_step_ne {i : Nat} {took t u : Int} (h : u ≠ t) : ∀ {T : TLs}, tg u (stepK i took t T) = tg u T
  | [] => by simp [stepK, tg, Ne.symm h]
  | x :: T => by
    have ih := tg_step_ne (i := i) (took := took) h (T := T)
    simp only [tg] at ih
    by_cases hx : x.1 = t
    · have h1 : (t == u) = false := by simpa using Ne.symm h
      simp [stepK, tg, hx, h1]
    · by_cases hu : (x.1 == u) = true
      · simp [stepK, tg, hx, hu]
      · simp [stepK, tg, hx, hu, ih]
theorem tg_step_eq {i : Nat} {took t : Int} : ∀ {T : TLs}, tg t (stepK i took t T) = some (tst i took t ((tg t T).getD ⟨i, 0, 0, 0⟩))
  | [] => by simp [stepK, tg]
  | x :: T => by
    have ih := tg_step_eq (i := i) (took := took) (t := t) (T := T)
    simp only [tg] at ih
    by_cases hx : x.1 = t
    · simp [stepK, tg, hx]
    · have h1 : (x.1 == t) = false := by simpa using hx
      simp [stepK, tg, hx, h1, ih]
theorem tg_fold_ne {i : Nat} {took u : Int} : ∀ {runs : List Int} {T : TLs}, u ∉ runs → tg u (cntI i took runs T) = tg u T
  | [], T, _ => rfl
  | t :: r, T, h => by
    simp only [List.mem_cons, not_or] at h
    have := tg_fold_ne (i := i) (took := took) (runs := r) (T := stepK i took t T) h.2
    simp only [cntI, List.foldl_cons] at this ⊢
    rw [this, tg_step_ne h.1]
theorem tg_fold_eq {i : Nat} {took u : Int} : ∀ {runs : List Int} {T : TLs}, runs.Nodup → u ∈ runs → tg u (cntI i took runs T) = some (tst i took u ((tg u T).getD ⟨i, 0, 0, 0⟩))
  | [], T, _, h => by simp at h
  | t :: r, T, hn, h => by
    rw [List.nodup_cons] at hn
    by_cases hu : u = t
    · subst hu
      have := tg_fold_ne (i := i) (took := took) (runs := r) (T := stepK i took u T) hn.1
      simp only [cntI, List.foldl_cons] at this ⊢
      rw [this, tg_step_eq]
    · have hr : u ∈ r := by simpa [hu] using h
      have := tg_fold_eq (i := i) (took := took) (runs := r) (T := stepK i took t T) hn.2 hr
      simp only [cntI, List.foldl_cons] at this ⊢
      rw [this, tg_step_ne hu]
theorem risG_gt : ∀ {l : List Int} {m : Int}, risG m l = true → ∀ x ∈ l, m < x
  | [], _, _, _, hx => by simp at hx
  | y :: l, m, h, x, hx => by
    simp only [risG, Bool.and_eq_true, decide_eq_true_eq] at h
    rcases List.mem_cons.1 hx with rfl | hx
    · exact h.1
    · have := risG_gt h.2 x hx; omega
theorem risG_pw : ∀ {l : List Int} {m : Int}, risG m l = true → l.Pairwise (· < ·)
  | [], _, _ => .nil
  | y :: l, m, h => by
    simp only [risG, Bool.and_eq_true, decide_eq_true_eq] at h
    exact List.pairwise_cons.2 ⟨risG_gt h.2, risG_pw h.2⟩
theorem right_nd {x : Tn} (h : rightT x = true) : x.runs.Nodup := by
  simp only [rightT, Bool.and_eq_true] at h
  exact (risG_pw h.1).imp fun {a b} hab => by omega
theorem right_in {x : Tn} (h : rightT x = true) : x.took ∈ x.runs := by
  simp only [rightT, Bool.and_eq_true] at h
  exact inB_iff.1 h.2
theorem tg_ok {u : Int} : ∀ {k : Nat} {l : List Tn}, k ≤ l.length → (∀ x ∈ l, rightT x = true) → match tg u (cntL (l.take k)) with
    | none => waitF (l.take k) u = (0, 0) ∧ wentF (l.take k) u = 0
    | some c => c.seen < k ∧ c.most = (waitF (l.take k) u).1 ∧ c.went = wentF (l.take k) u ∧ (if c.seen < k - 1 then 0 else c.waits) = (waitF (l.take k) u).2
  | 0, l, _, _ => by simp [cntL, cntG, tg, waitF, wentF]
  | k + 1, l, hk, hr => by
    have ih := tg_ok (u := u) (k := k) (l := l) (by omega) hr
    have hx := hr _ (List.getElem_mem (show k < l.length by omega))
    rw [cntL_snoc (by omega), waitF_snoc (by omega), wentF_snoc (by omega)]
    have hin := right_in hx
    have hnd := right_nd hx
    generalize l[k] = x at *
    by_cases hu : u ∈ x.runs
    · rw [tg_fold_eq hnd hu]
      have hub : inB x.runs u = true := inB_iff.2 hu
      have key : ∀ c : Tal, (if c.seen < k - 1 then 0 else c.waits) = (waitF (l.take k) u).2 → c.most = (waitF (l.take k) u).1 → c.went = wentF (l.take k) u →
          (tst k x.took u c).seen < k + 1 ∧ (tst k x.took u c).most = (wSt u (waitF (l.take k) u) x).1 ∧ (tst k x.took u c).went = wentF (l.take k) u + (if (x.took == u) = true then 1 else 0) ∧ (if (tst k x.took u c).seen < k + 1 - 1 then 0 else (tst k x.took u c).waits) = (wSt u (waitF (l.take k) u) x).2 := by
        intro c h1 h2 h3
        by_cases ht : u = x.took
        · have ht' : (x.took == u) = true := by simp [ht]
          rw [ht] at h2 h3
          simp [tst, ht, wSt, h2, h3]
        · have ht' : (x.took == u) = false := by simpa using Ne.symm ht
          have ht2 : (x.took != u) = true := by simp [bne, ht']
          simp [tst, ht, wSt, hub, ht', ht2, h1, h2, h3]
      cases hc : tg u (cntL (l.take k)) with
      | none =>
        rw [hc] at ih
        simp only [Option.getD_none]
        exact key _ (by simp [ih.1]) (by simp [ih.1]) (by simp [ih.2])
      | some c =>
        rw [hc] at ih
        simp only [Option.getD_some]
        exact key c ih.2.2.2 ih.2.1 ih.2.2.1
    · rw [tg_fold_ne hu]
      have hub : inB x.runs u = false := by
        cases h : inB x.runs u with
        | false => rfl
        | true => exact absurd (inB_iff.1 h) hu
      have ht' : (x.took == u) = false := by
        rw [beq_eq_false_iff_ne]
        intro q
        exact hu (q ▸ hin)
      cases hc : tg u (cntL (l.take k)) with
      | none =>
        rw [hc] at ih
        simp [wSt, hub, ht', ih.1, ih.2]
      | some c =>
        rw [hc] at ih
        simp only [wSt, hub, ht', Bool.false_and, Bool.false_eq_true, if_false, Nat.add_zero]
        refine ⟨by omega, by rw [ih.2.1]; simp, ih.2.2.1, ?_⟩
        rw [if_pos (by omega)]
theorem tg_get {T : TLs} (hn : (keysT T).Nodup) {x : Int × Tal} (hx : x ∈ T) : tg x.1 T = some x.2 := by
  induction T with
  | nil => simp at hx
  | cons y T ih =>
    simp only [keysT, List.map_cons, List.nodup_cons] at hn
    rcases List.mem_cons.1 hx with rfl | hx
    · simp [tg]
    · have : (y.1 == x.1) = false := by
        rw [beq_eq_false_iff_ne]
        intro q
        exact hn.1 (q ▸ List.mem_map.2 ⟨x, hx, rfl⟩)
      have ih' := ih hn.2 hx
      simp only [tg] at ih' ⊢
      rw [List.find?_cons, this]
      exact ih'
theorem tal_ok {l : List Tn} (hr : ∀ x ∈ l, rightT x = true) {x : Int × Tal} (hx : x ∈ cntL l) : x.2.most = (waitF l x.1).1 ∧ x.2.went = wentF l x.1 := by
  have h := tg_ok (u := x.1) (k := l.length) (l := l) (Nat.le_refl _) hr
  rw [List.take_length, tg_get (cntL_nd l) hx] at h
  exact ⟨h.2.1, h.2.2.1⟩
theorem badT_none : ∀ {l : List Tn} {i : Nat}, badT l i = none → ∀ x ∈ l, rightT x = true
  | [], _, _, _, hx => by simp at hx
  | y :: l, i, h, x, hx => by
    simp only [badT] at h
    split at h
    · rename_i hy
      rcases List.mem_cons.1 hx with rfl | hx
      · exact hy
      · exact badT_none h x hx
    · cases h
theorem chk_ok {l : List Tn} (h : (chk l).2 = 0) : ∀ x ∈ l, rightT x = true := by
  unfold chk at h
  cases hb : badT l 0 with
  | none => exact badT_none hb
  | some i => rw [hb] at h; simp at h
end Go.Proofs.Ytcaohcmlicbjhaa
namespace Go.Proofs.Ytcaohcmlicbjhaa
set_option linter.unusedSimpArgs false
set_option linter.unusedVariables false
open Go.Sx
theorem esT_mem : ∀ {gs : List Nat} {T : TLs} {i : Nat} {x : Int × Value × Nat}, x ∈ esT i gs T → ∃ (j g : Nat) (y : Int × Tal), gs[j]? = some g ∧ T[j]? = some y ∧ x = (y.1, .pointer (some ⟨g, 0, none⟩), i + j)
  | [], T, i, x, h => by simp [esT] at h
  | g :: gs, [], i, x, h => by simp [esT] at h
  | g :: gs, y :: T, i, x, h => by
    simp only [esT, List.mem_cons] at h
    rcases h with rfl | h
    · exact ⟨0, g, y, rfl, rfl, rfl⟩
    · obtain ⟨j, g', y', h1, h2, h3⟩ := esT_mem h
      exact ⟨j + 1, g', y', by simpa using h1, by simpa using h2, by rw [h3]; congr 2; omega⟩
theorem esT_get : ∀ {gs : List Nat} {T : TLs} {i j g : Nat} {y : Int × Tal}, gs[j]? = some g → T[j]? = some y → (y.1, Value.pointer (some ⟨g, 0, none⟩), i + j) ∈ esT i gs T
  | [], T, i, j, g, y, h, _ => by simp at h
  | g :: gs, [], i, j, _, y, _, h => by simp at h
  | g :: gs, z :: T, i, 0, _, y, h, h' => by simp at h h'; subst h h'; simp [esT]
  | g :: gs, z :: T, i, j + 1, _, y, h, h' => by
    have := esT_get (gs := gs) (T := T) (i := i + 1) (j := j) (by simpa using h) (by simpa using h')
    simp only [esT, List.mem_cons]
    right
    rw [show i + (j + 1) = i + 1 + j by omega]; exact this
theorem esT_keys : ∀ {gs : List Nat} {T : TLs} (i : Nat), gs.length = T.length → (esT i gs T).map (·.1) = keysT T
  | [], [], _, _ => rfl
  | g :: gs, x :: T, i, h => by simp [esT, keysT] ; exact esT_keys (gs := gs) (T := T) (i + 1) (by simpa using h)
theorem esT_born : ∀ {gs : List Nat} {T : TLs} (i : Nat), gs.length = T.length → (esT i gs T).map (·.2.2) = List.range' i T.length
  | [], [], _, _ => rfl
  | g :: gs, x :: T, i, h => by simp [esT, List.range'_succ]; exact esT_born (gs := gs) (T := T) (i + 1) (by simpa using h)
theorem filt_lt {es : MEs} {seen : Array Nat} {x : Int × Value × Nat} (hx : x ∈ es) (hs : seen.contains x.2.2 = false) :
    (es.filter fun y => !(seen.push x.2.2).contains y.2.2).length < (es.filter fun y => !seen.contains y.2.2).length := by
  have hsub : ∀ l : MEs, (l.filter fun y => !(seen.push x.2.2).contains y.2.2).length ≤ (l.filter fun y => !seen.contains y.2.2).length := by
    intro l
    induction l with
    | nil => simp
    | cons y l ih =>
      simp only [List.filter_cons]
      cases h1 : seen.contains y.2.2 with
      | true =>
        have h2 : (seen.push x.2.2).contains y.2.2 = true := by
          rw [Array.contains_iff_mem] at *
          exact Array.mem_push.2 (.inl h1)
        rw [h2]; simp only [Bool.not_true, Bool.false_eq_true, if_false]; exact ih
      | false =>
        cases h2 : (seen.push x.2.2).contains y.2.2 with
        | true => simp only [Bool.not_false, Bool.not_true, if_true, Bool.false_eq_true, if_false, List.length_cons]; omega
        | false => simp only [Bool.not_false, if_true, List.length_cons]; omega
  induction es with
  | nil => simp at hx
  | cons y l ih =>
    simp only [List.filter_cons]
    rcases List.mem_cons.1 hx with rfl | hx
    · have h2 : (seen.push x.2.2).contains x.2.2 = true := by rw [Array.contains_iff_mem]; simp
      rw [h2, hs]
      have := hsub l
      simp only [Bool.not_false, Bool.not_true, if_true, Bool.false_eq_true, if_false, List.length_cons]; omega
    · have := ih hx
      cases h1 : seen.contains y.2.2 with
      | true =>
        have h2 : (seen.push x.2.2).contains y.2.2 = true := by
          rw [Array.contains_iff_mem] at *
          exact Array.mem_push.2 (.inl h1)
        rw [h2]; simp only [Bool.not_true, Bool.false_eq_true, if_false]; exact this
      | false =>
        cases h2 : (seen.push x.2.2).contains y.2.2 with
        | true => simp only [Bool.not_false, Bool.not_true, if_true, Bool.false_eq_true, if_false, List.length_cons]; omega
        | false => simp only [Bool.not_false, if_true, List.length_cons]; omega
theorem TM.mono {G G' : Hp} {b : Nat} {T : TLs} (h : TM G b T) (hl : Le G G') : TM G' b T := by
  obtain ⟨gs, h1, h2, h3⟩ := h
  exact ⟨gs, h1, hl _ _ h2, fun j g x hj hx => (h3 j g x hj hx).mono hl⟩
def fairB (w : Int) (l : List Tn) : Bool := (chk l).2 == 0 && decide (1 ≤ w) && (cntL l).all fun x => decide ((x.2.most : Int) < w)
set_option maxHeartbeats 4000000
theorem fair_ok (w : Int) (l : List Tn) (s1 : Value) (G : Hp) (h1 : rT.S G l s1) (hl : l.length ≤ 1000) (hr : ∀ x ∈ l, x.runs.length ≤ 1000) : Pure Try.prog 19 [.int .i64 w, s1] G (fun r _ => r = .bool (fairB w l)) := by
  have h10 := h1
  obtain ⟨ad1, cap1, rfl⟩ := Rp.S_slice h1
  refine enterX ty tyok Try.func19 rfl Try.ntmps19 [.v (.int .i64 w), .v (.slice ad1 l.length cap1)] (by simp) ?_
  intro C hP hQ hnt hty hmb hmh hro; have hQp := qp_body hQ; refine st_ ?_
  refine rn_ ?_; intros
  refine go_call (by rw [hnt]; rfl) (by rw [hP]; kernel_rfl) rfl (hP ▸ check_ok l _ G h10) ?_
  rintro v G0 (hle0 : Le G G0) rfl
  refine st_ ?_
  refine rn_ ?_; intros
  refine go_gsplit rfl rfl (fun hc => ?_) (fun hc => ?_) <;> (refine st_ ?_; (refine rn_ ?_; intros))
  · repeat (refine go_gundef rfl (by rw [hnt]; rfl) rfl ?_; (refine st_ ?_; (refine rn_ ?_; intros)))
    refine rn_ ?_; intros
    refine x_retc rfl hQ hmb rfl (by rw [hty]; simp only [so, sq, zy, zz, tyE, SO', SQ', opQ, opStore, opAlloc, ev, putS, dOk, cv, SV.cs, SV.one, SV.bool?, eqB, Value.oneCell', ldOwn, binInt, binConst, binBool, binStr, isC, TK.agg, rv, rv1, ldV, resOne, resV, Nat.reduceAdd, Nat.reduceMul, Nat.reduceSub, Nat.reduceLT, Nat.reduceLeDiff, Nat.reduceEqDiff, Nat.reduceBEq, reduceIte, reduceCtorEq, eq_self]; try rfl) rfl ?_; simp only [SV.den, resV, dens]
    have h : ((chk l).2 != 0) = true := hc
    have h' : ((chk l).2 == 0) = false := by simpa using h
    rw [fairB, h']; rfl
  have hc' : ((chk l).2 == 0) = true := by have h : ((chk l).2 != 0) = false := hc; simpa using h
  refine x_split rfl rfl rfl (fun hw => ?_) (fun hw => ?_) <;> (refine st_ ?_; (refine ru_ ?_; intros))
  · refine rn_ ?_; intros
    refine x_retc rfl hQ hmb rfl (by rw [hty]; simp only [so, sq, zy, zz, tyE, SO', SQ', opQ, opStore, opAlloc, ev, putS, dOk, cv, SV.cs, SV.one, SV.bool?, eqB, Value.oneCell', ldOwn, binInt, binConst, binBool, binStr, isC, TK.agg, rv, rv1, ldV, resOne, resV, Nat.reduceAdd, Nat.reduceMul, Nat.reduceSub, Nat.reduceLT, Nat.reduceLeDiff, Nat.reduceEqDiff, Nat.reduceBEq, reduceIte, reduceCtorEq, eq_self]; try rfl) rfl ?_; simp only [SV.den, resV, dens]
    rw [fairB, decide_eq_false (p := 1 ≤ w) (by have := of_decide_eq_true hw; omega), Bool.and_false, Bool.false_and]
  have hfb : fairB w l = (cntL l).all fun x => decide ((x.2.most : Int) < w) := by
    rw [fairB, hc', decide_eq_true (p := 1 ≤ w) (by have := of_decide_eq_false hw; omega), Bool.and_self, Bool.true_and]
  clear hc hc' hw
  refine rn_ ?_; intros
  refine go_call (by rw [hnt]; rfl) (by rw [hP]; kernel_rfl) rfl (hP ▸ count_ok l _ G0 (Rp.S_mono hle0 h10) hl hr) ?_
  rintro v G1 (hle1 : Le G0 G1) ⟨bm, rfl, hTM⟩
  obtain ⟨gs, hgs, hGm, hat⟩ := hTM.mono (diff_le _ _)
  generalize cntL l = T at *
  refine st_ ?_
  refine rn_ ?_; intros
  refine go_mrange 60 (by rw [hnt]; rfl) (by rw [hty]; rfl) rfl hGm rfl (by omega) ?_
  intro gi
  refine rn_ ?_; intros
  refine go_keep [0, 22] [60] ?_
  refine st_ ?_
  have hborn : ∀ x ∈ esT 0 gs T, x.2.2 < T.length := fun x hx => by
    obtain ⟨j, g, y, h1, h2, rfl⟩ := esT_mem hx
    have := (List.getElem?_eq_some_iff.1 h2).1
    simp only []; omega
  have hbnd : ((esT 0 gs T).map (·.2.2)).Nodup := by rw [esT_born 0 hgs]; exact List.nodup_range'
  refine x_loop rfl (fun q s => ∃ (seen : Array Nat), q = ((esT 0 gs T).filter fun y => !seen.contains y.2.2).length ∧ (∀ (j : Nat) (y : Int × Tal), seen.contains j = true → T[j]? = some y → (y.2.most : Int) < w) ∧
    s = ⟨[(0, .v (.int .i64 w)), (22, .v (.pointer (some ⟨gi, 0, none⟩)))], [(60, gi, .o (.mapIter (some bm) T.length seen T.length))], G1, []⟩) ⟨#[], rfl, fun j y h => by simp at h, rfl⟩ ?_
  rintro q s ⟨seen, hq, hinv, rfl⟩ ih
  refine rn_ ?_; intros
  refine go_mnext 60 (by rw [hnt]; rfl) rfl rfl hGm hborn (fun hall => ?_) (fun x hx hns => ?_)
  · refine rn_ ?_; intros
    refine go_slot 24 (.b false) rfl (by simp [SV.den]) ?_; refine rn_ ?_; intros
    refine x_retc rfl hQ hmb rfl (by rw [hty]; simp only [so, sq, zy, zz, tyE, SO', SQ', opQ, opStore, opAlloc, ev, putS, dOk, cv, SV.cs, SV.one, SV.bool?, eqB, Value.oneCell', ldOwn, binInt, binConst, binBool, binStr, isC, TK.agg, rv, rv1, ldV, resOne, resV, Nat.reduceAdd, Nat.reduceMul, Nat.reduceSub, Nat.reduceLT, Nat.reduceLeDiff, Nat.reduceEqDiff, Nat.reduceBEq, reduceIte, reduceCtorEq, eq_self]; try rfl) rfl ?_; simp only [SV.den, resV, dens]
    rw [hfb]
    symm
    congr 1
    rw [List.all_eq_true]
    intro y hy
    obtain ⟨j, hj, rfl⟩ := List.getElem_of_mem hy
    have hgj := List.getElem?_eq_getElem (l := gs) (i := j) (by omega)
    exact decide_eq_true (hinv j _ (by have := hall _ (esT_get (i := 0) hgj (List.getElem?_eq_getElem hj)); simpa using this) (List.getElem?_eq_getElem hj))
  · refine rn_ ?_; intros
    refine go_slot 24 (.b true) rfl (by simp [SV.den]) ?_; refine rn_ ?_; intros
    refine go_q (by rw [hnt]; rfl) (quiet_mentry 60 rfl rfl hGm hx hbnd) ?_
    obtain ⟨j, g, y, hj1, hj2, rfl⟩ := esT_mem hx
    refine rn_ ?_; intros
    have hat2 : At G1 g 2 [.int .i64 y.2.most] := by simpa [talV] using (hat j g y hj1 hj2).sub 2 1 (by simp [talV])
    refine go_q (by rw [hnt]; rfl) (quiet_load (by rw [hty]; rfl) rfl (by simp [TK.agg]) hat2 rfl) ?_; refine rn_ ?_; intros
    refine x_split rfl rfl rfl (fun hbad => ?_) (fun hbad => ?_) <;> (refine st_ ?_; (refine ru_ ?_; intros))
    · refine rn_ ?_; intros
      refine x_retc rfl hQ hmb rfl (by rw [hty]; simp only [so, sq, zy, zz, tyE, SO', SQ', opQ, opStore, opAlloc, ev, putS, dOk, cv, SV.cs, SV.one, SV.bool?, eqB, Value.oneCell', ldOwn, binInt, binConst, binBool, binStr, isC, TK.agg, rv, rv1, ldV, resOne, resV, Nat.reduceAdd, Nat.reduceMul, Nat.reduceSub, Nat.reduceLT, Nat.reduceLeDiff, Nat.reduceEqDiff, Nat.reduceBEq, reduceIte, reduceCtorEq, eq_self]; try rfl) rfl ?_; simp only [SV.den, resV, dens]
      rw [hfb]
      symm
      congr 1
      rw [List.all_eq_false]
      exact ⟨y, List.mem_of_getElem? hj2, by simpa using of_decide_eq_true hbad⟩
    · refine go_keep [0, 22] [60] ?_
      refine st_ ?_
      exact ih _ _ (by have := filt_lt hx hns; simp only [Nat.zero_add] at this; rw [hq]; exact this) ⟨_, rfl, fun j' y' h' hy' => by
        rw [Array.contains_iff_mem, Array.mem_push] at h'
        rcases h' with h' | h'
        · exact hinv j' y' (Array.contains_iff_mem.2 h') hy'
        · have e : j' = j := by simpa using h'
          subst e
          rw [hj2] at hy'
          cases hy'
          have := of_decide_eq_false hbad
          omega, rfl⟩
end Go.Proofs.Ytcaohcmlicbjhaa
