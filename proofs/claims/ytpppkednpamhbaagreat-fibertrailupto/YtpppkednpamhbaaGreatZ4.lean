/-
  A symbolic walk over the model's code: calls that take things over (what was lent may become part of what no longer changes). Names no program.
-/
import Derived.Test.YtpppkednpamhbaaGreatZ3
import Derived.Scope
set_option linter.unusedSimpArgs false
set_option linter.unusedVariables false
namespace Go.Sx
set_option linter.unusedSimpArgs false
set_option linter.unusedVariables false
open Go.RowKit
def ZRest (w0 : World) : Zn where
  A Z M w := (∀ g, Z g → g < w.heap.size) ∧ (∀ g, M g → Z g) ∧ (∀ g, Z g → w.heap[g]? = w0.heap[g]?) ∧ w0.heap.size ≤ w.heap.size
  lt _ _ _ h := h.1
  sub _ _ _ h := h.2.1
  st Z M w w' h hf hs := ⟨fun g hg => Nat.lt_of_lt_of_le (h.1 g hg) hf.size, h.2.1, fun g hg => (hs g hg).trans (h.2.2.1 g hg), Nat.le_trans h.2.2.2 hf.size⟩
def restB (w : World) (ow : Lds) (G : Hp) : Nat → Prop := fun g => g < w.heap.size ∧ ¬ blkOf ow g ∧ G g = none
def RetT (w : World) (G : Hp) (ow : Lds) (φ : Value → Hp → Lds → Prop) : Ending → World → Prop := fun e w' =>
  ∃ v G' ow', e = .returned v ∧ Go.Sx.Fr w w' ∧ (∀ g, g < w.heap.size → ¬ mutOf ow g → w'.heap[g]? = w.heap[g]?) ∧ Has w' G' ∧ (∀ b, b < w.heap.size → ¬ mutOf ow b → G' b = G b) ∧ Le G G' ∧ Lent ow' G' w' ∧ ow'.length = ow.length ∧
    (∀ g, blkOf ow' g → blkOf ow g ∨ w.heap.size ≤ g) ∧ (∀ g, mutOf ow' g → mutOf ow g ∨ w.heap.size ≤ g) ∧ φ v G' ow'
def PureT (P : Program) (f : FuncId) (args : List Value) (G : Hp) (ow : Lds) (φ : Value → Hp → Lds → Prop) : Prop :=
  ∀ w, Has w G → Lent ow G w → Calls P f args.toArray w (RetT w G ow φ)
theorem enterT {P : Program} {f : FuncId} {fn : Func} {G : Hp} {ow : Lds} {φ : Value → Hp → Lds → Prop} (ty : TypeId → Option TI) (tyok : ∀ T i, ty T = some i → i.ok P T) {nt : Nat}
    (hf : P.funcs[f]? = some fn) (hb : fn.body.isSome = true) (hn : fn.ntmps = nt) (svs : List SV) (hargs : svs.length ≤ nt) (hlen : ow.length ≤ 900) (hpl : ∀ g, blkOf ow g → mutOf ow g)
    (h : ∀ (C : Ctx) (w : World), C.P = P → C.Q = bodyPost C.P fn (RetT w G ow φ) → C.nt = nt → C.ty = ty → C.mb = [] → C.mh = 0 → C.ro = none → C.G0 = G → (∀ g, blkOf ow g ↔ mutOf ow g) ∧ Has w G ∧ C.w0.os = w.os ∧ C.w0.tape = w.tape ∧ C.w0.output = w.output →
      SGo C [.code (fn.body.getD .skip)] ⟨enumS 0 svs, enumO 0 ow ++ [(999, 0, .z (ZRest w) (restB w ow G) (restB w ow G))], G, []⟩) : PureT P f (dens svs) G ow φ := by
  intro w hw hL
  classical
  refine calls_of_wp hf (body_eq hb) ((wpIn_wide (n := 0)).1 ?_)
  have hlt : ∀ g, blkOf ow g → g < w.heap.size := fun g ⟨i, b, o, e, hg⟩ => OO.holds_lt (hL.own i b o e).1 hg
  have hlk0 : ∀ k b o, lk k (enumO 0 ow) = some (b, o) → ow[k]? = some (b, o) := fun k b o e => by
    rw [lk_enumO] at e; simpa using e
  have hlk : ∀ k b o, lk k (enumO 0 ow ++ [(999, 0, .z (ZRest w) (restB w ow G) (restB w ow G))]) = some (b, o) → ow[k]? = some (b, o) ∨ (k = 999 ∧ b = 0 ∧ o = .z (ZRest w) (restB w ow G) (restB w ow G)) := by
    intro k b o e
    have aux : ∀ l : Owns, lk k (l ++ [(999, 0, .z (ZRest w) (restB w ow G) (restB w ow G))]) = some (b, o) → lk k l = some (b, o) ∨ (k = 999 ∧ b = 0 ∧ o = .z (ZRest w) (restB w ow G) (restB w ow G)) := by
      intro l
      induction l with
      | nil =>
        intro e
        simp only [List.nil_append, lk] at e
        split at e
        · simp only [Option.some.injEq, Prod.mk.injEq] at e
          exact .inr ⟨by assumption, e.1.symm, e.2.symm⟩
        · cases e
      | cons x l ih =>
        intro e
        simp only [List.cons_append, lk] at e ⊢
        split
        · rename_i q; rw [if_pos q] at e; exact .inl e
        · rename_i q; rw [if_neg q] at e; exact ih e
    exact (aux _ e).imp (hlk0 k b o) id
  have hn9 : ∀ {b o}, ow[999]? = some (b, o) → False := fun {b o} e => by rw [List.getElem?_eq_none (by omega)] at e; cases e
  have := h ⟨P, bodyPost P fn (RetT w G ow φ), nt, ty, tyok, { w with heap := #[] }, G, [], 0, none⟩ w rfl rfl rfl rfl rfl rfl rfl rfl ⟨fun g => ⟨hpl g, fun ⟨i, b, o, e, hg⟩ => ⟨i, b, o, e, OO.mut_blks (hL.own i b o e).1 hg⟩⟩, hw, rfl, rfl, rfl⟩ { tmps := (dens svs).toArray ++ Array.replicate (fn.ntmps - (dens svs).toArray.size) undef, defers := [] } w
    ⟨slots_args _ _ _ (fun i x e => by have := (lk_enumS svs 0 i x e).2; simpa using this), by simp [hn, dens_eq]; omega, rfl, ⟨fun k b o e => ?_, fun k k' b b' o o' g e e' f f' => ?_, ⟨rfl, rfl, rfl, Nat.zero_le _, fun k hk => absurd hk (Nat.not_lt_zero _), hw, fun b hb => absurd hb (Nat.not_lt_zero _)⟩⟩⟩
  · simp only [wpK] at this
    exact this
  · rcases hlk _ _ _ e with e' | ⟨rfl, rfl, rfl⟩
    · obtain ⟨h1, h2⟩ := hL.own _ _ _ e'
      exact ⟨h1, fun g hg => ⟨h2 g hg, fun _ => Nat.zero_le _, fun q => absurd q (Nat.not_lt_zero _)⟩⟩
    · exact ⟨⟨fun g hg => hg.1, fun g hg => hg, fun g _ => rfl, Nat.le_refl _⟩, fun g hg => ⟨hg.2.2, fun _ => Nat.zero_le _, fun q => absurd q (Nat.not_lt_zero _)⟩⟩
  · rcases hlk _ _ _ e with e1 | ⟨rfl, rfl, rfl⟩ <;> rcases hlk _ _ _ e' with e2 | ⟨rfl, rfl, rfl⟩
    · exact hL.inj _ _ _ _ _ _ g e1 e2 f f'
    · exact (f'.2.1 ⟨_, _, _, e1, f⟩).elim
    · exact (f.2.1 ⟨_, _, _, e2, f'⟩).elim
    · rfl
section
variable {C : Ctx} {K : List KI} {s : St} {R : Array Oper} {l : List Oper} {d : Option Tmp} {t : TypeId} {pos : String} {aft : Array Edge} {w0 : World}
theorem rett {G : Hp} {ow : Lds} {φ : Value → Hp → Lds → Prop} (hmh : C.mh = 0) (hb : (∀ g, blkOf ow g ↔ mutOf ow g) ∧ Has w0 G ∧ C.w0.os = w0.os ∧ C.w0.tape = w0.tape ∧ C.w0.output = w0.output) {n : Nat} (hml : ow.length = n) (hn : n ≤ 900)
    (hz : lk 999 s.own = some (0, .z (ZRest w0) (restB w0 ow G) (restB w0 ow G))) (hle : Le G s.G) {ow' : Lds} (hp : pickO s.own 0 n = some ow') (hpl : Plain (enumO 0 ow')) {v : Value} (h : φ v s.G ow') {a : Act} {w : World} (hS : Sat C s a w) : RetT w0 G ow φ (.returned v) w := by
  have hg := hS.mem.grow
  obtain ⟨hb1, hw, o1, o2, o3⟩ := hb
  obtain ⟨p1, p2⟩ := pickO_get hp
  have p3 : ∀ {i b o}, ow'[i]? = some (b, o) → lk i s.own = some (b, o) := fun {i b o} e => by simpa using p2 i _ e
  have p4 : ∀ {i b o}, ow'[i]? = some (b, o) → i < n := fun {i b o} e => by
    rcases Nat.lt_or_ge i ow'.length with q | q
    · omega
    · rw [List.getElem?_eq_none q] at e; cases e
  obtain ⟨⟨z1, z2, z3, z4⟩, zm⟩ := hS.mem.own _ _ _ hz
  have hG : ∀ g, g < w0.heap.size → ¬ mutOf ow g → (G g = none → restB w0 ow G g) := fun g hg1 hg2 hg3 => ⟨hg1, fun q => hg2 ((hb1 g).1 q), hg3⟩
  have p5 : ∀ g, blkOf ow' g → mutOf ow' g := fun g ⟨i, b, o, e, hb⟩ => ⟨i, b, o, e, hpl i b o (by rw [lk_enumO]; simpa using e) g hb⟩
  have p6 : ∀ g, blkOf ow' g → blkOf ow g ∨ w0.heap.size ≤ g := fun g ⟨i, b, o, e, hbg⟩ => by
    rcases Nat.lt_or_ge g w0.heap.size with q | q
    · refine .inl (Classical.byContradiction fun q2 => ?_)
      have hmu : s.G g = none := ((hS.mem.own _ _ _ (p3 e)).2 g (hpl i b o (by rw [lk_enumO]; simpa using e) g hbg)).1
      have hGn : G g = none := by
        cases hc : G g with
        | none => rfl
        | some x => rw [hle _ _ hc] at hmu; cases hmu
      have := hS.mem.inj _ _ _ _ _ _ g (p3 e) hz hbg ⟨q, q2, hGn⟩
      have := p4 e
      omega
    · exact .inr q
  refine ⟨_, _, ow', rfl, ⟨hg.os.trans o1, hg.tape.trans o2, hg.output.trans o3, z4⟩, fun g hg1 hg2 => ?_, hg.has, fun g hg1 hg2 => ?_, hle, ⟨fun i b o e => ?_, fun i j b b' o o' g e e' f f' => ?_⟩, by omega, p6, fun g q => ?_, h⟩
  · cases hc : G g with
    | none => exact z3 g (hG g hg1 hg2 hc)
    | some x => rw [hg.has _ _ (hle _ _ hc), hw _ _ hc]
  · cases hc : G g with
    | none => exact (zm g (hG g hg1 hg2 hc)).1
    | some x => exact hle _ _ hc
  · obtain ⟨q1, q2⟩ := hS.mem.own _ _ _ (p3 e)
    exact ⟨q1, fun g q => (q2 g q).1⟩
  · exact hS.mem.inj _ _ _ _ _ _ g (p3 e) (p3 e') f f'
  · obtain ⟨i, b, o, e, hm⟩ := q
    exact (p6 g ⟨i, b, o, e, OO.mut_blks (hS.mem.own _ _ _ (p3 e)).1 hm⟩).imp (hb1 g).1 id
theorem x_retT {k : Code} (ht : tag k = 7) {fn : Func} {G : Hp} {ow : Lds} {φ : Value → Hp → Lds → Prop} (hQ : C.Q = bodyPost C.P fn (RetT w0 G ow φ)) (hmh : C.mh = 0) (hb : (∀ g, blkOf ow g ↔ mutOf ow g) ∧ Has w0 G ∧ C.w0.os = w0.os ∧ C.w0.tape = w0.tape ∧ C.w0.output = w0.output) {n : Nat} (hml : ow.length = n) (hn : n ≤ 900)
    {r : ResultVar} {rs : List ResultVar} (hrs : fn.results.toList = r :: rs) {xs : List SV} (hr : resAll s.sl C.ty s.own (r :: rs) = some xs) (hdf : s.df = []) (hz : lk 999 s.own = some (0, .z (ZRest w0) (restB w0 ow G) (restB w0 ow G))) (hle : Le G s.G) {ow' : Lds} (hp : pickO s.own 0 n = some ow')
    (hpl : Plain (enumO 0 ow')) (h : φ (resV xs).den s.G ow') (hnb : noBr K = true := by rfl) : SGo C (.code k :: K) s := by
  intro a w hS
  cases k <;> simp [tag] at ht
  · rename_i a b c; cases c <;> simp at ht
  refine wpIn_ret ?_
  rw [wpK_ret _ _ _ hnb, hQ]
  exact ⟨by rw [hS.df, hdf], _, results_ok hS (by rw [hrs]; exact hr), rett hmh hb hml hn hz hle hp hpl h hS⟩
theorem rett0 {fn : Func} (hrs : fn.results.toList = []) (a : Act) (w : World) : (results fn a.tmps).run C.P w = .ok (.tuple #[]) w := by
  have : fn.results = #[] := by simpa using hrs
  simp [results, this]
theorem x_ret0T {kc : Code} (ht : tag kc = 7) {fn : Func} {G : Hp} {ow : Lds} {φ : Value → Hp → Lds → Prop} (hQ : C.Q = bodyPost C.P fn (RetT w0 G ow φ)) (hmh : C.mh = 0) (hb : (∀ g, blkOf ow g ↔ mutOf ow g) ∧ Has w0 G ∧ C.w0.os = w0.os ∧ C.w0.tape = w0.tape ∧ C.w0.output = w0.output) {n : Nat} (hml : ow.length = n) (hn : n ≤ 900)
    (hrs : fn.results.toList = []) (hdf : s.df = []) (hz : lk 999 s.own = some (0, .z (ZRest w0) (restB w0 ow G) (restB w0 ow G))) (hle : Le G s.G) {ow' : Lds} (hp : pickO s.own 0 n = some ow') (hpl : Plain (enumO 0 ow')) (h : ∀ v, φ v s.G ow') (hnb : noBr K = true := by rfl) : SGo C (.code kc :: K) s := by
  intro a w hS
  cases kc <;> simp [tag] at ht
  · rename_i a b c; cases c <;> simp at ht
  refine wpIn_ret ?_
  rw [wpK_ret _ _ _ hnb, hQ]
  exact ⟨by rw [hS.df, hdf], _, rett0 hrs a w, rett hmh hb hml hn hz hle hp hpl (h _) hS⟩
theorem x_endT {fn : Func} {G : Hp} {ow : Lds} {φ : Value → Hp → Lds → Prop} (hQ : C.Q = bodyPost C.P fn (RetT w0 G ow φ)) (hmh : C.mh = 0) (hb : (∀ g, blkOf ow g ↔ mutOf ow g) ∧ Has w0 G ∧ C.w0.os = w0.os ∧ C.w0.tape = w0.tape ∧ C.w0.output = w0.output) {n : Nat} (hml : ow.length = n) (hn : n ≤ 900)
    (hrs : fn.results.toList = []) (hdf : s.df = []) (hz : lk 999 s.own = some (0, .z (ZRest w0) (restB w0 ow G) (restB w0 ow G))) (hle : Le G s.G) {ow' : Lds} (hp : pickO s.own 0 n = some ow') (hpl : Plain (enumO 0 ow')) (h : ∀ v, φ v s.G ow') : SGo C [] s := by
  intro a w hS
  show C.Q .normal a w
  rw [hQ]
  exact ⟨by rw [hS.df, hdf], _, rett0 hrs a w, rett hmh hb hml hn hz hle hp hpl (h _) hS⟩
theorem Mem.lentT {own : Owns} {G G' : Hp} {w w' : World} (h : Mem C own G w) {ks : List Nat} {ow ow' : Lds} (hk : lkAll own ks = some ow) (hn : noDup ks = true) (hks : ∀ k ∈ ks, C.mh ≤ k)
    (hf : Go.Sx.Fr w w') (hs : ∀ g, g < w.heap.size → ¬ mutOf ow g → w'.heap[g]? = w.heap[g]?) (hG : Has w' G') (hold : ∀ b, b < w.heap.size → ¬ mutOf ow b → G' b = G b) (hL : Lent ow' G' w') (hlen : ow'.length = ow.length)
    (hb : ∀ g, blkOf ow' g → blkOf ow g ∨ w.heap.size ≤ g) (hm : ∀ g, mutOf ow' g → mutOf ow g ∨ w.heap.size ≤ g) : Mem C (setO ks ow' own) G' w' := by
  obtain ⟨k1, k2⟩ := lkAll_get hk
  have hidx : ∀ {i : Nat} {x : Nat × OO}, ow[i]? = some x → ∃ k, ks[i]? = some k ∧ lk k own = some x := fun {i x} e => by
    have hi : i < ks.length := by
      rcases Nat.lt_or_ge i ow.length with q | q
      · omega
      · rw [List.getElem?_eq_none q] at e; cases e
    obtain ⟨x', e1, e2⟩ := k2 i ks[i] (by rw [List.getElem?_eq_getElem hi])
    rw [e] at e1; cases e1
    exact ⟨ks[i], by rw [List.getElem?_eq_getElem hi], e2⟩
  have hout : ∀ {k b : Nat} {o : OO} {g : Nat}, k ∉ ks → lk k own = some (b, o) → o.blks b g → ¬ blkOf ow g := fun {k b o g} hk' e hg ⟨i, b', o', e', hg'⟩ => by
    obtain ⟨k', e1, e2⟩ := hidx e'
    have := h.inj _ _ _ _ _ _ g e e2 hg hg'
    subst this
    exact hk' (List.mem_of_getElem? e1)
  have hmutb : ∀ g, mutOf ow g → blkOf ow g := fun g ⟨i, b, o, e, hg⟩ => by
    obtain ⟨k', _, e2⟩ := hidx e
    exact ⟨i, b, o, e, OO.mut_blks (h.own _ _ _ e2).1 hg⟩
  have hbase : ∀ g, mutOf ow g → C.w0.heap.size ≤ g := fun g ⟨i, b, o, e, hg⟩ => by
    obtain ⟨k', e1, e2⟩ := hidx e
    exact ((h.own _ _ _ e2).2 g hg).2.1 (hks _ (List.mem_of_getElem? e1))
  have hlt' : ow'.length = ks.length := by omega
  refine ⟨fun k b o e => ?_, fun k k' b b' o o' g e e' f f' => ?_, ?_⟩
  · rcases lk_setO (own := own) (k := k) hn hlt' with ⟨i, x, h1, h2, h3⟩ | ⟨h1, h2⟩
    · rw [e] at h3; cases h3
      obtain ⟨q1, q2⟩ := hL.own i b o h2
      have hbg : ∀ g, o.mut b g → C.w0.heap.size ≤ g := fun g hg => by
        rcases hm g ⟨i, b, o, h2, hg⟩ with q | q
        · exact hbase g q
        · have := h.grow.size; omega
      exact ⟨q1, fun g hg => ⟨q2 g hg, fun _ => hbg g hg, fun _ => .inr (hbg g hg)⟩⟩
    · rw [h2] at e
      obtain ⟨q1, q2⟩ := h.own _ _ _ e
      refine ⟨OO.holds_same q1 hf fun g hg => hs g (h.lt e hg) fun q => hout h1 e hg (hmutb g q), fun g hg => ?_⟩
      obtain ⟨q3, q4, q5⟩ := q2 g hg
      exact ⟨by rw [hold g (h.ltm e hg) fun q => hout h1 e (OO.mut_blks q1 hg) (hmutb g q)]; exact q3, q4, q5⟩
  · rcases lk_setO (own := own) (k := k) hn hlt' with ⟨i, x, h1, h2, h3⟩ | ⟨h1, h2⟩
    · rw [e] at h3; cases h3
      rcases lk_setO (own := own) (k := k') hn hlt' with ⟨i', x', h1', h2', h3'⟩ | ⟨h1', h2'⟩
      · rw [e'] at h3'; cases h3'
        have := hL.inj _ _ _ _ _ _ g h2 h2' f f'
        subst this
        rw [h1] at h1'; cases h1'; rfl
      · rw [h2'] at e'
        exfalso
        rcases hb g ⟨_, _, _, h2, f⟩ with q | q
        · exact hout h1' e' f' q
        · have := h.lt e' f'; omega
    · rw [h2] at e
      rcases lk_setO (own := own) (k := k') hn hlt' with ⟨i', x', h1', h2', h3'⟩ | ⟨h1', h2'⟩
      · rw [e'] at h3'; cases h3'
        exfalso
        rcases hb g ⟨_, _, _, h2', f'⟩ with q | q
        · exact hout h1 e f q
        · have := h.lt e f; omega
      · rw [h2'] at e'
        exact h.inj _ _ _ _ _ _ g e e' f f'
  · have hg := h.grow
    refine ⟨hf.os.trans hg.os, hf.tape.trans hg.tape, hf.output.trans hg.output, Nat.le_trans hg.size hf.size, fun j hj hm' => ?_, hG, fun b hb' => ?_⟩
    · rw [hs j (by have := hg.size; omega) fun q => by have := hbase j q; omega]
      exact hg.blk j hj hm'
    · rw [hold b (by have := hg.size; omega) fun q => by have := hbase b q; omega]; exact hg.old b hb'
theorem go_callT (ks : List Nat) {f : FuncId} {args : Array Operand} {tys : Array TypeId} {vs : List SV} {ow : Lds} {φ : Value → Hp → Lds → Prop} (hd : dOk C.nt d = true) (hf : canCall C.P f = true) (ha : evs s.sl args.toList = some vs)
    (hk : lkAll s.own ks = some ow) (hn : noDup ks = true) (hks : ∀ k ∈ ks, C.mh ≤ k) (hc : PureT C.P f (dens vs) s.G ow φ)
    (h : ∀ v G' ow', Le s.G G' → φ v G' ow' → SGo C (.ops R l :: K) ⟨putS d (rv v) s.sl, setO ks ow' s.own, G', s.df⟩) : SGo C (.ops R (⟨d, .call ⟨.value (.func f), args, tys⟩, t, pos, aft, none⟩ :: l) :: K) s := by
  intro a w hS
  have hargs : args.map a.eval = (dens vs).toArray := by apply Array.ext'; rw [Array.toList_map]; exact evs_ok hS.sl ha
  have hrun : (execOp a.eval ⟨d, .call ⟨.value (.func f), args, tys⟩, t, pos, aft, none⟩).run C.P w = .ok (.enter f (dens vs).toArray) w := by
    simp only [execOp, resolve, hargs, Act.eval, Deferred.ofValue, Sem.run_bind, Sem.run_pure, Result.andThen_ok, invoke]
    simp [callFunc_ok hf]
  refine K_enter rfl hrun ((hc w hS.mem.has (Lent.of hS.mem hk hn)).mono ?_)
  rintro e w' ⟨v, G', ow', rfl, q1, q2, q3, q4, qle, q5, q6, q7, q8, hφ⟩
  have hm := hS.mem.lentT hk hn hks q1 q2 q3 q4 q5 q6 q7 q8
  refine ⟨v, rfl, ?_⟩
  have := hS.put hd (rv v) hm
  rw [rv_den] at this
  exact h v G' ow' qle hφ _ _ this
end
end Go.Sx
namespace Go.Sx
set_option linter.unusedSimpArgs false
set_option linter.unusedVariables false
section
variable {C : Ctx} {K : List KI} {s : St} {R : Array Oper} {l : List Oper} {d : Option Tmp} {t : TypeId} {pos : String} {aft : Array Edge}
theorem equalIn_p0 {P : Program} {T e : TypeId} (hT : P.underlying T = some (.pointer e)) (d : Nat) (w : World) : (Op.equalIn (d + 1) T (.pointer none) (.pointer none)).run P w = .ok true w := by
  simp only [Op.equalIn, Sem.run_bind, run_und w hT, Result.andThen_ok, Sem.run_pure]; rfl
theorem equalIn_p1 {P : Program} {T e : TypeId} (hT : P.underlying T = some (.pointer e)) (d : Nat) (a : Addr) (w : World) : (Op.equalIn (d + 1) T (.pointer (some a)) (.pointer none)).run P w = .ok false w := by
  simp only [Op.equalIn, Sem.run_bind, run_und w hT, Result.andThen_ok, Sem.run_pure]
theorem equal_p {P : Program} {T e : TypeId} (hT : P.underlying T = some (.pointer e)) (ad : Option Addr) (w : World) : (Op.equal T (.pointer ad) (.pointer none)).run P w = .ok ad.isNone w := by
  cases ad with
  | none => exact equalIn_p0 hT 9999 w
  | some a => exact equalIn_p1 hT 9999 a w
theorem quiet_pnil {sl : List (Nat × SV)} {own : Owns} {G : Hp} {T e T' : TypeId} {x : Operand} {ad : Option Addr} {vx : SV} {sz by' : Nat} {ze : List Value} {fl : List (Nat × Nat × Bool)} (hT : C.ty T = some ⟨.ptr e, sz, by', ze, fl⟩) (hx : ev sl x = some vx) (hv : vx.den = .pointer ad) : Quiet C sl own G (.binOp .eql T x (.const (.pointer none)) T') (.bool ad.isNone) := by
  intro a w d t pos aft g hs hh
  have hxv := ev_ok hs hx
  rw [hv] at hxv
  have hu := (C.tyok _ _ hT).k
  simp only [TK.fits] at hu
  have hc : a.eval (.const (.pointer none)) = .pointer none := rfl
  simp only [execOp, hxv, hc]
  have h1 : (eqGuard .eql T x (.const (.pointer none)) (.pointer ad) (.pointer none)).run C.P w = .ok () w := by simp [eqGuard]
  have h2 : (binOp .eql T (.pointer ad) (.pointer none)).run C.P w = .ok (.bool ad.isNone) w := by
    simp [binOp, equal_p hu]
  rw [Sem.run_bind]
  simp [h1, h2, Sem.run_bind]
end
end Go.Sx
namespace Go.Proofs.YtpppkednpamhbaaGreat
set_option linter.unusedSimpArgs false
set_option linter.unusedVariables false
open Go.Sx
set_option maxHeartbeats 8000000
set_option maxRecDepth 20000
theorem encF_take (x : Fw) (r : List Fw) : ((encF (x :: r)).drop (r.length * 4)) = cellsF x := by
  simp only [encF]
  rw [← encF_len r, List.drop_left]
theorem encF_ld {x : Fw} {r : List Fw} {j off : Nat} {u : Value} (ho : off = r.length * 4 + j) (hu : (cellsF x)[j]? = some u) : ldV false (((encF (x :: r)).drop off).take 1) = u := by
  subst ho
  rw [← List.drop_drop, encF_take]
  match j, hu with
  | 0, hu => simpa [cellsF, ldV] using hu
  | 1, hu => simpa [cellsF, ldV] using hu
  | 2, hu => simpa [cellsF, ldV] using hu
  | 3, hu => simpa [cellsF, ldV] using hu
  | n + 4, hu => simp [cellsF] at hu
theorem nd_at {G : Hp} {p : Pr} {ps : Value} {f n : Int} {nd : Nd} (hp : rF.S G p ps) (h : ndAt p f n = some nd) : ∃ bF oF cF m bN oN cN k sl, ps = .slice (some ⟨bF, oF, none⟩) m cF ∧ 0 ≤ f ∧ f < m ∧
    (∃ pa, At G bF (oF + f.toNat * 2) [.int .i64 pa, .slice (some ⟨bN, oN, none⟩) k cN]) ∧ 0 ≤ n ∧ n < (k : Int) ∧ At G bN (oN + n.toNat * 3) [.int .i64 nd.op, .int .i64 nd.n, sl] ∧ isI64 nd.op ∧ isI64 nd.n ∧ rI.S G nd.l sl := by
  simp only [ndAt] at h
  split at h
  · rename_i h0
    cases hg : p[f.toNat]? with
    | none => rw [hg] at h; simp at h
    | some u =>
      rw [hg] at h
      simp only [Option.bind_some] at h
      obtain ⟨hi, hu⟩ := List.getElem?_eq_some_iff.1 hg
      obtain ⟨hj, hv⟩ := List.getElem?_eq_some_iff.1 h
      obtain ⟨bF, oF, cF, c, h1, h2, ns, rfl, h4, h5⟩ := Rp.S_get hp hi
      rw [hu] at h4 h5 h2
      obtain ⟨bN, oN, cN, c', h6, h7, sl, rfl, h8, h9, h10⟩ := Rp.S_get h5 hj
      rw [hv] at h7 h8 h9 h10
      refine ⟨bF, oF, cF, p.length, bN, oN, cN, u.nodes.length, sl, h1, h0.1, by omega, ⟨u.params, ?_⟩, h0.2, by omega, by simpa [rN] using h7, h8, h9, h10⟩
      rw [h6] at h2
      simpa [rF] using h2
  · cases h
theorem miss_ok (b cb : Nat) (st k n : Int) (vl fs : Value) (G : Hp) :
    PureW Tryz.prog 50 [.pointer (some ⟨b, 0, none⟩)] G [fhO b cb st k n vl fs] (fun v _ ow => v = .bool false ∧ ow = [fhO b cb st k n vl fs]) := by
  refine enterW ty tyok Tryz.func50 rfl Tryz.ntmps50 [.p 0 b 0] (by simp) (mh := 1) rfl ?_
  intro C hP hQ hnt hty hmb hmh hro hG0 hmub; have hQp := qp_body hQ; refine st_ ?_
  simp only [enumO, fhO]
  refine rn_ ?_; intros
  refine go_q (v := .bool false) (by rw [hnt]; rfl) ((quiet_pnil (by rw [hty]; rfl) rfl rfl).cast (by rfl)) ?_
  refine rn_ ?_; intros
  refine go_slot 5 (.b false) rfl rfl ?_
  refine rn_ ?_; intros
  refine go_q (v := .bool false) (by rw [hnt]; rfl) ((quiet_pnil (by rw [hty]; rfl) rfl rfl).cast (by rfl)) ?_
  refine rn_ ?_; intros
  refine x_retW rfl hQ hmb hmh hG0 hmub rfl rfl (by rw [hty]; simp only [so, sq, zy, zz, tyE, SO', SQ', opQ, opStore, opAlloc, ev, putS, dOk, cv, SV.cs, SV.one, SV.bool?, eqB, Value.oneCell', ldOwn, binInt, binConst, binBool, binStr, isC, TK.agg, rv, rv1, ldV, resOne, resV, Nat.reduceAdd, Nat.reduceMul, Nat.reduceSub, Nat.reduceLT, Nat.reduceLeDiff, Nat.reduceEqDiff, Nat.reduceBEq, reduceIte, reduceCtorEq, eq_self]; try rfl) rfl rfl (by simp only [enumO]; exact (by repeat (first | exact plain_nil | refine plain_cons (fun _ h => h) ?_))) ?_; simp only [SV.den, resV, dens]
  exact ⟨by trivial, rfl⟩
theorem fail_ok (b cb : Nat) (st k n : Int) (vl fs : Value) (G : Hp) :
    PureW Tryz.prog 56 [.pointer (some ⟨b, 0, none⟩)] G [fhO b cb st k n vl fs] (fun _ _ ow => ow = [fhO b cb 4 k n vl (.slice none 0 0)]) := by
  refine enterW ty tyok Tryz.func56 rfl Tryz.ntmps56 [.p 0 b 0] (by simp) (mh := 1) rfl ?_
  intro C hP hQ hnt hty hmb hmh hro hG0 hmub; have hQp := qp_body hQ; refine st_ ?_
  simp only [enumO, fhO]
  refine rn_ ?_; intros
  refine x_endW hQ hmb hmh hG0 hmub rfl rfl rfl rfl (by simp only [enumO]; exact (by repeat (first | exact plain_nil | refine plain_cons (fun _ h => h) ?_))) ?_
  intro _
  rfl
theorem last_ok (b cb b1 : Nat) (st k n : Int) (vl fs ps : Value) (p : Pr) (m : Fm) (l : List Fm) (rs : List Fw) (nd : Nd) (G : Hp) (hc : At G cb 0 [ps]) (hp : rF.S G p ps) (hfs : fsOk G (m :: l) rs) (hnd : ndAt p m.fn m.nd = some nd) (hlm : l.length ≤ 300) :
    PureW Tryz.prog 51 [.pointer (some ⟨b, 0, none⟩)] G [fhO b cb st k n vl fs, frO b1 fs rs] (fun v _ ow => ow = [fhO b cb st k n vl fs, frO b1 fs rs] ∧
      ∃ g cap sl, fs = .slice (some ⟨g, 0, none⟩) rs.length cap ∧ v = .tuple #[.pointer (some ⟨g, l.length * 4, none⟩), .agg #[.int .i64 nd.op, .int .i64 nd.n, sl]] ∧ rI.S G nd.l sl) := by
  refine enterW ty tyok Tryz.func51 rfl Tryz.ntmps51 [.p 0 b 0] (by simp) (mh := 2) rfl ?_
  intro C hP hQ hnt hty hmb hmh hro hG0 hmub; have hQp := qp_body hQ; refine st_ ?_
  obtain ⟨x, r, rfl, hx, hr⟩ := hfs
  have hrl := hr.len
  have hl := encF_len (x :: r)
  simp only [List.length_cons] at hl
  obtain ⟨bF, oF, cF, mF, bN, oN, cN, kN, sl, rfl, hf0, hf1, ⟨pa, hat⟩, hn0, hn1, han, i1, i2, hrI⟩ := nd_at hp hnd
  obtain ⟨ads, cs', rfl⟩ : ∃ ad c, sl = .slice ad nd.l.length c := Rp.S_slice hrI
  simp only [enumO, fhO, frO]
  refine go_rowcases 1 rfl (fun _ h _ => by simp at h) ?_
  rintro g cap rfl hcap hlen
  have e1 := hx.fn
  have e2 := hx.nd
  refine rn_ ?_; intros
  rename_i b3
  have ew : IntKind.i64.wrap (((r.length + 1 : Nat) : Int) - 1) = (r.length : Int) := by rw [wr (by omega) (by omega)]; omega
  refine x_draw rfl (by rw [hP]; kernel_rfl) rfl (by kernel_rfl) ?_
  refine runq 400 hty hnt ?_; refine st_ ?_
  simp only [ew]
  refine q_q (v := .pointer (some ⟨g, r.length * 4, none⟩)) (by rw [hnt]; rfl) ((quiet_index (by rw [hty]; rfl) (by rw [hty]; rfl) rfl rfl rfl (by omega) (by omega)).cast (by simp)) ?_
  refine runq 400 hty hnt ?_; refine st_ ?_
  refine q_end ?_; refine rn_ ?_; intros
  have hat1 : At G bF (oF + m.fn.toNat * 2 + 1) [.slice (some ⟨bN, oN, none⟩) kN cN] := by simpa using hat.sub 1 1 (by simp)
  have hpk := hx.vars
  refine x_heldP [(0, b, .c 93 [.v (.pointer (some ⟨cb, 0, none⟩)), .v (.int .i64 st), .v (.int .i64 k), .v (.int .i64 n), .v vl, .v (.slice (some ⟨g, 0, none⟩) (r.length + 1) cap)]), (1, b1, .row (.slice (some ⟨g, 0, none⟩) (r.length + 1) cap) 90 4 (r.length + 1) (encF (x :: r)))] 23 rfl (by rw [hP]; kernel_rfl) rfl rfl rfl ?_; refine st_ ?_
  refine hu_take0 0 rfl (by kernel_rfl) (by kernel_rfl) (by kernel_rfl) (by decide) (fun c a w v => hQp c a w _ v) (by rw [hnt]; rfl) (allIn (by repeat (first | exact trivial | refine ⟨rfl, ?_⟩))) (by first | exact Le.refl _ | assumption) (quiet_op (by rw [hty]; first | rfl | (refine st_ ?_; rfl))) ?_; refine st_ ?_
  refine hu_take0 1 rfl (by kernel_rfl) (by kernel_rfl) (by kernel_rfl) (by decide) (fun c a w v => hQp c a w _ v) (by rw [hnt]; rfl) (allIn (by repeat (first | exact trivial | refine ⟨rfl, ?_⟩))) (by first | exact Le.refl _ | assumption) (quiet_op (by rw [hty]; first | rfl | (refine st_ ?_; rfl))) ?_; refine st_ ?_
  refine hu_take0 2 rfl (by kernel_rfl) (by kernel_rfl) (by kernel_rfl) (by decide) (fun c a w v => hQp c a w _ v) (by rw [hnt]; rfl) (allIn (by repeat (first | exact trivial | refine ⟨rfl, ?_⟩))) (by first | exact Le.refl _ | assumption) (quiet_op (by rw [hty]; first | rfl | (refine st_ ?_; rfl))) ?_; refine st_ ?_
  refine hu_take0 3 rfl (by kernel_rfl) (by kernel_rfl) (by kernel_rfl) (by decide) (fun c a w v => hQp c a w _ v) (by rw [hnt]; rfl) (allIn (by repeat (first | exact trivial | refine ⟨rfl, ?_⟩))) (by first | exact Le.refl _ | assumption) (quiet_op (by rw [hty]; first | rfl | (refine st_ ?_; rfl))) ?_; refine st_ ?_
  refine hu_takeB 4 [4, 23] rfl (by kernel_rfl) (by kernel_rfl) (by kernel_rfl) (by kernel_rfl) (fun c a w v => hQp c a w _ v) (by rw [hnt]; rfl) (allIn (by repeat (first | exact trivial | refine ⟨rfl, ?_⟩))) (by first | exact Le.refl _ | assumption) (quiet_op (by rw [hty]; first | rfl | (refine st_ ?_; rfl))) ?_; refine st_ ?_
  refine hu_take0 5 rfl (by kernel_rfl) (by kernel_rfl) (by kernel_rfl) (by decide) (fun c a w v => hQp c a w _ v) (by rw [hnt]; rfl) (allIn (by repeat (first | exact trivial | refine ⟨rfl, ?_⟩))) (by first | exact Le.refl _ | assumption) (quiet_op (by rw [hty]; first | rfl | (refine st_ ?_; rfl))) ?_; refine st_ ?_
  refine hu_take0 6 rfl (by kernel_rfl) (by kernel_rfl) (by kernel_rfl) (by decide) (fun c a w v => hQp c a w _ v) (by rw [hnt]; rfl) (allIn (by repeat (first | exact trivial | refine ⟨rfl, ?_⟩))) (by first | exact Le.refl _ | assumption) (quiet_op (by rw [hty]; first | rfl | (refine st_ ?_; rfl))) ?_; refine st_ ?_
  refine hu_take0 7 rfl (by kernel_rfl) (by kernel_rfl) (by kernel_rfl) (by decide) (fun c a w v => hQp c a w _ v) (by rw [hnt]; rfl) (allIn (by repeat (first | exact trivial | refine ⟨rfl, ?_⟩))) (by first | exact Le.refl _ | assumption) (quiet_op (by rw [hty]; first | rfl | (refine st_ ?_; rfl))) ?_; refine st_ ?_
  refine hu_takeB 8 [8, 23] rfl (by kernel_rfl) (by kernel_rfl) (by kernel_rfl) (by kernel_rfl) (fun c a w v => hQp c a w _ v) (by rw [hnt]; rfl) (allIn (by repeat (first | exact trivial | refine ⟨rfl, ?_⟩))) (by first | exact Le.refl _ | assumption) (x := .v (.slice (some ⟨bF, oF, none⟩) mF cF)) ((quiet_load (by rw [hty]; rfl) rfl (by simp [TK.agg]) hc rfl).cast (by rfl)) ?_
  refine st_ ?_
  refine hu_take0 9 rfl (by kernel_rfl) (by kernel_rfl) (by kernel_rfl) (by decide) (fun c a w v => hQp c a w _ v) (by rw [hnt]; rfl) (allIn (by repeat (first | exact trivial | refine ⟨rfl, ?_⟩))) (by first | exact Le.refl _ | assumption) (quiet_op (by rw [hty]; first | rfl | (refine st_ ?_; rfl))) ?_; refine st_ ?_
  refine hu_take0 10 rfl (by kernel_rfl) (by kernel_rfl) (by kernel_rfl) (by decide) (fun c a w v => hQp c a w _ v) (by rw [hnt]; rfl) (allIn (by repeat (first | exact trivial | refine ⟨rfl, ?_⟩))) (by first | exact Le.refl _ | assumption) (quiet_op (by rw [hty]; first | rfl | (refine st_ ?_; rfl))) ?_; refine st_ ?_
  refine hu_take0 11 rfl (by kernel_rfl) (by kernel_rfl) (by kernel_rfl) (by decide) (fun c a w v => hQp c a w _ v) (by rw [hnt]; rfl) (allIn (by repeat (first | exact trivial | refine ⟨rfl, ?_⟩))) (by first | exact Le.refl _ | assumption) (quiet_op (by rw [hty]; first | rfl | (refine st_ ?_; rfl))) ?_; refine st_ ?_
  refine hu_takeB 12 [12, 23] rfl (by kernel_rfl) (by kernel_rfl) (by kernel_rfl) (by kernel_rfl) (fun c a w v => hQp c a w _ v) (by rw [hnt]; rfl) (allIn (by repeat (first | exact trivial | refine ⟨rfl, ?_⟩))) (by first | exact Le.refl _ | assumption) (x := .v (.int .i64 m.fn)) ((quiet_loadR (k := 1) (by rw [hty]; rfl) rfl (by simp [TK.agg]) rfl (by simp only []; omega)).cast (by rw [← e1]; exact encF_ld (j := 0) (by omega) rfl)) ?_
  refine st_ ?_
  refine hu_takeB 13 [13, 23] rfl (by kernel_rfl) (by kernel_rfl) (by kernel_rfl) (by kernel_rfl) (fun c a w v => hQp c a w _ v) (by rw [hnt]; rfl) (allIn (by repeat (first | exact trivial | refine ⟨rfl, ?_⟩))) (by first | exact Le.refl _ | assumption) (x := .v (.pointer (some ⟨bF, oF + m.fn.toNat * 2, none⟩))) ((quiet_index (by rw [hty]; rfl) (by rw [hty]; rfl) rfl rfl rfl (by omega) (by omega)).cast (by rfl)) ?_
  refine st_ ?_
  refine hu_take0 14 rfl (by kernel_rfl) (by kernel_rfl) (by kernel_rfl) (by decide) (fun c a w v => hQp c a w _ v) (by rw [hnt]; rfl) (allIn (by repeat (first | exact trivial | refine ⟨rfl, ?_⟩))) (by first | exact Le.refl _ | assumption) (quiet_op (by rw [hty]; first | rfl | (refine st_ ?_; rfl))) ?_; refine st_ ?_
  refine hu_takeB 15 [15, 23] rfl (by kernel_rfl) (by kernel_rfl) (by kernel_rfl) (by kernel_rfl) (fun c a w v => hQp c a w _ v) (by rw [hnt]; rfl) (allIn (by repeat (first | exact trivial | refine ⟨rfl, ?_⟩))) (by first | exact Le.refl _ | assumption) (x := .v (.slice (some ⟨bN, oN, none⟩) kN cN)) ((quiet_load (by rw [hty]; rfl) rfl (by simp [TK.agg]) hat1 rfl).cast (by rfl)) ?_
  refine st_ ?_
  refine hu_take0 16 rfl (by kernel_rfl) (by kernel_rfl) (by kernel_rfl) (by decide) (fun c a w v => hQp c a w _ v) (by rw [hnt]; rfl) (allIn (by repeat (first | exact trivial | refine ⟨rfl, ?_⟩))) (by first | exact Le.refl _ | assumption) (quiet_op (by rw [hty]; first | rfl | (refine st_ ?_; rfl))) ?_; refine st_ ?_
  refine hu_take0 17 rfl (by kernel_rfl) (by kernel_rfl) (by kernel_rfl) (by decide) (fun c a w v => hQp c a w _ v) (by rw [hnt]; rfl) (allIn (by repeat (first | exact trivial | refine ⟨rfl, ?_⟩))) (by first | exact Le.refl _ | assumption) (quiet_op (by rw [hty]; first | rfl | (refine st_ ?_; rfl))) ?_; refine st_ ?_
  refine hu_take0 18 rfl (by kernel_rfl) (by kernel_rfl) (by kernel_rfl) (by decide) (fun c a w v => hQp c a w _ v) (by rw [hnt]; rfl) (allIn (by repeat (first | exact trivial | refine ⟨rfl, ?_⟩))) (by first | exact Le.refl _ | assumption) (quiet_op (by rw [hty]; first | rfl | (refine st_ ?_; rfl))) ?_; refine st_ ?_
  refine hu_takeB 19 [19, 23] rfl (by kernel_rfl) (by kernel_rfl) (by kernel_rfl) (by kernel_rfl) (fun c a w v => hQp c a w _ v) (by rw [hnt]; rfl) (allIn (by repeat (first | exact trivial | refine ⟨rfl, ?_⟩))) (by first | exact Le.refl _ | assumption) (x := .v (.int .i64 m.nd)) ((quiet_loadR (k := 1) (by rw [hty]; rfl) rfl (by simp [TK.agg]) rfl (by simp only []; omega)).cast (by rw [← e2]; exact encF_ld (j := 1) (by omega) rfl)) ?_
  refine st_ ?_
  refine hu_takeB 20 [20, 23] rfl (by kernel_rfl) (by kernel_rfl) (by kernel_rfl) (by kernel_rfl) (fun c a w v => hQp c a w _ v) (by rw [hnt]; rfl) (allIn (by repeat (first | exact trivial | refine ⟨rfl, ?_⟩))) (by first | exact Le.refl _ | assumption) (x := .v (.pointer (some ⟨bN, oN + m.nd.toNat * 3, none⟩))) ((quiet_index (by rw [hty]; rfl) (by rw [hty]; rfl) rfl rfl rfl (by omega) (by omega)).cast (by rfl)) ?_
  refine st_ ?_
  refine hu_takeB 21 [21, 23] rfl (by kernel_rfl) (by kernel_rfl) (by kernel_rfl) (by kernel_rfl) (fun c a w v => hQp c a w _ v) (by rw [hnt]; rfl) (allIn (by repeat (first | exact trivial | refine ⟨rfl, ?_⟩))) (by first | exact Le.refl _ | assumption) (x := .a [.v (.int .i64 nd.op), .v (.int .i64 nd.n), .v (.slice ads nd.l.length cs')]) ((quiet_load (by rw [hty]; rfl) rfl (by simp [TK.agg]) han rfl).cast (by rfl)) ?_
  refine st_ ?_
  refine hu_take0 22 rfl (by kernel_rfl) (by kernel_rfl) (by kernel_rfl) (by decide) (fun c a w v => hQp c a w _ v) (by rw [hnt]; rfl) (allIn (by repeat (first | exact trivial | refine ⟨rfl, ?_⟩))) (by first | exact Le.refl _ | assumption) (quiet_op (by rw [hty]; first | rfl | (refine st_ ?_; rfl))) ?_; refine st_ ?_
  refine hu_last 23 [] rfl (by kernel_rfl) rfl ?_
  refine rn_ ?_; intros
  refine h_end (by kernel_rfl) ?_
  refine rn_ ?_; intros
  refine x_retW rfl hQ hmb hmh hG0 hmub rfl rfl (by rw [hty]; simp only [so, sq, zy, zz, tyE, SO', SQ', opQ, opStore, opAlloc, ev, putS, dOk, cv, SV.cs, SV.one, SV.bool?, eqB, Value.oneCell', ldOwn, binInt, binConst, binBool, binStr, isC, TK.agg, rv, rv1, ldV, resOne, resV, Nat.reduceAdd, Nat.reduceMul, Nat.reduceSub, Nat.reduceLT, Nat.reduceLeDiff, Nat.reduceEqDiff, Nat.reduceBEq, reduceIte, reduceCtorEq, eq_self]; try rfl) rfl rfl (by simp only [enumO]; exact (by repeat (first | exact plain_nil | refine plain_cons (fun _ h => h) ?_))) ?_; simp only [SV.den, resV, dens]
  refine ⟨by simp [frO, fhO], g, cap, _, by simp, by rw [hrl], hrI⟩
end Go.Proofs.YtpppkednpamhbaaGreat
namespace Go.Proofs.YtpppkednpamhbaaGreat
set_option linter.unusedSimpArgs false
set_option linter.unusedVariables false
open Go.Sx
set_option maxHeartbeats 8000000
set_option maxRecDepth 20000
theorem kindOf_ok (op : Int) (G : Hp) : Pure Tryz.prog 87 [.int .i64 op] G (fun v _ => v = .int .i64 (kOf op)) := by
  refine enterX ty tyok Tryz.func87 rfl Tryz.ntmps87 [.v (.int .i64 op)] (by simp) ?_
  intro C hP hQ hnt hty hmb hmh hro; have hQp := qp_body hQ; refine st_ ?_
  refine rn_ ?_; intros
  refine x_split rfl rfl rfl (fun h0 => ?_) (fun h0 => ?_) <;> (refine st_ ?_; (refine ru_ ?_; intros))
  · refine rn_ ?_; intros
    refine x_ret rfl hQ hmb (by rw [hty]; rfl) rfl ?_; simp only [SV.den, resV]
    rw [show op = 2 by simpa using h0]; rfl
  · refine rn_ ?_; intros
    refine x_split rfl rfl rfl (fun h1 => ?_) (fun h1 => ?_) <;> (refine st_ ?_; (refine ru_ ?_; intros))
    · refine rn_ ?_; intros
      refine x_ret rfl hQ hmb (by rw [hty]; rfl) rfl ?_; simp only [SV.den, resV]
      rw [show op = 1 by simpa using h1]; rfl
    · refine rn_ ?_; intros
      refine x_split rfl rfl rfl (fun h2 => ?_) (fun h2 => ?_) <;> (refine st_ ?_; (refine ru_ ?_; intros))
      · refine rn_ ?_; intros
        refine x_ret rfl hQ hmb (by rw [hty]; rfl) rfl ?_; simp only [SV.den, resV]
        rw [show op = 10 by simpa using h2]; rfl
      · refine rn_ ?_; intros
        refine x_split rfl rfl rfl (fun h3 => ?_) (fun h3 => ?_) <;> (refine st_ ?_; (refine ru_ ?_; intros))
        · refine rn_ ?_; intros
          refine x_ret rfl hQ hmb (by rw [hty]; rfl) rfl ?_; simp only [SV.den, resV]
          rw [show op = 16 by simpa using h3]; rfl
        · refine rn_ ?_; intros
          refine x_split rfl rfl rfl (fun h4 => ?_) (fun h4 => ?_) <;> (refine st_ ?_; (refine ru_ ?_; intros))
          · refine rn_ ?_; intros
            refine x_ret rfl hQ hmb (by rw [hty]; rfl) rfl ?_; simp only [SV.den, resV]
            rw [show op = 17 by simpa using h4]; rfl
          · refine rn_ ?_; intros
            refine x_split rfl rfl rfl (fun h5 => ?_) (fun h5 => ?_) <;> (refine st_ ?_; (refine ru_ ?_; intros))
            · refine rn_ ?_; intros
              refine x_ret rfl hQ hmb (by rw [hty]; rfl) rfl ?_; simp only [SV.den, resV]
              rw [show op = 18 by simpa using h5]; rfl
            · refine rn_ ?_; intros
              refine x_split rfl rfl rfl (fun h6 => ?_) (fun h6 => ?_) <;> (refine st_ ?_; (refine ru_ ?_; intros))
              · refine rn_ ?_; intros
                refine x_ret rfl hQ hmb (by rw [hty]; rfl) rfl ?_; simp only [SV.den, resV]
                rw [show op = 19 by simpa using h6]; rfl
              · refine rn_ ?_; intros
                refine x_split rfl rfl rfl (fun h7 => ?_) (fun h7 => ?_) <;> (refine st_ ?_; (refine ru_ ?_; intros))
                · refine rn_ ?_; intros
                  refine x_ret rfl hQ hmb (by rw [hty]; rfl) rfl ?_; simp only [SV.den, resV]
                  rw [show op = 20 by simpa using h7]; rfl
                · refine rn_ ?_; intros
                  refine x_split rfl rfl rfl (fun h8 => ?_) (fun h8 => ?_) <;> (refine st_ ?_; (refine ru_ ?_; intros))
                  · refine rn_ ?_; intros
                    refine x_ret rfl hQ hmb (by rw [hty]; rfl) rfl ?_; simp only [SV.den, resV]
                    rw [show op = 21 by simpa using h8]; rfl
                  · refine rn_ ?_; intros
                    refine x_split rfl rfl rfl (fun h9 => ?_) (fun h9 => ?_) <;> (refine st_ ?_; (refine ru_ ?_; intros))
                    · refine rn_ ?_; intros
                      refine x_ret rfl hQ hmb (by rw [hty]; rfl) rfl ?_; simp only [SV.den, resV]
                      rw [show op = 22 by simpa using h9]; rfl
                    · refine rn_ ?_; intros
                      refine x_split rfl rfl rfl (fun h10 => ?_) (fun h10 => ?_) <;> (refine st_ ?_; (refine ru_ ?_; intros))
                      · refine rn_ ?_; intros
                        refine x_ret rfl hQ hmb (by rw [hty]; rfl) rfl ?_; simp only [SV.den, resV]
                        rw [show op = 23 by simpa using h10]; rfl
                      · refine rn_ ?_; intros
                        refine x_ret rfl hQ hmb (by rw [hty]; rfl) rfl ?_; simp only [SV.den, resV]
                        simp only [kOf, show ¬ op = 2 by simpa using h0, show ¬ op = 1 by simpa using h1, show ¬ op = 10 by simpa using h2, show ¬ op = 16 by simpa using h3, show ¬ op = 17 by simpa using h4, show ¬ op = 18 by simpa using h5, show ¬ op = 19 by simpa using h6, show ¬ op = 20 by simpa using h7, show ¬ op = 21 by simpa using h8, show ¬ op = 22 by simpa using h9, show ¬ op = 23 by simpa using h10, if_false]
theorem ready_ok (b cb b1 g cap : Nat) (st k n : Int) (vl : Value) (m : Fm) (l : List Fm) (x : Fw) (r : List Fw) (nd : Nd) (sl : Value) (off : Nat) (o : Int × List Fm) (G : Hp) (hoff : off = r.length * 4) (hxd : rW.S G m.done x.done.v) (hsl : rI.S G nd.l sl) (ho : readyF nd m l = some o) :
    PureW Tryz.prog 65 [.pointer (some ⟨b, 0, none⟩), .pointer (some ⟨g, off, none⟩), .agg #[.int .i64 nd.op, .int .i64 nd.n, sl]] G [fhO b cb st k n vl (.slice (some ⟨g, 0, none⟩) (r.length + 1) cap), frO b1 (.slice (some ⟨g, 0, none⟩) (r.length + 1) cap) (x :: r)]
      (fun _ _ ow => (o.2 = m :: l ∧ ow = [fhO b cb o.1 k n vl (.slice (some ⟨g, 0, none⟩) (r.length + 1) cap), frO b1 (.slice (some ⟨g, 0, none⟩) (r.length + 1) cap) (x :: r)]) ∨ (o = (4, []) ∧ ow = [fhO b cb 4 k n vl (.slice none 0 0), frO b1 (.slice (some ⟨g, 0, none⟩) (r.length + 1) cap) (x :: r)])) := by
  subst hoff
  obtain ⟨asl, cs, rfl⟩ := Rp.S_slice hsl
  obtain ⟨xfn, xnd, xvars, xe, xsz, xdv, xn, xxs⟩ := x
  simp only at hxd
  obtain ⟨ad, cd, rfl⟩ := Rp.S_slice hxd
  have hlen := encF_len (⟨xfn, xnd, xvars, ⟨xe, xsz, .slice ad m.done.length cd, xn, xxs⟩⟩ :: r)
  simp only [List.length_cons] at hlen
  unfold readyF at ho
  refine enterW ty tyok Tryz.func65 rfl Tryz.ntmps65 [.p 0 b 0, .v (.pointer (some ⟨g, r.length * 4, none⟩)), .a [.v (.int .i64 nd.op), .v (.int .i64 nd.n), .v (.slice asl nd.l.length cs)]] (by simp) (mh := 2) rfl ?_
  intro C hP hQ hnt hty hmb hmh hro hG0 hmub; have hQp := qp_body hQ; refine st_ ?_
  simp only [enumO, fhO, frO, List.length_cons]
  refine rn_ ?_; intros
  refine x_split rfl rfl rfl (fun h0 => ?_) (fun h0 => ?_) <;> (refine st_ ?_; (refine ru_ ?_; intros))
  · have h24 : nd.op = 24 := by simpa using h0
    rw [if_pos h24] at ho
    cases hdn : m.done with
    | nil => rw [hdn] at ho; cases ho
    | cons v t =>
    rw [hdn] at ho
    simp only [Option.some.injEq] at ho
    obtain ⟨bD, oD, s0, rfl, hat0, hr0, ht0⟩ := rW_at hxd (i := 0) (by rw [hdn]; simp)
    have e0 : m.done[0]'(by rw [hdn]; simp) = v := by simp [hdn]
    rw [e0] at hat0 hr0 ht0
    have hdl : 0 < m.done.length := by rw [hdn]; simp
    rw [← hdn]
    refine rn_ ?_; intros
    refine go_q (v := .slice (some ⟨bD, oD, none⟩) m.done.length cd) (by rw [hnt]; rfl) ((quiet_loadR (k := 1) (by rw [hty]; rfl) rfl (by simp [TK.agg]) rfl (by simp only []; omega)).cast (by exact encF_ld (j := 3) (by omega) rfl)) ?_
    refine rn_ ?_; intros
    refine go_q (v := .pointer (some ⟨bD, oD + 0 * 3, none⟩)) (by rw [hnt]; rfl) ((quiet_index (by rw [hty]; rfl) (by rw [hty]; rfl) rfl rfl rfl (by omega) (by omega)).cast (by rfl)) ?_
    refine rn_ ?_; intros
    refine go_q (v := .agg #[.int .i64 v.k, .int .i64 v.n, s0]) (by rw [hnt]; rfl) ((quiet_load (by rw [hty]; rfl) rfl (by simp [TK.agg]) hat0 rfl).cast (by rfl)) ?_
    refine rn_ ?_; intros
    refine go_callf (by rw [hnt]; rfl) (by rw [hP]; kernel_rfl) rfl (hP ▸ isEvent_ok v s0 G hr0) ?_; refine rn_ ?_; intros
    refine x_split rfl rfl rfl (fun h5 => ?_) (fun h5 => ?_) <;> (refine st_ ?_; (refine ru_ ?_; intros))
    · have h5 : (vld v && evk v.k) = false := by
        cases hq : (vld v && evk v.k) with
        | false => rfl
        | true => rw [hq] at h5; cases h5
      refine rn_ ?_; intros
      refine go_callW [0] (by rw [hnt]; rfl) (by rw [hP]; kernel_rfl) rfl rfl rfl (.inr (by rw [hmh]; decide)) (by rw [hP]; exact fail_ok b cb st k n vl _ _) ?_
      rintro v5 G5 ow5 (hle5 : Le _ G5) rfl
      simp only [setO, stk, fhO]
      refine rn_ ?_; intros
      refine x_ret0 rfl hQ hmb hmh hG0 hmub rfl rfl rfl rfl (by simp only [enumO]; exact (by repeat (first | exact plain_nil | refine plain_cons (fun _ h => h) ?_))) ?_
      intro _
      rw [h5] at ho
      subst ho
      exact .inr ⟨rfl, rfl⟩
    · have h5 : (vld v && evk v.k) = true := by
        cases hq : (vld v && evk v.k) with
        | true => rfl
        | false => rw [hq] at h5; cases h5
      refine rn_ ?_; intros
      refine x_endW hQ hmb hmh hG0 hmub rfl rfl rfl rfl (by simp only [enumO]; exact (by repeat (first | exact plain_nil | refine plain_cons (fun _ h => h) ?_))) ?_
      intro _
      rw [h5] at ho
      subst ho
      exact .inl ⟨rfl, rfl⟩
  have h24 : ¬ nd.op = 24 := by simpa using h0
  rw [if_neg h24, Option.some.injEq] at ho
  refine rn_ ?_; intros
  refine x_split rfl rfl rfl (fun h1 => ?_) (fun h1 => ?_) <;> (refine st_ ?_; (refine ru_ ?_; intros))
  · refine rn_ ?_; intros
    refine x_endW hQ hmb hmh hG0 hmub rfl rfl rfl rfl (by simp only [enumO]; exact (by repeat (first | exact plain_nil | refine plain_cons (fun _ h => h) ?_))) ?_
    intro _
    rw [if_pos (.inl (by simpa using h1))] at ho
    subst ho
    exact .inl ⟨rfl, rfl⟩
  · refine rn_ ?_; intros
    refine x_split rfl rfl rfl (fun h2 => ?_) (fun h2 => ?_) <;> (refine st_ ?_; (refine ru_ ?_; intros))
    · refine rn_ ?_; intros
      refine x_endW hQ hmb hmh hG0 hmub rfl rfl rfl rfl (by simp only [enumO]; exact (by repeat (first | exact plain_nil | refine plain_cons (fun _ h => h) ?_))) ?_
      intro _
      rw [if_pos (.inr (by simpa using h2))] at ho
      subst ho
      exact .inl ⟨rfl, rfl⟩
    · refine rn_ ?_; intros
      refine x_endW hQ hmb hmh hG0 hmub rfl rfl rfl rfl (by simp only [enumO]; exact (by repeat (first | exact plain_nil | refine plain_cons (fun _ h => h) ?_))) ?_
      intro _
      rw [if_neg (by rintro (q | q); exact absurd q (by simpa using h1); exact absurd q (by simpa using h2))] at ho
      subst ho
      exact .inl ⟨rfl, rfl⟩
end Go.Proofs.YtpppkednpamhbaaGreat
namespace Go.Sx
set_option linter.unusedSimpArgs false
set_option linter.unusedVariables false
open Go.RowKit
section
variable {F : Fence} {n : Nat} {P : Program} {Q : Exit → Act → World → Prop} {a : Act} {w : World} {b : Frame} {k : List Item} {cs : List Frame}
end
section
variable {C : Ctx} {K : List KI} {s : St} {k : Code}
theorem cut_tailK (n : Nat) (P : St → Prop) (key : ∀ s', P s' → SGo C (K.drop n) s') (h : ∀ Kr, (∀ s', P s' → SGo C Kr s') → SGo C (K.take n ++ Kr) s) : SGo C K s := by
  have := h _ key
  rwa [List.take_append_drop] at this
end
end Go.Sx
namespace Go.Proofs.YtpppkednpamhbaaGreat
set_option linter.unusedSimpArgs false
set_option linter.unusedVariables false
open Go.Sx
set_option maxHeartbeats 16000000
set_option maxRecDepth 20000
theorem rI_get {G : Hp} {l : List Int} {v : Value} (h : rI.S G l v) {i : Nat} {k : Int} (hk : l[i]? = some k) : i < l.length ∧ isI64 k ∧ ∃ b off cap, v = .slice (some ⟨b, off, none⟩) l.length cap ∧ At G b (off + i * 1) [.int .i64 k] := by
  obtain ⟨hi, e⟩ := List.getElem?_eq_some_iff.1 hk
  obtain ⟨b, off, cap, c, h1, h2, h3⟩ := Rp.S_get h hi
  rw [e] at h3
  simp only [rI] at h3
  obtain ⟨rfl, h4⟩ := h3
  exact ⟨hi, h4, b, off, cap, h1, by simpa [rI] using h2⟩
theorem rWL_get {G : Hp} : ∀ {l : List VT} {cs : List Value} {i : Nat} {v : VT}, rW.L G l cs → l[i]? = some v → ∃ sl, (cs.drop (i * 3)).take 3 = [.int .i64 v.k, .int .i64 v.n, sl] ∧ v.rep G sl ∧ tsz v ≤ 1000
  | [], cs, i, v, _, h => by simp at h
  | x :: l, cs, 0, v, hL, h => by
    simp only [List.getElem?_cons_zero, Option.some.injEq] at h
    subst h
    simp only [Rp.L] at hL
    obtain ⟨c, r, rfl, ⟨sl, rfl, h2⟩, _⟩ := hL
    exact ⟨sl, by simp, h2⟩
  | x :: l, cs, i + 1, v, hL, h => by
    simp only [Rp.L] at hL
    obtain ⟨c, r, rfl, ⟨sl, rfl, h2⟩, h4⟩ := hL
    obtain ⟨sl', h5, h6⟩ := rWL_get (i := i) h4 (by simpa using h)
    refine ⟨sl', ?_, h6⟩
    rw [show (i + 1) * 3 = i * 3 + 3 by omega]
    simpa using h5
theorem tr_none {v : VT} (h : trF v = none) : ∃ e : Int, e ≠ 0 ∧ (if vld v then (if v.k == 2 then Value.tuple #[.bool (v.n != 0), .int .i64 0] else .tuple #[.bool false, .int .i64 41]) else .tuple #[.bool false, .int .i64 40]) = .tuple #[.bool false, .int .i64 e] := by
  unfold trF at h
  cases h1 : vld v with
  | false => exact ⟨40, by decide, rfl⟩
  | true =>
    cases h2 : v.k == 2 with
    | false => exact ⟨41, by decide, rfl⟩
    | true => rw [h1, h2] at h; cases h
theorem tr_some {v : VT} {b : Bool} (h : trF v = some b) : (if vld v then (if v.k == 2 then Value.tuple #[.bool (v.n != 0), .int .i64 0] else .tuple #[.bool false, .int .i64 41]) else .tuple #[.bool false, .int .i64 40]) = .tuple #[.bool b, .int .i64 0] := by
  unfold trF at h
  cases h1 : vld v with
  | false => rw [h1] at h; cases h
  | true =>
    cases h2 : v.k == 2 with
    | false => rw [h1, h2] at h; cases h
    | true => rw [h1, h2] at h; injection h with h; subst h; rfl
theorem beqI (n : Nat) : ((n : Int) == 1) = (n == 1) := by rw [Bool.eq_iff_iff]; simp; omega
theorem beqD (n : Nat) : (n == 1) = decide (n = 1) := by rw [Bool.eq_iff_iff]; simp
theorem lay_app {l l' us : List Value} {o : Nat} (h : lay l o us = some l') : ∀ l1 : List Value, lay (l1 ++ l) (l1.length + o) us = some (l1 ++ l')
  | [] => by simpa using h
  | q :: l1 => by
    have ih := lay_app h l1
    cases us with
    | nil => simp only [lay, Option.some.injEq] at h; subst h; simp [lay]
    | cons u us =>
      rw [show (q :: l1).length + o = (l1.length + o) + 1 by simp; omega, List.cons_append, lay, ih]
      rfl
theorem encF_lay {x x' : Fw} {r : List Fw} {j off : Nat} {us vs : List Value} (ho : off = r.length * 4 + j) (hv : vs = us) (hu : lay (cellsF x) j us = some (cellsF x')) : lay (encF (x :: r)) off vs = some (encF (x' :: r)) := by
  subst ho hv
  have := lay_app hu (encF r)
  rw [encF_len r] at this
  exact this
def fpO (G : Hp) (b cb : Nat) (s : Fb) (ow : Lds) : Prop :=
  ∃ vl fs b1 b2 b3 rs Z, s.val.rep G vl ∧ tsz s.val ≤ 1000 ∧ fsOk G s.l rs ∧ s.l.length ≤ 256 ∧ ow = [fhO b cb s.st s.val.k s.val.n vl fs, frO b1 fs rs, fzO b2 (rs.drop 1) Z, fdO b3 ((rs.head?.map (·.done)).getD rw0)]
theorem rW_full {G : Hp} {l : List VT} {ad : Option Addr} {n c : Nat} (h : rW.S G l (.slice ad n c)) : rW.S G l (.slice ad n n) := by
  obtain ⟨h1, ad', c', e, h2⟩ := h
  injection e with e1 e2 e3
  subst e1 e2
  exact ⟨h1, _, _, rfl, h2⟩
theorem plainL {ow : Lds} (h : Plain (enumO 0 ow)) : ∀ g, blkOf ow g → mutOf ow g := fun g ⟨i, b, o, e, hg⟩ => ⟨i, b, o, e, h i b o (by rw [lk_enumO]; simpa using e) g hg⟩
theorem desc_ok (b cb : Nat) (p : Pr) (ps : Value) (s : Fb) (N : Nat) (o : Int × List Fm) (ow : Lds) (G : Hp) (hc : At G cb 0 [ps]) (hp : rF.S G p ps) (hfb : fpO G b cb s ow) (hd : downF p N s.l = some o) :
    PureT Tryz.prog 37 [.pointer (some ⟨b, 0, none⟩)] G ow (fun _ G' ow' => fbO G' b cb ⟨o.1, s.val, o.2⟩ ow') := by
  obtain ⟨vl, fs, b1, b2, b3, rs, Z, hv, htv, hfs, hl256, rfl⟩ := hfb
  refine enterT ty tyok Tryz.func37 rfl Tryz.ntmps37 [.p 0 b 0] (by simp) (by simp) (plainL (by simp only [enumO]; exact (by repeat (first | exact plain_nil | refine plain_cons (fun _ h => h) ?_)))) ?_
  intro C w0 hP hQ hnt hty hmb hmh hro hG0 hb0; have hQp := qp_body hQ; refine st_ ?_
  generalize hrest : restB w0 _ G = Zr
  simp only [enumO, fhO, frO, fzO, fdO, List.cons_append, List.nil_append]
  refine rn_ ?_; intros
  refine x_loop rfl (fun q s' => ∃ (l : List Fm) (fs : Value) (rs : List Fw) (Z : Nat → Prop) (G' : Hp), Le G G' ∧ downF p q l = some o ∧ fsOk G' l rs ∧ l.length ≤ 256 ∧
    s' = ⟨[(0, .p 0 b 0)], [(0, b, .c 93 [.v (.pointer (some ⟨cb, 0, none⟩)), .v (.int .i64 s.st), .v (.int .i64 s.val.k), .v (.int .i64 s.val.n), .v vl, .v fs]), (1, b1, .row fs 90 4 rs.length (encF rs)), (2, b2, .z (ZR ((rs.drop 1).map (·.done))) Z Z),
      (3, b3, .row ((rs.head?.map (·.done)).getD rw0).v ((rs.head?.map (·.done)).getD rw0).e ((rs.head?.map (·.done)).getD rw0).size ((rs.head?.map (·.done)).getD rw0).n ((rs.head?.map (·.done)).getD rw0).xs), (999, 0, .z (ZRest w0) Zr Zr)], G', []⟩) ⟨s.l, fs, rs, Z, G, Le.refl _, hd, hfs, hl256, rfl⟩ ?_
  clear hfs hd
  rintro q s' ⟨l, fs, rs, Z, G1, hle, hd, hfs, hl256, rfl⟩ ih
  cases q with
  | zero => cases l <;> simp [downF] at hd
  | succ q =>
  cases l with
  | nil => simp [downF] at hd
  | cons m l =>
  simp only [downF] at hd
  cases hnd : ndAt p m.fn m.nd with
  | none => rw [hnd] at hd; cases hd
  | some nd =>
  rw [hnd] at hd
  simp only [] at hd
  have hc1 := hc.mono hle
  have hp1 := Rp.S_mono hle hp
  refine rn_ ?_; intros
  refine go_callW [0, 1] (by rw [hnt]; rfl) (by rw [hP]; kernel_rfl) rfl rfl rfl (.inl (by rw [hmh]; simp)) (by rw [hP]; exact last_ok b cb b1 s.st s.val.k s.val.n vl fs ps p m l rs nd G1 hc1 hp1 hfs hnd (by simp at hl256; omega)) ?_
  rintro v G2 ow2 (hle2 : Le G1 G2) ⟨rfl, g, cap, sl, rfl, rfl, hsl⟩
  obtain ⟨asl, csl, rfl⟩ := Rp.S_slice hsl
  have hsl := Rp.S_mono hle2 hsl
  have hfs := hfs.mono hle2
  obtain ⟨x, r, rfl, hx, hr⟩ := hfs
  obtain ⟨xfn, xnd, xvars, xe, xsz, xdv, xn, xxs⟩ := x
  obtain ⟨x1, x2, x3, x4, x5, x6, x7⟩ := hx
  obtain ⟨d1, d2, d3, d4, d5, ad, cd, d6, d7⟩ := x7
  simp only at x1 x2 x5 x6 d1 d2 d3 d4 d5 d6
  subst x1 x2 d1 d2 d3 d6
  obtain ⟨av, cv', rfl⟩ := Rp.S_slice x6
  have hcv := x5 _ _ _ rfl
  have hlen := encF_len (⟨m.fn, m.nd, .slice av m.vars.length cv', ⟨42, 3, .slice ad m.done.length cd, m.done.length, xxs⟩⟩ :: r)
  simp only [List.length_cons] at hlen
  have hrl := hr.len
  simp only [setO, stk, List.head?_cons, Option.map_some, Option.getD_some, List.drop_succ_cons, List.drop_zero]
  refine rn_ ?_; intros
  rename_i b4
  simp only [fhO, frO]
  refine cut_tailK 1 (fun s' => ∃ u, s' = ⟨[(0, .p 0 b 0), (2, .v (.pointer (some ⟨g, l.length * 4, none⟩))), (3, .p 1000 b4 0), (38, .b u)], [(0, b, .c 93 [.v (.pointer (some ⟨cb, 0, none⟩)), .v (.int .i64 s.st), .v (.int .i64 s.val.k), .v (.int .i64 s.val.n), .v vl, .v (.slice (some ⟨g, 0, none⟩) (r.length + 1) cap)]), (1, b1, .row (.slice (some ⟨g, 0, none⟩) (r.length + 1) cap) 90 4 (r.length + 1) (encF (⟨m.fn, m.nd, .slice av m.vars.length cv', ⟨42, 3, .slice ad m.done.length cd, m.done.length, xxs⟩⟩ :: r))), (2, b2, .z (ZR (r.map (·.done))) Z Z), (3, b3, .row (.slice ad m.done.length cd) 42 3 m.done.length xxs), (999, 0, .z (ZRest w0) Zr Zr), (1000, b4, .c 110 [.v (.int .i64 nd.op), .v (.int .i64 nd.n), .v (.slice asl nd.l.length csl)])], G2, []⟩ ∧ u = decide (nd.op = 4 ∧ m.done.length = 1)) ?_ ?_
  rotate_left
  · intro Kr hK
    simp only [List.take_succ_cons, List.take_zero, List.cons_append, List.nil_append]
    refine go_gsplit rfl rfl (fun h1 => ?_) (fun h1 => ?_) <;> (refine st_ ?_; (refine rn_ ?_; intros))
    · refine go_q (v := .slice ad m.done.length cd) (by rw [hnt]; rfl) ((quiet_loadR (k := 1) (by rw [hty]; rfl) rfl (by simp [TK.agg]) rfl (by simp only []; omega)).cast (by exact encF_ld (j := 3) (by omega) rfl)) ?_
      refine rn_ ?_; intros
      refine go_keep [0, 2, 3, 38] [0, 1, 2, 3, 999, 1000] ?_
      refine st_ ?_
      refine go_slot 38 (.b (m.done.length == 1)) rfl (by simp only [SV.den, beqI]) ?_
      exact hK _ ⟨_, rfl, by rw [show nd.op = 4 by simpa using h1, beqD]; simp⟩
    · refine go_keep [0, 2, 3, 38] [0, 1, 2, 3, 999, 1000] ?_
      refine st_ ?_
      refine go_slot 38 (.b false) rfl (by simp [SV.den]; try simpa using h1) ?_
      exact hK _ ⟨_, rfl, by simp [show ¬ nd.op = 4 by simpa using h1]⟩
  rintro s' ⟨u, rfl, hu⟩
  simp only [List.drop_succ_cons, List.drop_zero]
  cases u
  rotate_left
  · have hA := of_decide_eq_true hu.symm
    rw [if_pos hA] at hd
    obtain ⟨h4, h1⟩ := hA
    cases hk : nd.l[1]? with
    | none => rw [hk] at hd; cases hd
    | some k =>
    obtain ⟨v, t, hdn⟩ : ∃ v t, m.done = v :: t := by
      cases hq : m.done with
      | nil => rw [hq] at h1; cases h1
      | cons v t => exact ⟨v, t, rfl⟩
    rw [hk, hdn] at hd
    simp only [] at hd
    split at hd
    rotate_left
    · cases hd
    rename_i hv5
    obtain ⟨slv, hxv, hrv, htv1⟩ := rWL_get (i := 0) (v := v) d4 (by rw [hdn]; rfl)
    obtain ⟨hki, hk64, bL, oL, cL, eL, hatL⟩ := rI_get hsl hk
    injection eL with q1 q2 q3
    subst q1 q3
    refine go_rowcases 3 rfl (fun _ h _ => by omega) ?_
    rintro g3 cap3 e3 hcap3 hlen3
    injection e3 with q1 q2 q3
    subst q1 q3
    refine rn_ ?_; intros
    refine x_heldP [(1, b1, .row (.slice (some ⟨g, 0, none⟩) (r.length + 1) cap) 90 4 (r.length + 1) (encF (⟨m.fn, m.nd, .slice av m.vars.length cv', ⟨42, 3, .slice (some ⟨g3, 0, none⟩) m.done.length cd, m.done.length, xxs⟩⟩ :: r))), (3, b3, .row (.slice (some ⟨g3, 0, none⟩) m.done.length cd) 42 3 m.done.length xxs)] 23 rfl (by rw [hP]; kernel_rfl) rfl rfl rfl ?_; refine st_ ?_
    refine hu_take0 0 rfl (by kernel_rfl) (by kernel_rfl) (by kernel_rfl) (by decide) (fun c a w v => hQp c a w _ v) (by rw [hnt]; rfl) (allIn (by repeat (first | exact trivial | refine ⟨rfl, ?_⟩))) (by first | exact Le.refl _ | assumption) (quiet_op (by rw [hty]; first | rfl | (refine st_ ?_; rfl))) ?_; refine st_ ?_
    refine hu_take0 1 rfl (by kernel_rfl) (by kernel_rfl) (by kernel_rfl) (by decide) (fun c a w v => hQp c a w _ v) (by rw [hnt]; rfl) (allIn (by repeat (first | exact trivial | refine ⟨rfl, ?_⟩))) (by first | exact Le.refl _ | assumption) (quiet_op (by rw [hty]; first | rfl | (refine st_ ?_; rfl))) ?_; refine st_ ?_
    refine hu_take0 2 rfl (by kernel_rfl) (by kernel_rfl) (by kernel_rfl) (by decide) (fun c a w v => hQp c a w _ v) (by rw [hnt]; rfl) (allIn (by repeat (first | exact trivial | refine ⟨rfl, ?_⟩))) (by first | exact Le.refl _ | assumption) (quiet_op (by rw [hty]; first | rfl | (refine st_ ?_; rfl))) ?_; refine st_ ?_
    refine hu_take0 3 rfl (by kernel_rfl) (by kernel_rfl) (by kernel_rfl) (by decide) (fun c a w v => hQp c a w _ v) (by rw [hnt]; rfl) (allIn (by repeat (first | exact trivial | refine ⟨rfl, ?_⟩))) (by first | exact Le.refl _ | assumption) (quiet_op (by rw [hty]; first | rfl | (refine st_ ?_; rfl))) ?_; refine st_ ?_
    refine hu_takeB 4 [4, 15, 23] rfl (by kernel_rfl) (by kernel_rfl) (by kernel_rfl) (by kernel_rfl) (fun c a w v => hQp c a w _ v) (by rw [hnt]; rfl) (allIn (by repeat (first | exact trivial | refine ⟨rfl, ?_⟩))) (by first | exact Le.refl _ | assumption) (x := .v (.slice av m.vars.length cv')) ((quiet_loadR (k := 1) (by rw [hty]; rfl) rfl (by simp [TK.agg]) rfl (by simp only []; omega)).cast (by exact encF_ld (j := 2) (by omega) rfl)) ?_
    refine st_ ?_
    refine hu_take0 5 rfl (by kernel_rfl) (by kernel_rfl) (by kernel_rfl) (by decide) (fun c a w v => hQp c a w _ v) (by rw [hnt]; rfl) (allIn (by repeat (first | exact trivial | refine ⟨rfl, ?_⟩))) (by first | exact Le.refl _ | assumption) (quiet_op (by rw [hty]; first | rfl | (refine st_ ?_; rfl))) ?_; refine st_ ?_
    refine hu_take0 6 rfl (by kernel_rfl) (by kernel_rfl) (by kernel_rfl) (by decide) (fun c a w v => hQp c a w _ v) (by rw [hnt]; rfl) (allIn (by repeat (first | exact trivial | refine ⟨rfl, ?_⟩))) (by first | exact Le.refl _ | assumption) (quiet_op (by rw [hty]; first | rfl | (refine st_ ?_; rfl))) ?_; refine st_ ?_
    refine hu_take0 7 rfl (by kernel_rfl) (by kernel_rfl) (by kernel_rfl) (by decide) (fun c a w v => hQp c a w _ v) (by rw [hnt]; rfl) (allIn (by repeat (first | exact trivial | refine ⟨rfl, ?_⟩))) (by first | exact Le.refl _ | assumption) (quiet_op (by rw [hty]; first | rfl | (refine st_ ?_; rfl))) ?_; refine st_ ?_
    refine hu_takeB 8 [8, 9, 15, 23] rfl (by kernel_rfl) (by kernel_rfl) (by kernel_rfl) (by kernel_rfl) (fun c a w v => hQp c a w _ v) (by rw [hnt]; rfl) (allIn (by repeat (first | exact trivial | refine ⟨rfl, ?_⟩))) (by first | exact Le.refl _ | assumption) (x := .v (.slice av m.vars.length cv')) ((quiet_loadR (k := 1) (by rw [hty]; rfl) rfl (by simp [TK.agg]) rfl (by simp only []; omega)).cast (by exact encF_ld (j := 2) (by omega) rfl)) ?_
    refine st_ ?_
    refine hu_take0 9 rfl (by kernel_rfl) (by kernel_rfl) (by kernel_rfl) (by decide) (fun c a w v => hQp c a w _ v) (by rw [hnt]; rfl) (allIn (by repeat (first | exact trivial | refine ⟨rfl, ?_⟩))) (by first | exact Le.refl _ | assumption) (quiet_op (by rw [hty]; first | rfl | (refine st_ ?_; rfl))) ?_; refine st_ ?_
    refine hu_take0 10 rfl (by kernel_rfl) (by kernel_rfl) (by kernel_rfl) (by decide) (fun c a w v => hQp c a w _ v) (by rw [hnt]; rfl) (allIn (by repeat (first | exact trivial | refine ⟨rfl, ?_⟩))) (by first | exact Le.refl _ | assumption) (quiet_op (by rw [hty]; first | rfl | (refine st_ ?_; rfl))) ?_; refine st_ ?_
    refine hu_take0 11 rfl (by kernel_rfl) (by kernel_rfl) (by kernel_rfl) (by decide) (fun c a w v => hQp c a w _ v) (by rw [hnt]; rfl) (allIn (by repeat (first | exact trivial | refine ⟨rfl, ?_⟩))) (by first | exact Le.refl _ | assumption) (quiet_op (by rw [hty]; first | rfl | (refine st_ ?_; rfl))) ?_; refine st_ ?_
    refine hu_take0 12 rfl (by kernel_rfl) (by kernel_rfl) (by kernel_rfl) (by decide) (fun c a w v => hQp c a w _ v) (by rw [hnt]; rfl) (allIn (by repeat (first | exact trivial | refine ⟨rfl, ?_⟩))) (by first | exact Le.refl _ | assumption) (quiet_op (by rw [hty]; first | rfl | (refine st_ ?_; rfl))) ?_; refine st_ ?_
    refine hu_takeB 13 [13, 14, 15, 23] rfl (by kernel_rfl) (by kernel_rfl) (by kernel_rfl) (by kernel_rfl) (fun c a w v => hQp c a w _ v) (by rw [hnt]; rfl) (allIn (by repeat (first | exact trivial | refine ⟨rfl, ?_⟩))) (by first | exact Le.refl _ | assumption) (x := .v (.slice av m.vars.length cv')) ((quiet_loadR (k := 1) (by rw [hty]; rfl) rfl (by simp [TK.agg]) rfl (by simp only []; omega)).cast (by exact encF_ld (j := 2) (by omega) rfl)) ?_
    refine st_ ?_
    refine hu_take0 14 rfl (by kernel_rfl) (by kernel_rfl) (by kernel_rfl) (by decide) (fun c a w v => hQp c a w _ v) (by rw [hnt]; rfl) (allIn (by repeat (first | exact trivial | refine ⟨rfl, ?_⟩))) (by first | exact Le.refl _ | assumption) (quiet_op (by rw [hty]; first | rfl | (refine st_ ?_; rfl))) ?_; refine st_ ?_
    refine hu_takeB 15 [15, 23] rfl (by kernel_rfl) (by kernel_rfl) (by kernel_rfl) (by kernel_rfl) (fun c a w v => hQp c a w _ v) (by rw [hnt]; rfl) (allIn (by repeat (first | exact trivial | refine ⟨rfl, ?_⟩))) (by first | exact Le.refl _ | assumption) (x := .v (.slice av m.vars.length m.vars.length)) ((quiet_slice3 (by rw [hty]; rfl) (by rw [hty]; rfl) rfl rfl rfl rfl (by omega) (by omega)).cast (by
      have e2 : av.map (fun x => x.add 0) = av := by cases av <;> simp [Addr.add]
      simp only [Sx.sliced, SV.den, Int.toNat_natCast, Nat.sub_zero, Nat.zero_mul, e2, ite_self])) ?_
    refine st_ ?_
    refine hu_take0 16 rfl (by kernel_rfl) (by kernel_rfl) (by kernel_rfl) (by decide) (fun c a w v => hQp c a w _ v) (by rw [hnt]; rfl) (allIn (by repeat (first | exact trivial | refine ⟨rfl, ?_⟩))) (by first | exact Le.refl _ | assumption) (quiet_op (by rw [hty]; first | rfl | (refine st_ ?_; rfl))) ?_; refine st_ ?_
    refine hu_take0 17 rfl (by kernel_rfl) (by kernel_rfl) (by kernel_rfl) (by decide) (fun c a w v => hQp c a w _ v) (by rw [hnt]; rfl) (allIn (by repeat (first | exact trivial | refine ⟨rfl, ?_⟩))) (by first | exact Le.refl _ | assumption) (quiet_op (by rw [hty]; first | rfl | (refine st_ ?_; rfl))) ?_; refine st_ ?_
    refine hu_take0 18 rfl (by kernel_rfl) (by kernel_rfl) (by kernel_rfl) (by decide) (fun c a w v => hQp c a w _ v) (by rw [hnt]; rfl) (allIn (by repeat (first | exact trivial | refine ⟨rfl, ?_⟩))) (by first | exact Le.refl _ | assumption) (quiet_op (by rw [hty]; first | rfl | (refine st_ ?_; rfl))) ?_; refine st_ ?_
    refine hu_takeB 19 [19, 20, 21, 22, 23] rfl (by kernel_rfl) (by kernel_rfl) (by kernel_rfl) (by kernel_rfl) (fun c a w v => hQp c a w _ v) (by rw [hnt]; rfl) (allIn (by repeat (first | exact trivial | refine ⟨rfl, ?_⟩))) (by first | exact Le.refl _ | assumption) (x := .v (.slice (some ⟨g3, 0, none⟩) m.done.length cd)) ((quiet_loadR (k := 1) (by rw [hty]; rfl) rfl (by simp [TK.agg]) rfl (by simp only []; omega)).cast (by exact encF_ld (j := 3) (by omega) rfl)) ?_
    refine st_ ?_
    refine hu_takeB 20 [20, 21, 22, 23] rfl (by kernel_rfl) (by kernel_rfl) (by kernel_rfl) (by kernel_rfl) (fun c a w v => hQp c a w _ v) (by rw [hnt]; rfl) (allIn (by repeat (first | exact trivial | refine ⟨rfl, ?_⟩))) (by first | exact Le.refl _ | assumption) (x := .v (.pointer (some ⟨g3, 0, none⟩))) ((quiet_index (by rw [hty]; rfl) (by rw [hty]; rfl) rfl rfl rfl (by omega) (by omega)).cast (by simp [SV.den])) ?_
    refine st_ ?_
    refine hu_takeB 21 [21, 22, 23] rfl (by kernel_rfl) (by kernel_rfl) (by kernel_rfl) (by kernel_rfl) (fun c a w v => hQp c a w _ v) (by rw [hnt]; rfl) (allIn (by repeat (first | exact trivial | refine ⟨rfl, ?_⟩))) (by first | exact Le.refl _ | assumption) (x := .a [.v (.int .i64 v.k), .v (.int .i64 v.n), .v slv]) ((quiet_loadR (k := 3) (by rw [hty]; rfl) rfl (by simp [TK.agg]) rfl (by simp only []; omega)).cast (by rw [Nat.zero_mul] at hxv; simp only [SV.den, dens]; rw [hxv]; rfl)) ?_
    refine st_ ?_
    refine hu_one 22 rfl (by kernel_rfl) ?_
    refine rn_ ?_; intros
    refine hs_ ?_
    refine hu_last 23 [] rfl (by kernel_rfl) rfl ?_
    refine go_appendS rW (l1 := m.vars) (l2 := [v]) (by rw [hnt]; rfl) (by rw [hty]; rfl) (by rw [hty]; rfl) (by decide) rfl rfl rfl rfl (rW_full x6) rfl (.inr (src_own 3 rfl rfl)) rfl (Rp.L_single ⟨slv, rfl, hrv, htv1⟩) (by omega) (by simp only []; omega) ?_
    intro G3 ad5 cap5 hle3 hcap5 hS5
    refine rn_ ?_; intros
    refine h_one 24 rfl (by kernel_rfl) ?_
    refine rn_ ?_; intros
    refine hs_ ?_
    refine h_one 25 rfl (by kernel_rfl) ?_
    refine rn_ ?_; intros
    refine hs_ ?_
    refine h_one 26 rfl (by kernel_rfl) ?_
    refine go_storeR (k := 1) (xs' := encF (⟨m.fn, m.nd, .slice ad5 (m.vars ++ [v]).length cap5, ⟨42, 3, .slice (some ⟨g3, 0, none⟩) m.done.length cd, m.done.length, xxs⟩⟩ :: r)) (by rw [hnt]; rfl) (by rw [hty]; rfl) rfl rfl rfl rfl rfl rfl (encF_lay (j := 2) (us := [.slice ad5 (m.vars ++ [v]).length cap5]) (by omega) rfl rfl) ?_
    refine rn_ ?_; intros
    refine hs_ ?_
    refine h_end (by kernel_rfl) ?_
    refine rn_ ?_; intros
    refine go_q (v := .pointer (some ⟨bL, oL + 1, none⟩)) (by rw [hnt]; rfl) ((quiet_index (by rw [hty]; rfl) (by rw [hty]; rfl) rfl rfl rfl (by omega) (by omega)).cast (by simp)) ?_
    refine rn_ ?_; intros
    refine go_q (v := .int .i64 k) (by rw [hnt]; rfl) ((quiet_load (by rw [hty]; rfl) rfl (by simp [TK.agg]) ((by simpa using hatL.mono hle3 : At G3 bL (oL + 1) [.int .i64 k])) rfl).cast (by rfl)) ?_
    refine rn_ ?_; intros
    refine go_storeR (k := 1) (xs' := encF (⟨m.fn, k, .slice ad5 (m.vars ++ [v]).length cap5, ⟨42, 3, .slice (some ⟨g3, 0, none⟩) m.done.length cd, m.done.length, xxs⟩⟩ :: r)) (by rw [hnt]; rfl) (by rw [hty]; rfl) rfl rfl rfl rfl rfl rfl (encF_lay (j := 1) (us := [.int .i64 k]) (by omega) rfl rfl) ?_
    refine rn_ ?_; intros
    refine go_storeR (k := 1) (xs' := encF (⟨m.fn, k, .slice ad5 (m.vars ++ [v]).length cap5, rw0⟩ :: r)) (by rw [hnt]; rfl) (by rw [hty]; rfl) rfl rfl rfl rfl rfl rfl (encF_lay (j := 3) (us := [.slice none 0 0]) (by omega) rfl rfl) ?_
    refine rn_ ?_; intros
    refine go_rownil 3 rfl ?_
    refine go_keep [0] [0, 1, 2, 3, 999] ?_
    refine st_ ?_
    exact ih q _ (by omega) ⟨⟨m.fn, k, m.vars ++ [v], []⟩ :: l, _, ⟨m.fn, k, .slice ad5 (m.vars ++ [v]).length cap5, rw0⟩ :: r, Z, G3, (hle.trans hle2).trans hle3, hd, ⟨_, _, rfl, ⟨rfl, rfl, x3, hk64, fun _ _ _ h => by injection h with _ q2 q3; rw [List.length_append] at q2; simp only [List.length_cons, List.length_nil] at q2; omega, hS5, rw0_ok _⟩, hr.mono hle3⟩, by simpa using hl256, rfl⟩
  · have hA := of_decide_eq_false hu.symm
    rw [if_neg hA] at hd
    clear hu
    refine rn_ ?_; intros
    refine cut_tailK 1 (fun s' => ∃ u, s' = ⟨[(0, .p 0 b 0), (2, .v (.pointer (some ⟨g, l.length * 4, none⟩))), (3, .p 1000 b4 0), (86, .b u)], [(0, b, .c 93 [.v (.pointer (some ⟨cb, 0, none⟩)), .v (.int .i64 s.st), .v (.int .i64 s.val.k), .v (.int .i64 s.val.n), .v vl, .v (.slice (some ⟨g, 0, none⟩) (r.length + 1) cap)]), (1, b1, .row (.slice (some ⟨g, 0, none⟩) (r.length + 1) cap) 90 4 (r.length + 1) (encF (⟨m.fn, m.nd, .slice av m.vars.length cv', ⟨42, 3, .slice ad m.done.length cd, m.done.length, xxs⟩⟩ :: r))), (2, b2, .z (ZR (r.map (·.done))) Z Z), (3, b3, .row (.slice ad m.done.length cd) 42 3 m.done.length xxs), (999, 0, .z (ZRest w0) Zr Zr), (1000, b4, .c 110 [.v (.int .i64 nd.op), .v (.int .i64 nd.n), .v (.slice asl nd.l.length csl)])], G2, []⟩ ∧ u = decide (nd.op = 5 ∧ m.done.length = 1)) ?_ ?_
    rotate_left
    · intro Kr hK
      simp only [List.take_succ_cons, List.take_zero, List.cons_append, List.nil_append]
      refine go_gsplit rfl rfl (fun h1 => ?_) (fun h1 => ?_) <;> (refine st_ ?_; (refine rn_ ?_; intros))
      · refine go_q (v := .slice ad m.done.length cd) (by rw [hnt]; rfl) ((quiet_loadR (k := 1) (by rw [hty]; rfl) rfl (by simp [TK.agg]) rfl (by simp only []; omega)).cast (by exact encF_ld (j := 3) (by omega) rfl)) ?_
        refine rn_ ?_; intros
        refine go_keep [0, 2, 3, 86] [0, 1, 2, 3, 999, 1000] ?_
        refine st_ ?_
        refine go_slot 86 (.b (m.done.length == 1)) rfl (by simp only [SV.den, beqI]) ?_
        exact hK _ ⟨_, rfl, by rw [show nd.op = 5 by simpa using h1, beqD]; simp⟩
      · refine go_keep [0, 2, 3, 86] [0, 1, 2, 3, 999, 1000] ?_
        refine st_ ?_
        refine go_slot 86 (.b false) rfl (by simp [SV.den]; try simpa using h1) ?_
        exact hK _ ⟨_, rfl, by simp [show ¬ nd.op = 5 by simpa using h1]⟩
    rintro s' ⟨u, rfl, hu⟩
    simp only [List.drop_succ_cons, List.drop_zero]
    cases u
    rotate_left
    · have hA := of_decide_eq_true hu.symm
      rw [if_pos hA] at hd
      obtain ⟨h5, h1⟩ := hA
      obtain ⟨v, t, hdn⟩ : ∃ v t, m.done = v :: t := by
        cases hq : m.done with
        | nil => rw [hq] at h1; cases h1
        | cons v t => exact ⟨v, t, rfl⟩
      rw [hdn] at hd
      simp only [] at hd
      obtain ⟨slv, hxv, hrv, htv1⟩ := rWL_get (i := 0) (v := v) d4 (by rw [hdn]; rfl)
      refine go_rowcases 3 rfl (fun _ h _ => by omega) ?_
      rintro g3 cap3 e3 hcap3 hlen3
      injection e3 with q1 q2 q3
      subst q1 q3
      refine rn_ ?_; intros
      refine go_q (v := .slice (some ⟨g3, 0, none⟩) m.done.length cd) (by rw [hnt]; rfl) ((quiet_loadR (k := 1) (by rw [hty]; rfl) rfl (by simp [TK.agg]) rfl (by simp only []; omega)).cast (by exact encF_ld (j := 3) (by omega) rfl)) ?_
      refine rn_ ?_; intros
      refine go_q (v := .pointer (some ⟨g3, 0, none⟩)) (by rw [hnt]; rfl) ((quiet_index (by rw [hty]; rfl) (by rw [hty]; rfl) rfl rfl rfl (by omega) (by omega)).cast (by simp)) ?_
      refine rn_ ?_; intros
      refine go_q (v := .agg #[.int .i64 v.k, .int .i64 v.n, slv]) (by rw [hnt]; rfl) ((quiet_loadR (k := 3) (by rw [hty]; rfl) rfl (by simp [TK.agg]) rfl (by simp only []; omega)).cast (by rw [Nat.zero_mul] at hxv; simp only []; rw [hxv]; rfl)) ?_
      refine rn_ ?_; intros
      refine go_call (by rw [hnt]; rfl) (by rw [hP]; kernel_rfl) rfl (hP ▸ truth_ok v slv G2 hrv) ?_
      rintro _ G3 (hle3 : Le G2 G3) rfl
      cases htr : trF v with
      | none =>
        rw [htr] at hd
        cases hd
        obtain ⟨e5, he5, heq⟩ := tr_none htr
        rw [heq]
        refine rn_ ?_; intros
        refine x_split rfl rfl rfl (fun h9 => ?_) (fun h9 => ?_) <;> (refine st_ ?_; (refine ru_ ?_; intros))
        rotate_left
        · exact absurd h9 (by simpa using he5)
        refine rn_ ?_; intros
        refine go_callW [0] (by rw [hnt]; rfl) (by rw [hP]; kernel_rfl) rfl rfl rfl (.inl (by rw [hmh]; simp)) (by rw [hP]; exact fail_ok b cb s.st s.val.k s.val.n vl _ _) ?_
        rintro v5 G5 ow5 (hle5 : Le _ G5) rfl
        simp only [setO, stk, fhO]
        refine rn_ ?_; intros
        refine go_rownil 1 rfl ?_
        refine go_znull 2 rfl ?_
        intro Z5
        refine go_rownil 3 rfl ?_
        refine st_ ?_
        have hleA : Le G G5 := ((hle.trans hle2).trans hle3).trans hle5
        refine x_ret0T rfl hQ hmh hb0 rfl (by first | (simp; done) | decide) rfl rfl (by rw [hrest]; rfl) (by first | exact Le.refl _ | assumption | exact hleA) rfl (by simp only [enumO]; exact (by repeat (first | exact plain_nil | refine plain_cons (fun _ h => h) ?_))) ?_
        intro _
        exact ⟨vl, .slice none 0 0, b1, b2, b3, [], Z5, VT.rep_mono hleA hv, htv, rfl, by simp, fun _ _ h => by simp at h, rfl⟩
      | some bb =>
        rw [htr] at hd
        rw [tr_some htr]
        simp only [] at hd
        cases hk2 : nd.l[2]? with
        | none => rw [hk2] at hd; cases hd
        | some k2 =>
        cases hk1 : nd.l[1]? with
        | none => rw [hk2, hk1] at hd; cases hd
        | some k1 =>
        rw [hk2, hk1] at hd
        simp only [] at hd
        obtain ⟨hki2, hk264, bL, oL, cL, eL, hatL2⟩ := rI_get hsl hk2
        injection eL with q1 q2 q3
        subst q1 q3
        obtain ⟨hki1, hk164, bL', oL', cL', eL', hatL1⟩ := rI_get hsl hk1
        cases eL'
        have hatL1 := hatL1.mono hle3
        have hatL2 := hatL2.mono hle3
        cases bb
        · simp only [Bool.false_eq_true, if_false] at hd
          refine rn_ ?_; intros
          (refine x_split rfl rfl rfl (fun hc => absurd hc (by first | decide +kernel | (simp; first | done | fail))) (fun _ => ?_); refine st_ ?_; (refine ru_ ?_; intros))
          refine rn_ ?_; intros
          refine go_q (v := .pointer (some ⟨bL, oL + 2, none⟩)) (by rw [hnt]; rfl) ((quiet_index (by rw [hty]; rfl) (by rw [hty]; rfl) rfl rfl rfl (by omega) (by omega)).cast (by simp)) ?_
          refine rn_ ?_; intros
          refine go_q (v := .int .i64 k2) (by rw [hnt]; rfl) ((quiet_load (by rw [hty]; rfl) rfl (by simp [TK.agg]) ((by simpa using hatL2 : At G3 bL (oL + 2) [.int .i64 k2])) rfl).cast (by rfl)) ?_
          refine rn_ ?_; intros
          refine go_storeR (k := 1) (xs' := encF (⟨m.fn, k2, .slice av m.vars.length cv', ⟨42, 3, .slice (some ⟨g3, 0, none⟩) m.done.length cd, m.done.length, xxs⟩⟩ :: r)) (by rw [hnt]; rfl) (by rw [hty]; rfl) rfl rfl rfl rfl rfl rfl (encF_lay (j := 1) (us := [.int .i64 k2]) (by omega) rfl rfl) ?_
          refine rn_ ?_; intros
          refine go_storeR (k := 1) (xs' := encF (⟨m.fn, k2, .slice av m.vars.length cv', rw0⟩ :: r)) (by rw [hnt]; rfl) (by rw [hty]; rfl) rfl rfl rfl rfl rfl rfl (encF_lay (j := 3) (us := [.slice none 0 0]) (by omega) rfl rfl) ?_
          refine rn_ ?_; intros
          (refine x_split rfl rfl rfl (fun hc => absurd hc (by first | decide +kernel | (simp; first | done | fail))) (fun _ => ?_); refine st_ ?_; (refine ru_ ?_; intros))
          refine rn_ ?_; intros
          refine go_rownil 3 rfl ?_
          refine go_keep [0] [0, 1, 2, 3, 999] ?_
          refine st_ ?_
          exact ih q _ (by omega) ⟨⟨m.fn, k2, m.vars, []⟩ :: l, _, ⟨m.fn, k2, .slice av m.vars.length cv', rw0⟩ :: r, Z, G3, (hle.trans hle2).trans hle3, hd, ⟨_, _, rfl, ⟨rfl, rfl, x3, hk264, x5, Rp.S_mono hle3 x6, rw0_ok _⟩, hr.mono hle3⟩, by simpa using hl256, rfl⟩
        · simp only [if_true] at hd
          refine rn_ ?_; intros
          (refine x_split rfl rfl rfl (fun hc => absurd hc (by first | decide +kernel | (simp; first | done | fail))) (fun _ => ?_); refine st_ ?_; (refine ru_ ?_; intros))
          refine rn_ ?_; intros
          refine go_q (v := .pointer (some ⟨bL, oL + 2, none⟩)) (by rw [hnt]; rfl) ((quiet_index (by rw [hty]; rfl) (by rw [hty]; rfl) rfl rfl rfl (by omega) (by omega)).cast (by simp)) ?_
          refine rn_ ?_; intros
          refine go_q (v := .int .i64 k2) (by rw [hnt]; rfl) ((quiet_load (by rw [hty]; rfl) rfl (by simp [TK.agg]) ((by simpa using hatL2 : At G3 bL (oL + 2) [.int .i64 k2])) rfl).cast (by rfl)) ?_
          refine rn_ ?_; intros
          refine go_storeR (k := 1) (xs' := encF (⟨m.fn, k2, .slice av m.vars.length cv', ⟨42, 3, .slice (some ⟨g3, 0, none⟩) m.done.length cd, m.done.length, xxs⟩⟩ :: r)) (by rw [hnt]; rfl) (by rw [hty]; rfl) rfl rfl rfl rfl rfl rfl (encF_lay (j := 1) (us := [.int .i64 k2]) (by omega) rfl rfl) ?_
          refine rn_ ?_; intros
          refine go_storeR (k := 1) (xs' := encF (⟨m.fn, k2, .slice av m.vars.length cv', rw0⟩ :: r)) (by rw [hnt]; rfl) (by rw [hty]; rfl) rfl rfl rfl rfl rfl rfl (encF_lay (j := 3) (us := [.slice none 0 0]) (by omega) rfl rfl) ?_
          refine rn_ ?_; intros
          (refine x_split rfl rfl rfl (fun _ => ?_) (fun hc => absurd hc (by first | decide +kernel | (simp; first | done | fail))); refine st_ ?_; (refine ru_ ?_; intros))
          refine rn_ ?_; intros
          refine go_q (v := .pointer (some ⟨bL, oL + 1, none⟩)) (by rw [hnt]; rfl) ((quiet_index (by rw [hty]; rfl) (by rw [hty]; rfl) rfl rfl rfl (by omega) (by omega)).cast (by simp)) ?_
          refine rn_ ?_; intros
          refine go_q (v := .int .i64 k1) (by rw [hnt]; rfl) ((quiet_load (by rw [hty]; rfl) rfl (by simp [TK.agg]) ((by simpa using hatL1 : At G3 bL (oL + 1) [.int .i64 k1])) rfl).cast (by rfl)) ?_
          refine rn_ ?_; intros
          refine go_storeR (k := 1) (xs' := encF (⟨m.fn, k1, .slice av m.vars.length cv', rw0⟩ :: r)) (by rw [hnt]; rfl) (by rw [hty]; rfl) rfl rfl rfl rfl rfl rfl (encF_lay (j := 1) (us := [.int .i64 k1]) (by omega) rfl rfl) ?_
          refine rn_ ?_; intros
          refine go_rownil 3 rfl ?_
          refine go_keep [0] [0, 1, 2, 3, 999] ?_
          refine st_ ?_
          exact ih q _ (by omega) ⟨⟨m.fn, k1, m.vars, []⟩ :: l, _, ⟨m.fn, k1, .slice av m.vars.length cv', rw0⟩ :: r, Z, G3, (hle.trans hle2).trans hle3, hd, ⟨_, _, rfl, ⟨rfl, rfl, x3, hk164, x5, Rp.S_mono hle3 x6, rw0_ok _⟩, hr.mono hle3⟩, by simpa using hl256, rfl⟩
    · have hB := of_decide_eq_false hu.symm
      rw [if_neg hB] at hd
      refine rn_ ?_; intros
      refine x_draw rfl (by rw [hP]; kernel_rfl) rfl (by kernel_rfl) ?_
      refine runq 400 hty hnt ?_; refine st_ ?_
      refine q_q (v := .slice ad m.done.length cd) (by rw [hnt]; rfl) ((quiet_loadR (k := 1) (by rw [hty]; rfl) rfl (by simp [TK.agg]) rfl (by simp only []; omega)).cast (by exact encF_ld (j := 3) (by omega) rfl)) ?_
      refine runq 400 hty hnt ?_; refine st_ ?_
      refine q_end ?_; refine rn_ ?_; intros
      refine x_split rfl rfl rfl (fun h9 => ?_) (fun h9 => ?_) <;> (refine st_ ?_; (refine ru_ ?_; intros))
      · have h9 : m.done.length = nd.l.length := by simp at h9; omega
        rw [if_pos h9] at hd
        refine rn_ ?_; intros
        refine go_pubL rW 3 rfl (by rw [hmh]; omega) rfl (by omega) d4 ?_
        intro G6 ad6 cap6 hle6 e6 hS6
        injection e6 with q1 q2 q3
        subst q1 q3
        refine go_nilrow 3 42 3 rfl (by rw [hmh]; omega) ?_
        refine st_ ?_
        refine go_callW [0, 1] (by rw [hnt]; rfl) (by rw [hP]; kernel_rfl) rfl rfl rfl (.inl (by rw [hmh]; simp)) (by rw [hP]; exact ready_ok b cb b1 g cap s.st s.val.k s.val.n vl m l ⟨m.fn, m.nd, .slice av m.vars.length cv', ⟨42, 3, .slice ad m.done.length cd, m.done.length, xxs⟩⟩ r nd _ (l.length * 4) o G6 (by rw [hrl]) hS6 (Rp.S_mono hle6 hsl) hd) ?_
        rintro v5 G5 ow5 (hle5 : Le G6 G5) (⟨ho2, rfl⟩ | ⟨rfl, rfl⟩)
        · simp only [setO, stk, fhO, frO, List.length_cons]
          refine rn_ ?_; intros
          have hleA : Le G G5 := ((hle.trans hle2).trans hle6).trans hle5
          have hleB := hle6.trans hle5
          refine x_ret0T rfl hQ hmh hb0 rfl (by first | (simp; done) | decide) rfl rfl (by rw [hrest]; rfl) (by first | exact Le.refl _ | assumption | exact hleA) rfl (by simp only [enumO]; exact (by repeat (first | exact plain_nil | refine plain_cons (fun _ h => h) ?_))) ?_
          intro _
          rw [ho2]
          exact ⟨vl, _, b1, b2, 0, ⟨m.fn, m.nd, .slice av m.vars.length cv', ⟨42, 3, .slice ad m.done.length cd, m.done.length, xxs⟩⟩ :: r, Z, VT.rep_mono hleA hv, htv, ⟨_, _, rfl, ⟨rfl, rfl, x3, x4, x5, Rp.S_mono hleB x6, ⟨rfl, rfl, rfl, Rp.L_mono hleB d4, d5, _, _, rfl, d7⟩⟩, hr.mono hleB⟩, hl256, fun _ _ h h' => by cases h; cases h'; exact Rp.S_mono hle5 hS6, rfl⟩
        · simp only [setO, stk, fhO, frO, List.length_cons]
          refine rn_ ?_; intros
          refine go_rownil 1 rfl ?_
          refine go_znull 2 rfl ?_
          intro Z5
          refine st_ ?_
          have hleA : Le G G5 := ((hle.trans hle2).trans hle6).trans hle5
          refine x_ret0T rfl hQ hmh hb0 rfl (by first | (simp; done) | decide) rfl rfl (by rw [hrest]; rfl) (by first | exact Le.refl _ | assumption | exact hleA) rfl (by simp only [enumO]; exact (by repeat (first | exact plain_nil | refine plain_cons (fun _ h => h) ?_))) ?_
          intro _
          exact ⟨vl, .slice none 0 0, b1, b2, 0, [], Z5, VT.rep_mono hleA hv, htv, rfl, by simp, fun _ _ h => by simp at h, rfl⟩
      · have h9 : ¬ m.done.length = nd.l.length := by simp at h9; omega
        rw [if_neg h9] at hd
        refine rn_ ?_; intros
        refine x_split rfl rfl rfl (fun h10 => ?_) (fun h10 => ?_) <;> (refine st_ ?_; (refine ru_ ?_; intros))
        · have hx9 : 256 ≤ l.length + 1 := by simp at h10; omega
          rw [if_pos hx9] at hd
          cases hd
          refine rn_ ?_; intros
          refine go_callW [0] (by rw [hnt]; rfl) (by rw [hP]; kernel_rfl) rfl rfl rfl (.inl (by rw [hmh]; simp)) (by rw [hP]; exact fail_ok b cb s.st s.val.k s.val.n vl _ _) ?_
          rintro v5 G5 ow5 (hle5 : Le _ G5) rfl
          simp only [setO, stk, fhO]
          refine rn_ ?_; intros
          refine go_rownil 1 rfl ?_
          refine go_znull 2 rfl ?_
          intro Z5
          refine go_rownil 3 rfl ?_
          refine st_ ?_
          have hleA : Le G G5 := (hle.trans hle2).trans hle5
          refine x_ret0T rfl hQ hmh hb0 rfl (by first | (simp; done) | decide) rfl rfl (by rw [hrest]; rfl) (by first | exact Le.refl _ | assumption | exact hleA) rfl (by simp only [enumO]; exact (by repeat (first | exact plain_nil | refine plain_cons (fun _ h => h) ?_))) ?_
          intro _
          exact ⟨vl, .slice none 0 0, b1, b2, b3, [], Z5, VT.rep_mono hleA hv, htv, rfl, by simp, fun _ _ h => by simp at h, rfl⟩
        have hx9 : ¬ 256 ≤ l.length + 1 := by simp at h10; omega
        rw [if_neg hx9] at hd
        cases hk : nd.l[m.done.length]? with
        | none => rw [hk] at hd; cases hd
        | some k =>
        rw [hk] at hd
        simp only [] at hd
        obtain ⟨hki, hk64, bL, oL, cL, eL, hatL⟩ := rI_get hsl hk
        injection eL with q1 q2 q3
        subst q1 q3
        refine rn_ ?_; intros
        refine x_heldP [(0, b, .c 93 [.v (.pointer (some ⟨cb, 0, none⟩)), .v (.int .i64 s.st), .v (.int .i64 s.val.k), .v (.int .i64 s.val.n), .v vl, .v (.slice (some ⟨g, 0, none⟩) (r.length + 1) cap)]), (1, b1, .row (.slice (some ⟨g, 0, none⟩) (r.length + 1) cap) 90 4 (r.length + 1) (encF (⟨m.fn, m.nd, .slice av m.vars.length cv', ⟨42, 3, .slice ad m.done.length cd, m.done.length, xxs⟩⟩ :: r))), (1000, b4, .c 110 [.v (.int .i64 nd.op), .v (.int .i64 nd.n), .v (.slice (some ⟨bL, oL, none⟩) nd.l.length csl)])] 24 rfl (by rw [hP]; kernel_rfl) rfl rfl rfl ?_; refine st_ ?_
        refine hu_take0 0 rfl (by kernel_rfl) (by kernel_rfl) (by kernel_rfl) (by decide) (fun c a w v => hQp c a w _ v) (by rw [hnt]; rfl) (allIn (by repeat (first | exact trivial | refine ⟨rfl, ?_⟩))) (by first | exact Le.refl _ | assumption) (quiet_op (by rw [hty]; first | rfl | (refine st_ ?_; rfl))) ?_; refine st_ ?_
        refine hu_take0 1 rfl (by kernel_rfl) (by kernel_rfl) (by kernel_rfl) (by decide) (fun c a w v => hQp c a w _ v) (by rw [hnt]; rfl) (allIn (by repeat (first | exact trivial | refine ⟨rfl, ?_⟩))) (by first | exact Le.refl _ | assumption) (quiet_op (by rw [hty]; first | rfl | (refine st_ ?_; rfl))) ?_; refine st_ ?_
        refine hu_take0 2 rfl (by kernel_rfl) (by kernel_rfl) (by kernel_rfl) (by decide) (fun c a w v => hQp c a w _ v) (by rw [hnt]; rfl) (allIn (by repeat (first | exact trivial | refine ⟨rfl, ?_⟩))) (by first | exact Le.refl _ | assumption) (quiet_op (by rw [hty]; first | rfl | (refine st_ ?_; rfl))) ?_; refine st_ ?_
        refine hu_take0 3 rfl (by kernel_rfl) (by kernel_rfl) (by kernel_rfl) (by decide) (fun c a w v => hQp c a w _ v) (by rw [hnt]; rfl) (allIn (by repeat (first | exact trivial | refine ⟨rfl, ?_⟩))) (by first | exact Le.refl _ | assumption) (quiet_op (by rw [hty]; first | rfl | (refine st_ ?_; rfl))) ?_; refine st_ ?_
        refine hu_takeB 4 [4, 24] rfl (by kernel_rfl) (by kernel_rfl) (by kernel_rfl) (by kernel_rfl) (fun c a w v => hQp c a w _ v) (by rw [hnt]; rfl) (allIn (by repeat (first | exact trivial | refine ⟨rfl, ?_⟩))) (by first | exact Le.refl _ | assumption) (quiet_op (by rw [hty]; first | rfl | (refine st_ ?_; rfl))) ?_; refine st_ ?_
        refine hu_take0 5 rfl (by kernel_rfl) (by kernel_rfl) (by kernel_rfl) (by decide) (fun c a w v => hQp c a w _ v) (by rw [hnt]; rfl) (allIn (by repeat (first | exact trivial | refine ⟨rfl, ?_⟩))) (by first | exact Le.refl _ | assumption) (quiet_op (by rw [hty]; first | rfl | (refine st_ ?_; rfl))) ?_; refine st_ ?_
        refine hu_take0 6 rfl (by kernel_rfl) (by kernel_rfl) (by kernel_rfl) (by decide) (fun c a w v => hQp c a w _ v) (by rw [hnt]; rfl) (allIn (by repeat (first | exact trivial | refine ⟨rfl, ?_⟩))) (by first | exact Le.refl _ | assumption) (quiet_op (by rw [hty]; first | rfl | (refine st_ ?_; rfl))) ?_; refine st_ ?_
        refine hu_take0 7 rfl (by kernel_rfl) (by kernel_rfl) (by kernel_rfl) (by decide) (fun c a w v => hQp c a w _ v) (by rw [hnt]; rfl) (allIn (by repeat (first | exact trivial | refine ⟨rfl, ?_⟩))) (by first | exact Le.refl _ | assumption) (quiet_op (by rw [hty]; first | rfl | (refine st_ ?_; rfl))) ?_; refine st_ ?_
        refine hu_takeB 8 [8, 22, 23, 24] rfl (by kernel_rfl) (by kernel_rfl) (by kernel_rfl) (by kernel_rfl) (fun c a w v => hQp c a w _ v) (by rw [hnt]; rfl) (allIn (by repeat (first | exact trivial | refine ⟨rfl, ?_⟩))) (by first | exact Le.refl _ | assumption) (x := .v (.int .i64 m.fn)) ((quiet_loadR (k := 1) (by rw [hty]; rfl) rfl (by simp [TK.agg]) rfl (by simp only []; omega)).cast (by exact encF_ld (j := 0) (by omega) rfl)) ?_
        refine st_ ?_
        refine hu_take0 9 rfl (by kernel_rfl) (by kernel_rfl) (by kernel_rfl) (by decide) (fun c a w v => hQp c a w _ v) (by rw [hnt]; rfl) (allIn (by repeat (first | exact trivial | refine ⟨rfl, ?_⟩))) (by first | exact Le.refl _ | assumption) (quiet_op (by rw [hty]; first | rfl | (refine st_ ?_; rfl))) ?_; refine st_ ?_
        refine hu_takeB 10 [10, 16, 17, 22, 23, 24] rfl (by kernel_rfl) (by kernel_rfl) (by kernel_rfl) (by kernel_rfl) (fun c a w v => hQp c a w _ v) (by rw [hnt]; rfl) (allIn (by repeat (first | exact trivial | refine ⟨rfl, ?_⟩))) (by first | exact Le.refl _ | assumption) (quiet_op (by rw [hty]; first | rfl | (refine st_ ?_; rfl))) ?_; refine st_ ?_
        refine hu_take0 11 rfl (by kernel_rfl) (by kernel_rfl) (by kernel_rfl) (by decide) (fun c a w v => hQp c a w _ v) (by rw [hnt]; rfl) (allIn (by repeat (first | exact trivial | refine ⟨rfl, ?_⟩))) (by first | exact Le.refl _ | assumption) (quiet_op (by rw [hty]; first | rfl | (refine st_ ?_; rfl))) ?_; refine st_ ?_
        refine hu_take0 12 rfl (by kernel_rfl) (by kernel_rfl) (by kernel_rfl) (by decide) (fun c a w v => hQp c a w _ v) (by rw [hnt]; rfl) (allIn (by repeat (first | exact trivial | refine ⟨rfl, ?_⟩))) (by first | exact Le.refl _ | assumption) (quiet_op (by rw [hty]; first | rfl | (refine st_ ?_; rfl))) ?_; refine st_ ?_
        refine hu_take0 13 rfl (by kernel_rfl) (by kernel_rfl) (by kernel_rfl) (by decide) (fun c a w v => hQp c a w _ v) (by rw [hnt]; rfl) (allIn (by repeat (first | exact trivial | refine ⟨rfl, ?_⟩))) (by first | exact Le.refl _ | assumption) (quiet_op (by rw [hty]; first | rfl | (refine st_ ?_; rfl))) ?_; refine st_ ?_
        refine hu_takeB 14 [14, 15, 16, 17, 22, 23, 24] rfl (by kernel_rfl) (by kernel_rfl) (by kernel_rfl) (by kernel_rfl) (fun c a w v => hQp c a w _ v) (by rw [hnt]; rfl) (allIn (by repeat (first | exact trivial | refine ⟨rfl, ?_⟩))) (by first | exact Le.refl _ | assumption) (x := .v (.slice ad m.done.length cd)) ((quiet_loadR (k := 1) (by rw [hty]; rfl) rfl (by simp [TK.agg]) rfl (by simp only []; omega)).cast (by exact encF_ld (j := 3) (by omega) rfl)) ?_
        refine st_ ?_
        refine hu_take0 15 rfl (by kernel_rfl) (by kernel_rfl) (by kernel_rfl) (by decide) (fun c a w v => hQp c a w _ v) (by rw [hnt]; rfl) (allIn (by repeat (first | exact trivial | refine ⟨rfl, ?_⟩))) (by first | exact Le.refl _ | assumption) (quiet_op (by rw [hty]; first | rfl | (refine st_ ?_; rfl))) ?_; refine st_ ?_
        refine hu_takeB 16 [16, 17, 22, 23, 24] rfl (by kernel_rfl) (by kernel_rfl) (by kernel_rfl) (by kernel_rfl) (fun c a w v => hQp c a w _ v) (by rw [hnt]; rfl) (allIn (by repeat (first | exact trivial | refine ⟨rfl, ?_⟩))) (by first | exact Le.refl _ | assumption) (x := .v (.pointer (some ⟨bL, oL + m.done.length * 1, none⟩))) ((quiet_index (by rw [hty]; rfl) (by rw [hty]; rfl) rfl rfl rfl (by omega) (by omega)).cast (by rfl)) ?_
        refine st_ ?_
        refine hu_takeB 17 [17, 22, 23, 24] rfl (by kernel_rfl) (by kernel_rfl) (by kernel_rfl) (by kernel_rfl) (fun c a w v => hQp c a w _ v) (by rw [hnt]; rfl) (allIn (by repeat (first | exact trivial | refine ⟨rfl, ?_⟩))) (by first | exact Le.refl _ | assumption) (x := .v (.int .i64 k)) ((quiet_load (by rw [hty]; rfl) rfl (by simp [TK.agg]) hatL rfl).cast (by rfl)) ?_
        refine st_ ?_
        refine hu_take0 18 rfl (by kernel_rfl) (by kernel_rfl) (by kernel_rfl) (by decide) (fun c a w v => hQp c a w _ v) (by rw [hnt]; rfl) (allIn (by repeat (first | exact trivial | refine ⟨rfl, ?_⟩))) (by first | exact Le.refl _ | assumption) (quiet_op (by rw [hty]; first | rfl | (refine st_ ?_; rfl))) ?_; refine st_ ?_
        refine hu_take0 19 rfl (by kernel_rfl) (by kernel_rfl) (by kernel_rfl) (by decide) (fun c a w v => hQp c a w _ v) (by rw [hnt]; rfl) (allIn (by repeat (first | exact trivial | refine ⟨rfl, ?_⟩))) (by first | exact Le.refl _ | assumption) (quiet_op (by rw [hty]; first | rfl | (refine st_ ?_; rfl))) ?_; refine st_ ?_
        refine hu_take0 20 rfl (by kernel_rfl) (by kernel_rfl) (by kernel_rfl) (by decide) (fun c a w v => hQp c a w _ v) (by rw [hnt]; rfl) (allIn (by repeat (first | exact trivial | refine ⟨rfl, ?_⟩))) (by first | exact Le.refl _ | assumption) (quiet_op (by rw [hty]; first | rfl | (refine st_ ?_; rfl))) ?_; refine st_ ?_
        refine hu_takeB 21 [21, 22, 23, 24] rfl (by kernel_rfl) (by kernel_rfl) (by kernel_rfl) (by kernel_rfl) (fun c a w v => hQp c a w _ v) (by rw [hnt]; rfl) (allIn (by repeat (first | exact trivial | refine ⟨rfl, ?_⟩))) (by first | exact Le.refl _ | assumption) (x := .v (.slice av m.vars.length cv')) ((quiet_loadR (k := 1) (by rw [hty]; rfl) rfl (by simp [TK.agg]) rfl (by simp only []; omega)).cast (by exact encF_ld (j := 2) (by omega) rfl)) ?_
        refine st_ ?_
        refine hu_take0 22 rfl (by kernel_rfl) (by kernel_rfl) (by kernel_rfl) (by decide) (fun c a w v => hQp c a w _ v) (by rw [hnt]; rfl) (allIn (by repeat (first | exact trivial | refine ⟨rfl, ?_⟩))) (by first | exact Le.refl _ | assumption) (quiet_op (by rw [hty]; first | rfl | (refine st_ ?_; rfl))) ?_; refine st_ ?_
        refine hu_one 23 rfl (by kernel_rfl) ?_
        refine rn_ ?_; intros
        refine hs_ ?_
        refine hu_last 24 [] rfl (by kernel_rfl) rfl ?_
        refine go_appendL 1 (by rw [hnt]; rfl) (by rw [hty]; rfl) (by rw [hty]; rfl) (by decide) rfl rfl rfl rfl (src_own 4 rfl rfl) rfl (by simp [dens, SV.den, Value.oneCell']) (by omega) (by simp only []; omega) ?_
        intro v6
        refine go_rowS 1 rfl ?_
        rintro ad6 cap6 rfl
        refine rn_ ?_; intros
        refine h_one 25 rfl (by kernel_rfl) ?_
        refine rn_ ?_; intros
        refine hs_ ?_
        refine h_one 26 rfl (by kernel_rfl) ?_
        refine rn_ ?_; intros
        refine hs_ ?_
        refine h_one 27 rfl (by kernel_rfl) ?_
        refine rn_ ?_; intros
        refine hs_ ?_
        refine h_end (by kernel_rfl) ?_
        refine rn_ ?_; intros
        refine go_zpush 2 3 rfl rfl (by decide) (.inl ⟨by rw [hmh]; omega, by rw [hmh]; omega⟩) ?_
        intro Z6
        refine go_keep [0] [0, 1, 2, 3, 999] ?_
        refine st_ ?_
        exact ih q _ (by omega) ⟨⟨m.fn, k, m.vars, []⟩ :: m :: l, .slice ad6 (r.length + 1 + 1) cap6, ⟨m.fn, k, .slice av m.vars.length cv', rw0⟩ :: ⟨m.fn, m.nd, .slice av m.vars.length cv', ⟨42, 3, .slice ad m.done.length cd, m.done.length, xxs⟩⟩ :: r, Z6, G2, hle.trans hle2, hd, ⟨_, _, rfl, ⟨rfl, rfl, x3, hk64, x5, x6, rw0_ok _⟩, _, _, rfl, ⟨rfl, rfl, x3, x4, x5, x6, ⟨rfl, rfl, rfl, d4, d5, _, _, rfl, d7⟩⟩, hr⟩, by simp only [List.length_cons]; omega, by simp [encF, cellsF, dens, SV.den, rw0]⟩
end Go.Proofs.YtpppkednpamhbaaGreat
namespace Go.Proofs.YtpppkednpamhbaaGreat
set_option linter.unusedSimpArgs false
set_option linter.unusedVariables false
open Go.Sx
set_option maxHeartbeats 16000000
set_option maxRecDepth 20000
theorem wrapI (n : Int) : isI64 (IntKind.i64.wrap n) := by
  simp only [IntKind.wrap, IntKind.signed, IntKind.bits, isI64]
  simp
  omega
theorem kOf_64 (op : Int) : isI64 (kOf op) := by
  unfold kOf isI64
  repeat' split
  all_goals omega
theorem two_some {l : List VT} {g : VT → VT → Option VT} {o : Option VT} (h : two l g = some o) : ∃ a b t, l = a :: b :: t ∧ g a b = o := by
  cases l with
  | nil => cases h
  | cons a l =>
    cases l with
    | nil => cases h
    | cons b t => injection h with h; exact ⟨a, b, t, rfl, h⟩
theorem numd_cases (a b : VT) (g : Int → Int → Int) (hg : ∀ m n, isI64 (g m n)) : ∃ kk nn ee, numd a b g = .tuple #[.agg #[.int .i64 kk, .int .i64 nn, .slice none 0 0], .int .i64 ee] ∧ ((numF a b g = none ∧ ee ≠ 0) ∨ (numF a b g = some (.mk kk nn []) ∧ ee = 0 ∧ ∀ G, (VT.mk kk nn []).rep G (.slice none 0 0))) := by
  unfold numd numF
  cases h1 : vld a && vld b with
  | false => exact ⟨0, 0, 40, rfl, .inl ⟨rfl, by decide⟩⟩
  | true =>
    cases h2 : a.k == 2 && b.k == 2 with
    | false => exact ⟨0, 0, 41, rfl, .inl ⟨rfl, by decide⟩⟩
    | true => exact ⟨2, _, 0, rfl, .inr ⟨rfl, rfl, fun G => ⟨by simp [isI64], hg _ _, by simp, none, 0, rfl, .inl rfl⟩⟩⟩
theorem vld_tsz {x : VT} (h : vld x = true) : tsz x ≤ 1000 := by
  simp only [vld, sml, Bool.and_eq_true, decide_eq_true_eq] at h
  have := cnt_eq x 0 (by omega)
  have h1 := h.1
  rw [this] at h1
  omega
theorem one_some {l : List VT} {g : VT → Option VT} {o : Option VT} (h : one l g = some o) : ∃ a t, l = a :: t ∧ g a = o := by
  cases l with
  | nil => cases h
  | cons a l => injection h with h; exact ⟨a, l, rfl, h⟩
theorem half_tsz {a : VT} {i : Nat} (h : tsz a ≤ 1000) : tsz (a.l.getD i a) ≤ 1000 := by
  rw [List.getD_eq_getElem?_getD]
  cases hq : a.l[i]? with
  | none => exact h
  | some x =>
    have h1 := tszL_mem (List.mem_of_getElem? hq)
    have h2 := tsz_l a
    simp only [Option.getD_some]
    omega
theorem eqd_cases (a b : VT) : ∃ kk nn ee, (if vld a && vld b then Value.tuple #[.agg #[.int .i64 2, .int .i64 (if veq a b then 1 else 0), .slice none 0 0], .int .i64 0] else .tuple #[zeroV, .int .i64 40]) = .tuple #[.agg #[.int .i64 kk, .int .i64 nn, .slice none 0 0], .int .i64 ee] ∧ ((eqF a b = none ∧ ee ≠ 0) ∨ (eqF a b = some (.mk kk nn []) ∧ ee = 0 ∧ ∀ G, (VT.mk kk nn []).rep G (.slice none 0 0))) := by
  unfold eqF
  cases h1 : vld a && vld b with
  | false => exact ⟨0, 0, 40, rfl, .inl ⟨rfl, by decide⟩⟩
  | true => exact ⟨2, _, 0, rfl, .inr ⟨rfl, rfl, fun G => ⟨by simp [isI64], by split <;> simp [isI64], by simp, none, 0, rfl, .inl rfl⟩⟩⟩
theorem rW_repM {G : Hp} {k n : Int} {l : List VT} {sl : Value} (hk : isI64 k) (hn : isI64 n) (h : rW.S G l sl) : (VT.mk k n l).rep G sl := by
  obtain ⟨h1, ad, cap, rfl, h | ⟨b, off, cs, h2, h3, h4⟩⟩ := h
  · exact ⟨hk, hn, h1, ad, cap, rfl, .inl h⟩
  · exact ⟨hk, hn, h1, ad, cap, rfl, .inr ⟨b, off, cs, h2, h3, rW_repV h4⟩⟩
def resPost (o : Option VT) (v : Value) (G : Hp) : Prop := match o with
  | none => ∃ k n e, v = .tuple #[.agg #[.int .i64 k, .int .i64 n, .slice none 0 0], .int .i64 e] ∧ e ≠ 0
  | some y => ∃ sl, v = .tuple #[.agg #[.int .i64 y.k, .int .i64 y.n, sl], .int .i64 0] ∧ y.rep G sl ∧ tsz y ≤ 1000
theorem result_ok (b1 g cap : Nat) (m : Fm) (x : Fw) (r : List Fw) (nd : Nd) (sl : Value) (o : Option VT) (off : Nat) (G : Hp) (hoff : off = r.length * 4) (hxv : rW.S G m.vars x.vars) (hxd : rW.S G m.done x.done.v) (hsl : rI.S G nd.l sl) (hn64 : isI64 nd.n) (ho : resF m nd = some o) :
    PureW Tryz.prog 55 [.pointer (some ⟨g, off, none⟩), .agg #[.int .i64 nd.op, .int .i64 nd.n, sl]] G [frO b1 (.slice (some ⟨g, 0, none⟩) (r.length + 1) cap) (x :: r)] (fun v G' ow => ow = [frO b1 (.slice (some ⟨g, 0, none⟩) (r.length + 1) cap) (x :: r)] ∧ resPost o v G') := by
  subst hoff
  obtain ⟨asl, csl, rfl⟩ := Rp.S_slice hsl
  obtain ⟨xfn, xnd, xvars, xe, xsz, xdv, xn, xxs⟩ := x
  simp only at hxv hxd
  obtain ⟨av, cv', rfl⟩ := Rp.S_slice hxv
  obtain ⟨ad, cd, rfl⟩ := Rp.S_slice hxd
  have hlen := encF_len (⟨xfn, xnd, .slice av m.vars.length cv', ⟨xe, xsz, .slice ad m.done.length cd, xn, xxs⟩⟩ :: r)
  simp only [List.length_cons] at hlen
  generalize hX : (⟨xfn, xnd, .slice av m.vars.length cv', ⟨xe, xsz, .slice ad m.done.length cd, xn, xxs⟩⟩ : Fw) = x at hlen
  have hcl : cellsF x = [.int .i64 xfn, .int .i64 xnd, .slice av m.vars.length cv', .slice ad m.done.length cd] := by rw [← hX]; rfl
  unfold resF at ho
  refine enterW ty tyok Tryz.func55 rfl Tryz.ntmps55 [.v (.pointer (some ⟨g, r.length * 4, none⟩)), .a [.v (.int .i64 nd.op), .v (.int .i64 nd.n), .v (.slice asl nd.l.length csl)]] (by simp) (mh := 1) rfl ?_
  intro C hP hQ hnt hty hmb hmh hro hG0 hmub; have hQp := qp_body hQ; refine st_ ?_
  simp only [enumO, frO, List.length_cons]
  refine rn_ ?_; intros
  rename_i b3 b4
  refine x_split rfl rfl rfl (fun h3 => ?_) (fun h3 => ?_) <;> (refine st_ ?_; (refine ru_ ?_; intros))
  · have h3 : nd.op = 3 := by simpa using h3
    rw [if_pos h3] at ho
    split at ho
    rotate_left
    · cases ho
    rename_i hn0
    cases hv : m.vars[nd.n.toNat]? with
    | none => rw [hv] at ho; cases ho
    | some y =>
    rw [hv] at ho
    simp only [Option.map_some, Option.some.injEq] at ho
    subst ho
    obtain ⟨hi, hy⟩ := List.getElem?_eq_some_iff.1 hv
    obtain ⟨bV, oV, sv, rfl, hatV, hrV, htV⟩ := rW_at hxv hi
    rw [hy] at hatV hrV htV
    obtain ⟨a9, c9, rfl⟩ := VT.rep_slice hrV
    refine rn_ ?_; intros
    refine x_heldP [(0, b1, .row (.slice (some ⟨g, 0, none⟩) (r.length + 1) cap) 90 4 (r.length + 1) (encF (x :: r))), (1, b3, .c 110 [.v (.int .i64 nd.op), .v (.int .i64 nd.n), .v (.slice asl nd.l.length csl)])] 8 rfl (by rw [hP]; kernel_rfl) rfl rfl rfl ?_; refine st_ ?_
    refine hu_take0 0 rfl (by kernel_rfl) (by kernel_rfl) (by kernel_rfl) (by decide) (fun c a w v => hQp c a w _ v) (by rw [hnt]; rfl) (allIn (by repeat (first | exact trivial | refine ⟨rfl, ?_⟩))) (by first | exact Le.refl _ | assumption) (quiet_op (by rw [hty]; first | rfl | (refine st_ ?_; rfl))) ?_; refine st_ ?_
    refine hu_take0 1 rfl (by kernel_rfl) (by kernel_rfl) (by kernel_rfl) (by decide) (fun c a w v => hQp c a w _ v) (by rw [hnt]; rfl) (allIn (by repeat (first | exact trivial | refine ⟨rfl, ?_⟩))) (by first | exact Le.refl _ | assumption) (quiet_op (by rw [hty]; first | rfl | (refine st_ ?_; rfl))) ?_; refine st_ ?_
    refine hu_take0 2 rfl (by kernel_rfl) (by kernel_rfl) (by kernel_rfl) (by decide) (fun c a w v => hQp c a w _ v) (by rw [hnt]; rfl) (allIn (by repeat (first | exact trivial | refine ⟨rfl, ?_⟩))) (by first | exact Le.refl _ | assumption) (quiet_op (by rw [hty]; first | rfl | (refine st_ ?_; rfl))) ?_; refine st_ ?_
    refine hu_takeB 3 [3, 8] rfl (by kernel_rfl) (by kernel_rfl) (by kernel_rfl) (by kernel_rfl) (fun c a w v => hQp c a w _ v) (by rw [hnt]; rfl) (allIn (by repeat (first | exact trivial | refine ⟨rfl, ?_⟩))) (by first | exact Le.refl _ | assumption) (x := .v (.slice (some ⟨bV, oV, none⟩) m.vars.length cv')) ((quiet_loadR (k := 0) (by rw [hty]; rfl) rfl (by simp [TK.agg]) rfl (by simp only []; omega)).cast (by exact encF_ld (j := 2) (by omega) (by rw [hcl]; rfl))) ?_
    refine st_ ?_
    refine hu_take0 4 rfl (by kernel_rfl) (by kernel_rfl) (by kernel_rfl) (by decide) (fun c a w v => hQp c a w _ v) (by rw [hnt]; rfl) (allIn (by repeat (first | exact trivial | refine ⟨rfl, ?_⟩))) (by first | exact Le.refl _ | assumption) (quiet_op (by rw [hty]; first | rfl | (refine st_ ?_; rfl))) ?_; refine st_ ?_
    refine hu_takeB 5 [5, 8] rfl (by kernel_rfl) (by kernel_rfl) (by kernel_rfl) (by kernel_rfl) (fun c a w v => hQp c a w _ v) (by rw [hnt]; rfl) (allIn (by repeat (first | exact trivial | refine ⟨rfl, ?_⟩))) (by first | exact Le.refl _ | assumption) (quiet_op (by rw [hty]; first | rfl | (refine st_ ?_; rfl))) ?_; refine st_ ?_
    refine hu_takeB 6 [6, 8] rfl (by kernel_rfl) (by kernel_rfl) (by kernel_rfl) (by kernel_rfl) (fun c a w v => hQp c a w _ v) (by rw [hnt]; rfl) (allIn (by repeat (first | exact trivial | refine ⟨rfl, ?_⟩))) (by first | exact Le.refl _ | assumption) (x := .v (.pointer (some ⟨bV, oV + nd.n.toNat * 3, none⟩))) ((quiet_index (by rw [hty]; rfl) (by rw [hty]; rfl) rfl rfl rfl (by omega) (by omega)).cast (by rfl)) ?_
    refine st_ ?_
    refine hu_takeB 7 [7, 8] rfl (by kernel_rfl) (by kernel_rfl) (by kernel_rfl) (by kernel_rfl) (fun c a w v => hQp c a w _ v) (by rw [hnt]; rfl) (allIn (by repeat (first | exact trivial | refine ⟨rfl, ?_⟩))) (by first | exact Le.refl _ | assumption) (x := .a [.v (.int .i64 y.k), .v (.int .i64 y.n), .v (.slice a9 y.l.length c9)]) ((quiet_load (by rw [hty]; rfl) rfl (by simp [TK.agg]) hatV rfl).cast (by rfl)) ?_
    refine st_ ?_
    refine hu_last 8 [] rfl (by kernel_rfl) rfl ?_
    refine rn_ ?_; intros
    refine h_one 9 rfl (by kernel_rfl) ?_
    refine rn_ ?_; intros
    refine hs_ ?_
    refine h_end (by kernel_rfl) ?_
    refine rn_ ?_; intros
    refine x_retW rfl hQ hmb hmh hG0 hmub rfl rfl (by rw [hty]; simp only [so, sq, zy, zz, tyE, SO', SQ', opQ, opStore, opAlloc, ev, putS, dOk, cv, SV.cs, SV.one, SV.bool?, eqB, Value.oneCell', ldOwn, binInt, binConst, binBool, binStr, isC, TK.agg, rv, rv1, ldV, resOne, resV, Nat.reduceAdd, Nat.reduceMul, Nat.reduceSub, Nat.reduceLT, Nat.reduceLeDiff, Nat.reduceEqDiff, Nat.reduceBEq, reduceIte, reduceCtorEq, eq_self]; try rfl) rfl rfl (by simp only [enumO]; exact (by repeat (first | exact plain_nil | refine plain_cons (fun _ h => h) ?_))) ?_; simp only [SV.den, resV, dens]
    exact ⟨rfl, _, rfl, hrV, htV⟩
  refine rn_ ?_; intros
  refine x_split rfl rfl rfl (fun h6 => ?_) (fun h6 => ?_) <;> (refine st_ ?_; (refine ru_ ?_; intros))
  · have hop : nd.op = 6 := by simpa using h6
    simp only [hop, Int.reduceEq, if_false, if_true] at ho
    obtain ⟨a, b', t, hdn, ho⟩ := two_some ho
    subst ho
    have hl2 : 2 ≤ m.done.length := by rw [hdn]; simp
    obtain ⟨bD, oD, s0, rfl, hat0, hr0, ht0⟩ := rW_at hxd (i := 0) (by omega)
    obtain ⟨bD', oD', s1, e1, hat1, hr1, ht1⟩ := rW_at hxd (i := 1) (by omega)
    cases e1
    have e0 : m.done[0]'(by omega) = a := by simp [hdn]
    have e1 : m.done[1]'(by omega) = b' := by simp [hdn]
    rw [e0] at hat0 hr0 ht0
    rw [e1] at hat1 hr1 ht1
    obtain ⟨a8, c8, rfl⟩ := VT.rep_slice hr0
    obtain ⟨a9, c9, rfl⟩ := VT.rep_slice hr1
    refine rn_ ?_; intros
    refine x_heldP [(0, b1, .row (.slice (some ⟨g, 0, none⟩) (r.length + 1) cap) 90 4 (r.length + 1) (encF (x :: r)))] 15 rfl (by rw [hP]; kernel_rfl) rfl rfl rfl ?_; refine st_ ?_
    refine hu_take0 0 rfl (by kernel_rfl) (by kernel_rfl) (by kernel_rfl) (by decide) (fun c a w v => hQp c a w _ v) (by rw [hnt]; rfl) (allIn (by repeat (first | exact trivial | refine ⟨rfl, ?_⟩))) (by first | exact Le.refl _ | assumption) (quiet_op (by rw [hty]; first | rfl | (refine st_ ?_; rfl))) ?_; refine st_ ?_
    refine hu_take0 1 rfl (by kernel_rfl) (by kernel_rfl) (by kernel_rfl) (by decide) (fun c a w v => hQp c a w _ v) (by rw [hnt]; rfl) (allIn (by repeat (first | exact trivial | refine ⟨rfl, ?_⟩))) (by first | exact Le.refl _ | assumption) (quiet_op (by rw [hty]; first | rfl | (refine st_ ?_; rfl))) ?_; refine st_ ?_
    refine hu_take0 2 rfl (by kernel_rfl) (by kernel_rfl) (by kernel_rfl) (by decide) (fun c a w v => hQp c a w _ v) (by rw [hnt]; rfl) (allIn (by repeat (first | exact trivial | refine ⟨rfl, ?_⟩))) (by first | exact Le.refl _ | assumption) (quiet_op (by rw [hty]; first | rfl | (refine st_ ?_; rfl))) ?_; refine st_ ?_
    refine hu_takeB 3 [3, 15] rfl (by kernel_rfl) (by kernel_rfl) (by kernel_rfl) (by kernel_rfl) (fun c a w v => hQp c a w _ v) (by rw [hnt]; rfl) (allIn (by repeat (first | exact trivial | refine ⟨rfl, ?_⟩))) (by first | exact Le.refl _ | assumption) (x := .v (.slice (some ⟨bD, oD, none⟩) m.done.length cd)) ((quiet_loadR (k := 0) (by rw [hty]; rfl) rfl (by simp [TK.agg]) rfl (by simp only []; omega)).cast (by exact encF_ld (j := 3) (by omega) (by rw [hcl]; rfl))) ?_
    refine st_ ?_
    refine hu_takeB 4 [4, 15] rfl (by kernel_rfl) (by kernel_rfl) (by kernel_rfl) (by kernel_rfl) (fun c a w v => hQp c a w _ v) (by rw [hnt]; rfl) (allIn (by repeat (first | exact trivial | refine ⟨rfl, ?_⟩))) (by first | exact Le.refl _ | assumption) (x := .v (.pointer (some ⟨bD, oD + 0 * 3, none⟩))) ((quiet_index (by rw [hty]; rfl) (by rw [hty]; rfl) rfl rfl rfl (by omega) (by omega)).cast (by rfl)) ?_
    refine st_ ?_
    refine hu_takeB 5 [5, 15] rfl (by kernel_rfl) (by kernel_rfl) (by kernel_rfl) (by kernel_rfl) (fun c a w v => hQp c a w _ v) (by rw [hnt]; rfl) (allIn (by repeat (first | exact trivial | refine ⟨rfl, ?_⟩))) (by first | exact Le.refl _ | assumption) (x := .a [.v (.int .i64 a.k), .v (.int .i64 a.n), .v (.slice a8 a.l.length c8)]) ((quiet_load (by rw [hty]; rfl) rfl (by simp [TK.agg]) hat0 rfl).cast (by rfl)) ?_
    refine st_ ?_
    refine hu_take0 6 rfl (by kernel_rfl) (by kernel_rfl) (by kernel_rfl) (by decide) (fun c a w v => hQp c a w _ v) (by rw [hnt]; rfl) (allIn (by repeat (first | exact trivial | refine ⟨rfl, ?_⟩))) (by first | exact Le.refl _ | assumption) (quiet_op (by rw [hty]; first | rfl | (refine st_ ?_; rfl))) ?_; refine st_ ?_
    refine hu_take0 7 rfl (by kernel_rfl) (by kernel_rfl) (by kernel_rfl) (by decide) (fun c a w v => hQp c a w _ v) (by rw [hnt]; rfl) (allIn (by repeat (first | exact trivial | refine ⟨rfl, ?_⟩))) (by first | exact Le.refl _ | assumption) (quiet_op (by rw [hty]; first | rfl | (refine st_ ?_; rfl))) ?_; refine st_ ?_
    refine hu_take0 8 rfl (by kernel_rfl) (by kernel_rfl) (by kernel_rfl) (by decide) (fun c a w v => hQp c a w _ v) (by rw [hnt]; rfl) (allIn (by repeat (first | exact trivial | refine ⟨rfl, ?_⟩))) (by first | exact Le.refl _ | assumption) (quiet_op (by rw [hty]; first | rfl | (refine st_ ?_; rfl))) ?_; refine st_ ?_
    refine hu_takeB 9 [9, 15] rfl (by kernel_rfl) (by kernel_rfl) (by kernel_rfl) (by kernel_rfl) (fun c a w v => hQp c a w _ v) (by rw [hnt]; rfl) (allIn (by repeat (first | exact trivial | refine ⟨rfl, ?_⟩))) (by first | exact Le.refl _ | assumption) (x := .v (.slice (some ⟨bD, oD, none⟩) m.done.length cd)) ((quiet_loadR (k := 0) (by rw [hty]; rfl) rfl (by simp [TK.agg]) rfl (by simp only []; omega)).cast (by exact encF_ld (j := 3) (by omega) (by rw [hcl]; rfl))) ?_
    refine st_ ?_
    refine hu_takeB 10 [10, 15] rfl (by kernel_rfl) (by kernel_rfl) (by kernel_rfl) (by kernel_rfl) (fun c a w v => hQp c a w _ v) (by rw [hnt]; rfl) (allIn (by repeat (first | exact trivial | refine ⟨rfl, ?_⟩))) (by first | exact Le.refl _ | assumption) (x := .v (.pointer (some ⟨bD, oD + 1 * 3, none⟩))) ((quiet_index (by rw [hty]; rfl) (by rw [hty]; rfl) rfl rfl rfl (by omega) (by omega)).cast (by rfl)) ?_
    refine st_ ?_
    refine hu_takeB 11 [11, 15] rfl (by kernel_rfl) (by kernel_rfl) (by kernel_rfl) (by kernel_rfl) (fun c a w v => hQp c a w _ v) (by rw [hnt]; rfl) (allIn (by repeat (first | exact trivial | refine ⟨rfl, ?_⟩))) (by first | exact Le.refl _ | assumption) (x := .a [.v (.int .i64 b'.k), .v (.int .i64 b'.n), .v (.slice a9 b'.l.length c9)]) ((quiet_load (by rw [hty]; rfl) rfl (by simp [TK.agg]) hat1 rfl).cast (by rfl)) ?_
    refine st_ ?_
    refine hu_one 12 rfl (by kernel_rfl) ?_
    refine go_call (by rw [hnt]; rfl) (by rw [hP]; kernel_rfl) rfl (hP ▸ add_ok a b' _ _ G hr0 hr1) ?_
    rintro _ G3 (hle3 : Le G G3) rfl
    obtain ⟨kk, nn, ee, hnum, hcs⟩ := numd_cases a b' (fun m n => IntKind.i64.wrap (m + n)) (fun _ _ => wrapI _)
    rw [hnum]
    refine rn_ ?_; intros
    refine hs_ ?_
    refine hu_take0 13 rfl (by kernel_rfl) (by kernel_rfl) (by kernel_rfl) (by decide) (fun c a w v => hQp c a w _ v) (by rw [hnt]; rfl) (allIn (by repeat (first | exact trivial | refine ⟨rfl, ?_⟩))) (by first | exact Le.refl _ | assumption) (quiet_op (by rw [hty]; first | rfl | (refine st_ ?_; rfl))) ?_; refine st_ ?_
    refine hu_take0 14 rfl (by kernel_rfl) (by kernel_rfl) (by kernel_rfl) (by decide) (fun c a w v => hQp c a w _ v) (by rw [hnt]; rfl) (allIn (by repeat (first | exact trivial | refine ⟨rfl, ?_⟩))) (by first | exact Le.refl _ | assumption) (quiet_op (by rw [hty]; first | rfl | (refine st_ ?_; rfl))) ?_; refine st_ ?_
    refine hu_last 15 [] rfl (by kernel_rfl) rfl ?_
    refine rn_ ?_; intros
    refine h_one 16 rfl (by kernel_rfl) ?_
    refine rn_ ?_; intros
    refine hs_ ?_
    refine h_end (by kernel_rfl) ?_
    refine rn_ ?_; intros
    refine x_retW rfl hQ hmb hmh hG0 hmub rfl rfl (by rw [hty]; simp only [so, sq, zy, zz, tyE, SO', SQ', opQ, opStore, opAlloc, ev, putS, dOk, cv, SV.cs, SV.one, SV.bool?, eqB, Value.oneCell', ldOwn, binInt, binConst, binBool, binStr, isC, TK.agg, rv, rv1, ldV, resOne, resV, Nat.reduceAdd, Nat.reduceMul, Nat.reduceSub, Nat.reduceLT, Nat.reduceLeDiff, Nat.reduceEqDiff, Nat.reduceBEq, reduceIte, reduceCtorEq, eq_self]; try rfl) rfl rfl (by simp only [enumO]; exact (by repeat (first | exact plain_nil | refine plain_cons (fun _ h => h) ?_))) ?_; simp only [SV.den, resV, dens]
    refine ⟨rfl, ?_⟩
    rcases hcs with ⟨hn, he⟩ | ⟨hn, he, hr⟩
    · rw [hn]; exact ⟨_, _, _, rfl, he⟩
    · rw [hn]; subst he; exact ⟨_, rfl, hr G3, by simp [tsz, tszL]⟩
  refine rn_ ?_; intros
  refine x_split rfl rfl rfl (fun h7 => ?_) (fun h7 => ?_) <;> (refine st_ ?_; (refine ru_ ?_; intros))
  · have hop : nd.op = 7 := by simpa using h7
    simp only [hop, Int.reduceEq, if_false, if_true] at ho
    obtain ⟨a, b', t, hdn, ho⟩ := two_some ho
    subst ho
    have hl2 : 2 ≤ m.done.length := by rw [hdn]; simp
    obtain ⟨bD, oD, s0, rfl, hat0, hr0, ht0⟩ := rW_at hxd (i := 0) (by omega)
    obtain ⟨bD', oD', s1, e1, hat1, hr1, ht1⟩ := rW_at hxd (i := 1) (by omega)
    cases e1
    have e0 : m.done[0]'(by omega) = a := by simp [hdn]
    have e1 : m.done[1]'(by omega) = b' := by simp [hdn]
    rw [e0] at hat0 hr0 ht0
    rw [e1] at hat1 hr1 ht1
    obtain ⟨a8, c8, rfl⟩ := VT.rep_slice hr0
    obtain ⟨a9, c9, rfl⟩ := VT.rep_slice hr1
    refine rn_ ?_; intros
    refine x_heldP [(0, b1, .row (.slice (some ⟨g, 0, none⟩) (r.length + 1) cap) 90 4 (r.length + 1) (encF (x :: r)))] 15 rfl (by rw [hP]; kernel_rfl) rfl rfl rfl ?_; refine st_ ?_
    refine hu_take0 0 rfl (by kernel_rfl) (by kernel_rfl) (by kernel_rfl) (by decide) (fun c a w v => hQp c a w _ v) (by rw [hnt]; rfl) (allIn (by repeat (first | exact trivial | refine ⟨rfl, ?_⟩))) (by first | exact Le.refl _ | assumption) (quiet_op (by rw [hty]; first | rfl | (refine st_ ?_; rfl))) ?_; refine st_ ?_
    refine hu_take0 1 rfl (by kernel_rfl) (by kernel_rfl) (by kernel_rfl) (by decide) (fun c a w v => hQp c a w _ v) (by rw [hnt]; rfl) (allIn (by repeat (first | exact trivial | refine ⟨rfl, ?_⟩))) (by first | exact Le.refl _ | assumption) (quiet_op (by rw [hty]; first | rfl | (refine st_ ?_; rfl))) ?_; refine st_ ?_
    refine hu_take0 2 rfl (by kernel_rfl) (by kernel_rfl) (by kernel_rfl) (by decide) (fun c a w v => hQp c a w _ v) (by rw [hnt]; rfl) (allIn (by repeat (first | exact trivial | refine ⟨rfl, ?_⟩))) (by first | exact Le.refl _ | assumption) (quiet_op (by rw [hty]; first | rfl | (refine st_ ?_; rfl))) ?_; refine st_ ?_
    refine hu_takeB 3 [3, 15] rfl (by kernel_rfl) (by kernel_rfl) (by kernel_rfl) (by kernel_rfl) (fun c a w v => hQp c a w _ v) (by rw [hnt]; rfl) (allIn (by repeat (first | exact trivial | refine ⟨rfl, ?_⟩))) (by first | exact Le.refl _ | assumption) (x := .v (.slice (some ⟨bD, oD, none⟩) m.done.length cd)) ((quiet_loadR (k := 0) (by rw [hty]; rfl) rfl (by simp [TK.agg]) rfl (by simp only []; omega)).cast (by exact encF_ld (j := 3) (by omega) (by rw [hcl]; rfl))) ?_
    refine st_ ?_
    refine hu_takeB 4 [4, 15] rfl (by kernel_rfl) (by kernel_rfl) (by kernel_rfl) (by kernel_rfl) (fun c a w v => hQp c a w _ v) (by rw [hnt]; rfl) (allIn (by repeat (first | exact trivial | refine ⟨rfl, ?_⟩))) (by first | exact Le.refl _ | assumption) (x := .v (.pointer (some ⟨bD, oD + 0 * 3, none⟩))) ((quiet_index (by rw [hty]; rfl) (by rw [hty]; rfl) rfl rfl rfl (by omega) (by omega)).cast (by rfl)) ?_
    refine st_ ?_
    refine hu_takeB 5 [5, 15] rfl (by kernel_rfl) (by kernel_rfl) (by kernel_rfl) (by kernel_rfl) (fun c a w v => hQp c a w _ v) (by rw [hnt]; rfl) (allIn (by repeat (first | exact trivial | refine ⟨rfl, ?_⟩))) (by first | exact Le.refl _ | assumption) (x := .a [.v (.int .i64 a.k), .v (.int .i64 a.n), .v (.slice a8 a.l.length c8)]) ((quiet_load (by rw [hty]; rfl) rfl (by simp [TK.agg]) hat0 rfl).cast (by rfl)) ?_
    refine st_ ?_
    refine hu_take0 6 rfl (by kernel_rfl) (by kernel_rfl) (by kernel_rfl) (by decide) (fun c a w v => hQp c a w _ v) (by rw [hnt]; rfl) (allIn (by repeat (first | exact trivial | refine ⟨rfl, ?_⟩))) (by first | exact Le.refl _ | assumption) (quiet_op (by rw [hty]; first | rfl | (refine st_ ?_; rfl))) ?_; refine st_ ?_
    refine hu_take0 7 rfl (by kernel_rfl) (by kernel_rfl) (by kernel_rfl) (by decide) (fun c a w v => hQp c a w _ v) (by rw [hnt]; rfl) (allIn (by repeat (first | exact trivial | refine ⟨rfl, ?_⟩))) (by first | exact Le.refl _ | assumption) (quiet_op (by rw [hty]; first | rfl | (refine st_ ?_; rfl))) ?_; refine st_ ?_
    refine hu_take0 8 rfl (by kernel_rfl) (by kernel_rfl) (by kernel_rfl) (by decide) (fun c a w v => hQp c a w _ v) (by rw [hnt]; rfl) (allIn (by repeat (first | exact trivial | refine ⟨rfl, ?_⟩))) (by first | exact Le.refl _ | assumption) (quiet_op (by rw [hty]; first | rfl | (refine st_ ?_; rfl))) ?_; refine st_ ?_
    refine hu_takeB 9 [9, 15] rfl (by kernel_rfl) (by kernel_rfl) (by kernel_rfl) (by kernel_rfl) (fun c a w v => hQp c a w _ v) (by rw [hnt]; rfl) (allIn (by repeat (first | exact trivial | refine ⟨rfl, ?_⟩))) (by first | exact Le.refl _ | assumption) (x := .v (.slice (some ⟨bD, oD, none⟩) m.done.length cd)) ((quiet_loadR (k := 0) (by rw [hty]; rfl) rfl (by simp [TK.agg]) rfl (by simp only []; omega)).cast (by exact encF_ld (j := 3) (by omega) (by rw [hcl]; rfl))) ?_
    refine st_ ?_
    refine hu_takeB 10 [10, 15] rfl (by kernel_rfl) (by kernel_rfl) (by kernel_rfl) (by kernel_rfl) (fun c a w v => hQp c a w _ v) (by rw [hnt]; rfl) (allIn (by repeat (first | exact trivial | refine ⟨rfl, ?_⟩))) (by first | exact Le.refl _ | assumption) (x := .v (.pointer (some ⟨bD, oD + 1 * 3, none⟩))) ((quiet_index (by rw [hty]; rfl) (by rw [hty]; rfl) rfl rfl rfl (by omega) (by omega)).cast (by rfl)) ?_
    refine st_ ?_
    refine hu_takeB 11 [11, 15] rfl (by kernel_rfl) (by kernel_rfl) (by kernel_rfl) (by kernel_rfl) (fun c a w v => hQp c a w _ v) (by rw [hnt]; rfl) (allIn (by repeat (first | exact trivial | refine ⟨rfl, ?_⟩))) (by first | exact Le.refl _ | assumption) (x := .a [.v (.int .i64 b'.k), .v (.int .i64 b'.n), .v (.slice a9 b'.l.length c9)]) ((quiet_load (by rw [hty]; rfl) rfl (by simp [TK.agg]) hat1 rfl).cast (by rfl)) ?_
    refine st_ ?_
    refine hu_one 12 rfl (by kernel_rfl) ?_
    refine go_call (by rw [hnt]; rfl) (by rw [hP]; kernel_rfl) rfl (hP ▸ sub_ok a b' _ _ G hr0 hr1) ?_
    rintro _ G3 (hle3 : Le G G3) rfl
    obtain ⟨kk, nn, ee, hnum, hcs⟩ := numd_cases a b' (fun m n => IntKind.i64.wrap (m - n)) (fun _ _ => wrapI _)
    rw [hnum]
    refine rn_ ?_; intros
    refine hs_ ?_
    refine hu_take0 13 rfl (by kernel_rfl) (by kernel_rfl) (by kernel_rfl) (by decide) (fun c a w v => hQp c a w _ v) (by rw [hnt]; rfl) (allIn (by repeat (first | exact trivial | refine ⟨rfl, ?_⟩))) (by first | exact Le.refl _ | assumption) (quiet_op (by rw [hty]; first | rfl | (refine st_ ?_; rfl))) ?_; refine st_ ?_
    refine hu_take0 14 rfl (by kernel_rfl) (by kernel_rfl) (by kernel_rfl) (by decide) (fun c a w v => hQp c a w _ v) (by rw [hnt]; rfl) (allIn (by repeat (first | exact trivial | refine ⟨rfl, ?_⟩))) (by first | exact Le.refl _ | assumption) (quiet_op (by rw [hty]; first | rfl | (refine st_ ?_; rfl))) ?_; refine st_ ?_
    refine hu_last 15 [] rfl (by kernel_rfl) rfl ?_
    refine rn_ ?_; intros
    refine h_one 16 rfl (by kernel_rfl) ?_
    refine rn_ ?_; intros
    refine hs_ ?_
    refine h_end (by kernel_rfl) ?_
    refine rn_ ?_; intros
    refine x_retW rfl hQ hmb hmh hG0 hmub rfl rfl (by rw [hty]; simp only [so, sq, zy, zz, tyE, SO', SQ', opQ, opStore, opAlloc, ev, putS, dOk, cv, SV.cs, SV.one, SV.bool?, eqB, Value.oneCell', ldOwn, binInt, binConst, binBool, binStr, isC, TK.agg, rv, rv1, ldV, resOne, resV, Nat.reduceAdd, Nat.reduceMul, Nat.reduceSub, Nat.reduceLT, Nat.reduceLeDiff, Nat.reduceEqDiff, Nat.reduceBEq, reduceIte, reduceCtorEq, eq_self]; try rfl) rfl rfl (by simp only [enumO]; exact (by repeat (first | exact plain_nil | refine plain_cons (fun _ h => h) ?_))) ?_; simp only [SV.den, resV, dens]
    refine ⟨rfl, ?_⟩
    rcases hcs with ⟨hn, he⟩ | ⟨hn, he, hr⟩
    · rw [hn]; exact ⟨_, _, _, rfl, he⟩
    · rw [hn]; subst he; exact ⟨_, rfl, hr G3, by simp [tsz, tszL]⟩
  refine rn_ ?_; intros
  refine x_split rfl rfl rfl (fun h8 => ?_) (fun h8 => ?_) <;> (refine st_ ?_; (refine ru_ ?_; intros))
  · have hop : nd.op = 8 := by simpa using h8
    simp only [hop, Int.reduceEq, if_false, if_true] at ho
    obtain ⟨a, b', t, hdn, ho⟩ := two_some ho
    subst ho
    have hl2 : 2 ≤ m.done.length := by rw [hdn]; simp
    obtain ⟨bD, oD, s0, rfl, hat0, hr0, ht0⟩ := rW_at hxd (i := 0) (by omega)
    obtain ⟨bD', oD', s1, e1, hat1, hr1, ht1⟩ := rW_at hxd (i := 1) (by omega)
    cases e1
    have e0 : m.done[0]'(by omega) = a := by simp [hdn]
    have e1 : m.done[1]'(by omega) = b' := by simp [hdn]
    rw [e0] at hat0 hr0 ht0
    rw [e1] at hat1 hr1 ht1
    obtain ⟨a8, c8, rfl⟩ := VT.rep_slice hr0
    obtain ⟨a9, c9, rfl⟩ := VT.rep_slice hr1
    refine rn_ ?_; intros
    refine x_heldP [(0, b1, .row (.slice (some ⟨g, 0, none⟩) (r.length + 1) cap) 90 4 (r.length + 1) (encF (x :: r)))] 15 rfl (by rw [hP]; kernel_rfl) rfl rfl rfl ?_; refine st_ ?_
    refine hu_take0 0 rfl (by kernel_rfl) (by kernel_rfl) (by kernel_rfl) (by decide) (fun c a w v => hQp c a w _ v) (by rw [hnt]; rfl) (allIn (by repeat (first | exact trivial | refine ⟨rfl, ?_⟩))) (by first | exact Le.refl _ | assumption) (quiet_op (by rw [hty]; first | rfl | (refine st_ ?_; rfl))) ?_; refine st_ ?_
    refine hu_take0 1 rfl (by kernel_rfl) (by kernel_rfl) (by kernel_rfl) (by decide) (fun c a w v => hQp c a w _ v) (by rw [hnt]; rfl) (allIn (by repeat (first | exact trivial | refine ⟨rfl, ?_⟩))) (by first | exact Le.refl _ | assumption) (quiet_op (by rw [hty]; first | rfl | (refine st_ ?_; rfl))) ?_; refine st_ ?_
    refine hu_take0 2 rfl (by kernel_rfl) (by kernel_rfl) (by kernel_rfl) (by decide) (fun c a w v => hQp c a w _ v) (by rw [hnt]; rfl) (allIn (by repeat (first | exact trivial | refine ⟨rfl, ?_⟩))) (by first | exact Le.refl _ | assumption) (quiet_op (by rw [hty]; first | rfl | (refine st_ ?_; rfl))) ?_; refine st_ ?_
    refine hu_takeB 3 [3, 15] rfl (by kernel_rfl) (by kernel_rfl) (by kernel_rfl) (by kernel_rfl) (fun c a w v => hQp c a w _ v) (by rw [hnt]; rfl) (allIn (by repeat (first | exact trivial | refine ⟨rfl, ?_⟩))) (by first | exact Le.refl _ | assumption) (x := .v (.slice (some ⟨bD, oD, none⟩) m.done.length cd)) ((quiet_loadR (k := 0) (by rw [hty]; rfl) rfl (by simp [TK.agg]) rfl (by simp only []; omega)).cast (by exact encF_ld (j := 3) (by omega) (by rw [hcl]; rfl))) ?_
    refine st_ ?_
    refine hu_takeB 4 [4, 15] rfl (by kernel_rfl) (by kernel_rfl) (by kernel_rfl) (by kernel_rfl) (fun c a w v => hQp c a w _ v) (by rw [hnt]; rfl) (allIn (by repeat (first | exact trivial | refine ⟨rfl, ?_⟩))) (by first | exact Le.refl _ | assumption) (x := .v (.pointer (some ⟨bD, oD + 0 * 3, none⟩))) ((quiet_index (by rw [hty]; rfl) (by rw [hty]; rfl) rfl rfl rfl (by omega) (by omega)).cast (by rfl)) ?_
    refine st_ ?_
    refine hu_takeB 5 [5, 15] rfl (by kernel_rfl) (by kernel_rfl) (by kernel_rfl) (by kernel_rfl) (fun c a w v => hQp c a w _ v) (by rw [hnt]; rfl) (allIn (by repeat (first | exact trivial | refine ⟨rfl, ?_⟩))) (by first | exact Le.refl _ | assumption) (x := .a [.v (.int .i64 a.k), .v (.int .i64 a.n), .v (.slice a8 a.l.length c8)]) ((quiet_load (by rw [hty]; rfl) rfl (by simp [TK.agg]) hat0 rfl).cast (by rfl)) ?_
    refine st_ ?_
    refine hu_take0 6 rfl (by kernel_rfl) (by kernel_rfl) (by kernel_rfl) (by decide) (fun c a w v => hQp c a w _ v) (by rw [hnt]; rfl) (allIn (by repeat (first | exact trivial | refine ⟨rfl, ?_⟩))) (by first | exact Le.refl _ | assumption) (quiet_op (by rw [hty]; first | rfl | (refine st_ ?_; rfl))) ?_; refine st_ ?_
    refine hu_take0 7 rfl (by kernel_rfl) (by kernel_rfl) (by kernel_rfl) (by decide) (fun c a w v => hQp c a w _ v) (by rw [hnt]; rfl) (allIn (by repeat (first | exact trivial | refine ⟨rfl, ?_⟩))) (by first | exact Le.refl _ | assumption) (quiet_op (by rw [hty]; first | rfl | (refine st_ ?_; rfl))) ?_; refine st_ ?_
    refine hu_take0 8 rfl (by kernel_rfl) (by kernel_rfl) (by kernel_rfl) (by decide) (fun c a w v => hQp c a w _ v) (by rw [hnt]; rfl) (allIn (by repeat (first | exact trivial | refine ⟨rfl, ?_⟩))) (by first | exact Le.refl _ | assumption) (quiet_op (by rw [hty]; first | rfl | (refine st_ ?_; rfl))) ?_; refine st_ ?_
    refine hu_takeB 9 [9, 15] rfl (by kernel_rfl) (by kernel_rfl) (by kernel_rfl) (by kernel_rfl) (fun c a w v => hQp c a w _ v) (by rw [hnt]; rfl) (allIn (by repeat (first | exact trivial | refine ⟨rfl, ?_⟩))) (by first | exact Le.refl _ | assumption) (x := .v (.slice (some ⟨bD, oD, none⟩) m.done.length cd)) ((quiet_loadR (k := 0) (by rw [hty]; rfl) rfl (by simp [TK.agg]) rfl (by simp only []; omega)).cast (by exact encF_ld (j := 3) (by omega) (by rw [hcl]; rfl))) ?_
    refine st_ ?_
    refine hu_takeB 10 [10, 15] rfl (by kernel_rfl) (by kernel_rfl) (by kernel_rfl) (by kernel_rfl) (fun c a w v => hQp c a w _ v) (by rw [hnt]; rfl) (allIn (by repeat (first | exact trivial | refine ⟨rfl, ?_⟩))) (by first | exact Le.refl _ | assumption) (x := .v (.pointer (some ⟨bD, oD + 1 * 3, none⟩))) ((quiet_index (by rw [hty]; rfl) (by rw [hty]; rfl) rfl rfl rfl (by omega) (by omega)).cast (by rfl)) ?_
    refine st_ ?_
    refine hu_takeB 11 [11, 15] rfl (by kernel_rfl) (by kernel_rfl) (by kernel_rfl) (by kernel_rfl) (fun c a w v => hQp c a w _ v) (by rw [hnt]; rfl) (allIn (by repeat (first | exact trivial | refine ⟨rfl, ?_⟩))) (by first | exact Le.refl _ | assumption) (x := .a [.v (.int .i64 b'.k), .v (.int .i64 b'.n), .v (.slice a9 b'.l.length c9)]) ((quiet_load (by rw [hty]; rfl) rfl (by simp [TK.agg]) hat1 rfl).cast (by rfl)) ?_
    refine st_ ?_
    refine hu_one 12 rfl (by kernel_rfl) ?_
    refine go_call (by rw [hnt]; rfl) (by rw [hP]; kernel_rfl) rfl (hP ▸ eq_ok a b' _ _ G hr0 hr1) ?_
    rintro _ G3 (hle3 : Le G G3) rfl
    obtain ⟨kk, nn, ee, hnum, hcs⟩ := eqd_cases a b'
    rw [hnum]
    refine rn_ ?_; intros
    refine hs_ ?_
    refine hu_take0 13 rfl (by kernel_rfl) (by kernel_rfl) (by kernel_rfl) (by decide) (fun c a w v => hQp c a w _ v) (by rw [hnt]; rfl) (allIn (by repeat (first | exact trivial | refine ⟨rfl, ?_⟩))) (by first | exact Le.refl _ | assumption) (quiet_op (by rw [hty]; first | rfl | (refine st_ ?_; rfl))) ?_; refine st_ ?_
    refine hu_take0 14 rfl (by kernel_rfl) (by kernel_rfl) (by kernel_rfl) (by decide) (fun c a w v => hQp c a w _ v) (by rw [hnt]; rfl) (allIn (by repeat (first | exact trivial | refine ⟨rfl, ?_⟩))) (by first | exact Le.refl _ | assumption) (quiet_op (by rw [hty]; first | rfl | (refine st_ ?_; rfl))) ?_; refine st_ ?_
    refine hu_last 15 [] rfl (by kernel_rfl) rfl ?_
    refine rn_ ?_; intros
    refine h_one 16 rfl (by kernel_rfl) ?_
    refine rn_ ?_; intros
    refine hs_ ?_
    refine h_end (by kernel_rfl) ?_
    refine rn_ ?_; intros
    refine x_retW rfl hQ hmb hmh hG0 hmub rfl rfl (by rw [hty]; simp only [so, sq, zy, zz, tyE, SO', SQ', opQ, opStore, opAlloc, ev, putS, dOk, cv, SV.cs, SV.one, SV.bool?, eqB, Value.oneCell', ldOwn, binInt, binConst, binBool, binStr, isC, TK.agg, rv, rv1, ldV, resOne, resV, Nat.reduceAdd, Nat.reduceMul, Nat.reduceSub, Nat.reduceLT, Nat.reduceLeDiff, Nat.reduceEqDiff, Nat.reduceBEq, reduceIte, reduceCtorEq, eq_self]; try rfl) rfl rfl (by simp only [enumO]; exact (by repeat (first | exact plain_nil | refine plain_cons (fun _ h => h) ?_))) ?_; simp only [SV.den, resV, dens]
    refine ⟨rfl, ?_⟩
    rcases hcs with ⟨hn, he⟩ | ⟨hn, he, hr⟩
    · rw [hn]; exact ⟨_, _, _, rfl, he⟩
    · rw [hn]; subst he; exact ⟨_, rfl, hr G3, by simp [tsz, tszL]⟩
  refine rn_ ?_; intros
  refine x_split rfl rfl rfl (fun h9 => ?_) (fun h9 => ?_) <;> (refine st_ ?_; (refine ru_ ?_; intros))
  · have hop : nd.op = 9 := by simpa using h9
    simp only [hop, Int.reduceEq, if_false, if_true] at ho
    obtain ⟨a, b', t, hdn, ho⟩ := two_some ho
    subst ho
    have hl2 : 2 ≤ m.done.length := by rw [hdn]; simp
    obtain ⟨bD, oD, s0, rfl, hat0, hr0, ht0⟩ := rW_at hxd (i := 0) (by omega)
    obtain ⟨bD', oD', s1, e1, hat1, hr1, ht1⟩ := rW_at hxd (i := 1) (by omega)
    cases e1
    have e0 : m.done[0]'(by omega) = a := by simp [hdn]
    have e1 : m.done[1]'(by omega) = b' := by simp [hdn]
    rw [e0] at hat0 hr0 ht0
    rw [e1] at hat1 hr1 ht1
    obtain ⟨a8, c8, rfl⟩ := VT.rep_slice hr0
    obtain ⟨a9, c9, rfl⟩ := VT.rep_slice hr1
    refine rn_ ?_; intros
    refine x_heldP [(0, b1, .row (.slice (some ⟨g, 0, none⟩) (r.length + 1) cap) 90 4 (r.length + 1) (encF (x :: r)))] 15 rfl (by rw [hP]; kernel_rfl) rfl rfl rfl ?_; refine st_ ?_
    refine hu_take0 0 rfl (by kernel_rfl) (by kernel_rfl) (by kernel_rfl) (by decide) (fun c a w v => hQp c a w _ v) (by rw [hnt]; rfl) (allIn (by repeat (first | exact trivial | refine ⟨rfl, ?_⟩))) (by first | exact Le.refl _ | assumption) (quiet_op (by rw [hty]; first | rfl | (refine st_ ?_; rfl))) ?_; refine st_ ?_
    refine hu_take0 1 rfl (by kernel_rfl) (by kernel_rfl) (by kernel_rfl) (by decide) (fun c a w v => hQp c a w _ v) (by rw [hnt]; rfl) (allIn (by repeat (first | exact trivial | refine ⟨rfl, ?_⟩))) (by first | exact Le.refl _ | assumption) (quiet_op (by rw [hty]; first | rfl | (refine st_ ?_; rfl))) ?_; refine st_ ?_
    refine hu_take0 2 rfl (by kernel_rfl) (by kernel_rfl) (by kernel_rfl) (by decide) (fun c a w v => hQp c a w _ v) (by rw [hnt]; rfl) (allIn (by repeat (first | exact trivial | refine ⟨rfl, ?_⟩))) (by first | exact Le.refl _ | assumption) (quiet_op (by rw [hty]; first | rfl | (refine st_ ?_; rfl))) ?_; refine st_ ?_
    refine hu_takeB 3 [3, 15] rfl (by kernel_rfl) (by kernel_rfl) (by kernel_rfl) (by kernel_rfl) (fun c a w v => hQp c a w _ v) (by rw [hnt]; rfl) (allIn (by repeat (first | exact trivial | refine ⟨rfl, ?_⟩))) (by first | exact Le.refl _ | assumption) (x := .v (.slice (some ⟨bD, oD, none⟩) m.done.length cd)) ((quiet_loadR (k := 0) (by rw [hty]; rfl) rfl (by simp [TK.agg]) rfl (by simp only []; omega)).cast (by exact encF_ld (j := 3) (by omega) (by rw [hcl]; rfl))) ?_
    refine st_ ?_
    refine hu_takeB 4 [4, 15] rfl (by kernel_rfl) (by kernel_rfl) (by kernel_rfl) (by kernel_rfl) (fun c a w v => hQp c a w _ v) (by rw [hnt]; rfl) (allIn (by repeat (first | exact trivial | refine ⟨rfl, ?_⟩))) (by first | exact Le.refl _ | assumption) (x := .v (.pointer (some ⟨bD, oD + 0 * 3, none⟩))) ((quiet_index (by rw [hty]; rfl) (by rw [hty]; rfl) rfl rfl rfl (by omega) (by omega)).cast (by rfl)) ?_
    refine st_ ?_
    refine hu_takeB 5 [5, 15] rfl (by kernel_rfl) (by kernel_rfl) (by kernel_rfl) (by kernel_rfl) (fun c a w v => hQp c a w _ v) (by rw [hnt]; rfl) (allIn (by repeat (first | exact trivial | refine ⟨rfl, ?_⟩))) (by first | exact Le.refl _ | assumption) (x := .a [.v (.int .i64 a.k), .v (.int .i64 a.n), .v (.slice a8 a.l.length c8)]) ((quiet_load (by rw [hty]; rfl) rfl (by simp [TK.agg]) hat0 rfl).cast (by rfl)) ?_
    refine st_ ?_
    refine hu_take0 6 rfl (by kernel_rfl) (by kernel_rfl) (by kernel_rfl) (by decide) (fun c a w v => hQp c a w _ v) (by rw [hnt]; rfl) (allIn (by repeat (first | exact trivial | refine ⟨rfl, ?_⟩))) (by first | exact Le.refl _ | assumption) (quiet_op (by rw [hty]; first | rfl | (refine st_ ?_; rfl))) ?_; refine st_ ?_
    refine hu_take0 7 rfl (by kernel_rfl) (by kernel_rfl) (by kernel_rfl) (by decide) (fun c a w v => hQp c a w _ v) (by rw [hnt]; rfl) (allIn (by repeat (first | exact trivial | refine ⟨rfl, ?_⟩))) (by first | exact Le.refl _ | assumption) (quiet_op (by rw [hty]; first | rfl | (refine st_ ?_; rfl))) ?_; refine st_ ?_
    refine hu_take0 8 rfl (by kernel_rfl) (by kernel_rfl) (by kernel_rfl) (by decide) (fun c a w v => hQp c a w _ v) (by rw [hnt]; rfl) (allIn (by repeat (first | exact trivial | refine ⟨rfl, ?_⟩))) (by first | exact Le.refl _ | assumption) (quiet_op (by rw [hty]; first | rfl | (refine st_ ?_; rfl))) ?_; refine st_ ?_
    refine hu_takeB 9 [9, 15] rfl (by kernel_rfl) (by kernel_rfl) (by kernel_rfl) (by kernel_rfl) (fun c a w v => hQp c a w _ v) (by rw [hnt]; rfl) (allIn (by repeat (first | exact trivial | refine ⟨rfl, ?_⟩))) (by first | exact Le.refl _ | assumption) (x := .v (.slice (some ⟨bD, oD, none⟩) m.done.length cd)) ((quiet_loadR (k := 0) (by rw [hty]; rfl) rfl (by simp [TK.agg]) rfl (by simp only []; omega)).cast (by exact encF_ld (j := 3) (by omega) (by rw [hcl]; rfl))) ?_
    refine st_ ?_
    refine hu_takeB 10 [10, 15] rfl (by kernel_rfl) (by kernel_rfl) (by kernel_rfl) (by kernel_rfl) (fun c a w v => hQp c a w _ v) (by rw [hnt]; rfl) (allIn (by repeat (first | exact trivial | refine ⟨rfl, ?_⟩))) (by first | exact Le.refl _ | assumption) (x := .v (.pointer (some ⟨bD, oD + 1 * 3, none⟩))) ((quiet_index (by rw [hty]; rfl) (by rw [hty]; rfl) rfl rfl rfl (by omega) (by omega)).cast (by rfl)) ?_
    refine st_ ?_
    refine hu_takeB 11 [11, 15] rfl (by kernel_rfl) (by kernel_rfl) (by kernel_rfl) (by kernel_rfl) (fun c a w v => hQp c a w _ v) (by rw [hnt]; rfl) (allIn (by repeat (first | exact trivial | refine ⟨rfl, ?_⟩))) (by first | exact Le.refl _ | assumption) (x := .a [.v (.int .i64 b'.k), .v (.int .i64 b'.n), .v (.slice a9 b'.l.length c9)]) ((quiet_load (by rw [hty]; rfl) rfl (by simp [TK.agg]) hat1 rfl).cast (by rfl)) ?_
    refine st_ ?_
    refine hu_one 12 rfl (by kernel_rfl) ?_
    refine go_call (by rw [hnt]; rfl) (by rw [hP]; kernel_rfl) rfl (hP ▸ less_ok a b' _ _ G hr0 hr1) ?_
    rintro _ G3 (hle3 : Le G G3) rfl
    obtain ⟨kk, nn, ee, hnum, hcs⟩ := numd_cases a b' (fun m n => if decide (m < n) then 1 else 0) (fun _ _ => by split <;> simp [isI64])
    rw [hnum]
    refine rn_ ?_; intros
    refine hs_ ?_
    refine hu_take0 13 rfl (by kernel_rfl) (by kernel_rfl) (by kernel_rfl) (by decide) (fun c a w v => hQp c a w _ v) (by rw [hnt]; rfl) (allIn (by repeat (first | exact trivial | refine ⟨rfl, ?_⟩))) (by first | exact Le.refl _ | assumption) (quiet_op (by rw [hty]; first | rfl | (refine st_ ?_; rfl))) ?_; refine st_ ?_
    refine hu_take0 14 rfl (by kernel_rfl) (by kernel_rfl) (by kernel_rfl) (by decide) (fun c a w v => hQp c a w _ v) (by rw [hnt]; rfl) (allIn (by repeat (first | exact trivial | refine ⟨rfl, ?_⟩))) (by first | exact Le.refl _ | assumption) (quiet_op (by rw [hty]; first | rfl | (refine st_ ?_; rfl))) ?_; refine st_ ?_
    refine hu_last 15 [] rfl (by kernel_rfl) rfl ?_
    refine rn_ ?_; intros
    refine h_one 16 rfl (by kernel_rfl) ?_
    refine rn_ ?_; intros
    refine hs_ ?_
    refine h_end (by kernel_rfl) ?_
    refine rn_ ?_; intros
    refine x_retW rfl hQ hmb hmh hG0 hmub rfl rfl (by rw [hty]; simp only [so, sq, zy, zz, tyE, SO', SQ', opQ, opStore, opAlloc, ev, putS, dOk, cv, SV.cs, SV.one, SV.bool?, eqB, Value.oneCell', ldOwn, binInt, binConst, binBool, binStr, isC, TK.agg, rv, rv1, ldV, resOne, resV, Nat.reduceAdd, Nat.reduceMul, Nat.reduceSub, Nat.reduceLT, Nat.reduceLeDiff, Nat.reduceEqDiff, Nat.reduceBEq, reduceIte, reduceCtorEq, eq_self]; try rfl) rfl rfl (by simp only [enumO]; exact (by repeat (first | exact plain_nil | refine plain_cons (fun _ h => h) ?_))) ?_; simp only [SV.den, resV, dens]
    refine ⟨rfl, ?_⟩
    rcases hcs with ⟨hn, he⟩ | ⟨hn, he, hr⟩
    · rw [hn]; exact ⟨_, _, _, rfl, he⟩
    · rw [hn]; subst he; exact ⟨_, rfl, hr G3, by simp [tsz, tszL]⟩
  refine rn_ ?_; intros
  refine x_split rfl rfl rfl (fun h11 => ?_) (fun h11 => ?_) <;> (refine st_ ?_; (refine ru_ ?_; intros))
  · have hop : nd.op = 11 := by simpa using h11
    simp only [hop, Int.reduceEq, if_false, if_true] at ho
    obtain ⟨a, t, hdn, ho⟩ := one_some ho
    subst ho
    have hl2 : 1 ≤ m.done.length := by rw [hdn]; simp
    obtain ⟨bD, oD, s0, rfl, hat0, hr0, ht0⟩ := rW_at hxd (i := 0) (by omega)
    have e0 : m.done[0]'(by omega) = a := by simp [hdn]
    rw [e0] at hat0 hr0 ht0
    refine rn_ ?_; intros
    refine go_q (v := .slice (some ⟨bD, oD, none⟩) m.done.length cd) (by rw [hnt]; rfl) ((quiet_loadR (k := 0) (by rw [hty]; rfl) rfl (by simp [TK.agg]) rfl (by simp only []; omega)).cast (by exact encF_ld (j := 3) (by omega) (by rw [hcl]; rfl))) ?_
    refine rn_ ?_; intros
    refine go_q (v := .pointer (some ⟨bD, oD + 0 * 3, none⟩)) (by rw [hnt]; rfl) ((quiet_index (by rw [hty]; rfl) (by rw [hty]; rfl) rfl rfl rfl (by omega) (by omega)).cast (by rfl)) ?_
    refine rn_ ?_; intros
    refine go_q (v := .agg #[.int .i64 a.k, .int .i64 a.n, s0]) (by rw [hnt]; rfl) ((quiet_load (by rw [hty]; rfl) rfl (by simp [TK.agg]) hat0 rfl).cast (by rfl)) ?_
    refine rn_ ?_; intros
    refine go_call (by rw [hnt]; rfl) (by rw [hP]; kernel_rfl) rfl (hP ▸ first_ok a s0 G hr0 (by omega)) ?_
    rintro _ G3 (hle3 : Le G G3) (⟨hv, a3, c3, rfl, hr⟩ | ⟨hv, rfl⟩)
    · refine rn_ ?_; intros
      refine x_retW rfl hQ hmb hmh hG0 hmub rfl rfl (by rw [hty]; simp only [so, sq, zy, zz, tyE, SO', SQ', opQ, opStore, opAlloc, ev, putS, dOk, cv, SV.cs, SV.one, SV.bool?, eqB, Value.oneCell', ldOwn, binInt, binConst, binBool, binStr, isC, TK.agg, rv, rv1, ldV, resOne, resV, Nat.reduceAdd, Nat.reduceMul, Nat.reduceSub, Nat.reduceLT, Nat.reduceLeDiff, Nat.reduceEqDiff, Nat.reduceBEq, reduceIte, reduceCtorEq, eq_self]; try rfl) rfl rfl (by simp only [enumO]; exact (by repeat (first | exact plain_nil | refine plain_cons (fun _ h => h) ?_))) ?_; simp only [SV.den, resV, dens]
      exact ⟨rfl, by rw [halfF, if_pos hv]; exact ⟨_, rfl, hr, half_tsz ht0⟩⟩
    · refine rn_ ?_; intros
      refine x_retW rfl hQ hmb hmh hG0 hmub rfl rfl (by rw [hty]; simp only [so, sq, zy, zz, tyE, SO', SQ', opQ, opStore, opAlloc, ev, putS, dOk, cv, SV.cs, SV.one, SV.bool?, eqB, Value.oneCell', ldOwn, binInt, binConst, binBool, binStr, isC, TK.agg, rv, rv1, ldV, resOne, resV, Nat.reduceAdd, Nat.reduceMul, Nat.reduceSub, Nat.reduceLT, Nat.reduceLeDiff, Nat.reduceEqDiff, Nat.reduceBEq, reduceIte, reduceCtorEq, eq_self]; try rfl) rfl rfl (by simp only [enumO]; exact (by repeat (first | exact plain_nil | refine plain_cons (fun _ h => h) ?_))) ?_; simp only [SV.den, resV, dens]
      exact ⟨rfl, by rw [halfF, if_neg (by rw [hv]; decide)]; exact ⟨_, _, _, rfl, by split <;> decide⟩⟩
  refine rn_ ?_; intros
  refine x_split rfl rfl rfl (fun h12 => ?_) (fun h12 => ?_) <;> (refine st_ ?_; (refine ru_ ?_; intros))
  · have hop : nd.op = 12 := by simpa using h12
    simp only [hop, Int.reduceEq, if_false, if_true] at ho
    obtain ⟨a, t, hdn, ho⟩ := one_some ho
    subst ho
    have hl2 : 1 ≤ m.done.length := by rw [hdn]; simp
    obtain ⟨bD, oD, s0, rfl, hat0, hr0, ht0⟩ := rW_at hxd (i := 0) (by omega)
    have e0 : m.done[0]'(by omega) = a := by simp [hdn]
    rw [e0] at hat0 hr0 ht0
    refine rn_ ?_; intros
    refine go_q (v := .slice (some ⟨bD, oD, none⟩) m.done.length cd) (by rw [hnt]; rfl) ((quiet_loadR (k := 0) (by rw [hty]; rfl) rfl (by simp [TK.agg]) rfl (by simp only []; omega)).cast (by exact encF_ld (j := 3) (by omega) (by rw [hcl]; rfl))) ?_
    refine rn_ ?_; intros
    refine go_q (v := .pointer (some ⟨bD, oD + 0 * 3, none⟩)) (by rw [hnt]; rfl) ((quiet_index (by rw [hty]; rfl) (by rw [hty]; rfl) rfl rfl rfl (by omega) (by omega)).cast (by rfl)) ?_
    refine rn_ ?_; intros
    refine go_q (v := .agg #[.int .i64 a.k, .int .i64 a.n, s0]) (by rw [hnt]; rfl) ((quiet_load (by rw [hty]; rfl) rfl (by simp [TK.agg]) hat0 rfl).cast (by rfl)) ?_
    refine rn_ ?_; intros
    refine go_call (by rw [hnt]; rfl) (by rw [hP]; kernel_rfl) rfl (hP ▸ second_ok a s0 G hr0 (by omega)) ?_
    rintro _ G3 (hle3 : Le G G3) (⟨hv, a3, c3, rfl, hr⟩ | ⟨hv, rfl⟩)
    · refine rn_ ?_; intros
      refine x_retW rfl hQ hmb hmh hG0 hmub rfl rfl (by rw [hty]; simp only [so, sq, zy, zz, tyE, SO', SQ', opQ, opStore, opAlloc, ev, putS, dOk, cv, SV.cs, SV.one, SV.bool?, eqB, Value.oneCell', ldOwn, binInt, binConst, binBool, binStr, isC, TK.agg, rv, rv1, ldV, resOne, resV, Nat.reduceAdd, Nat.reduceMul, Nat.reduceSub, Nat.reduceLT, Nat.reduceLeDiff, Nat.reduceEqDiff, Nat.reduceBEq, reduceIte, reduceCtorEq, eq_self]; try rfl) rfl rfl (by simp only [enumO]; exact (by repeat (first | exact plain_nil | refine plain_cons (fun _ h => h) ?_))) ?_; simp only [SV.den, resV, dens]
      exact ⟨rfl, by rw [halfF, if_pos hv]; exact ⟨_, rfl, hr, half_tsz ht0⟩⟩
    · refine rn_ ?_; intros
      refine x_retW rfl hQ hmb hmh hG0 hmub rfl rfl (by rw [hty]; simp only [so, sq, zy, zz, tyE, SO', SQ', opQ, opStore, opAlloc, ev, putS, dOk, cv, SV.cs, SV.one, SV.bool?, eqB, Value.oneCell', ldOwn, binInt, binConst, binBool, binStr, isC, TK.agg, rv, rv1, ldV, resOne, resV, Nat.reduceAdd, Nat.reduceMul, Nat.reduceSub, Nat.reduceLT, Nat.reduceLeDiff, Nat.reduceEqDiff, Nat.reduceBEq, reduceIte, reduceCtorEq, eq_self]; try rfl) rfl rfl (by simp only [enumO]; exact (by repeat (first | exact plain_nil | refine plain_cons (fun _ h => h) ?_))) ?_; simp only [SV.den, resV, dens]
      exact ⟨rfl, by rw [halfF, if_neg (by rw [hv]; decide)]; exact ⟨_, _, _, rfl, by split <;> decide⟩⟩
  have g3 : ¬ nd.op = 3 := by simpa using h3
  have g6 : ¬ nd.op = 6 := by simpa using h6
  have g7 : ¬ nd.op = 7 := by simpa using h7
  have g8 : ¬ nd.op = 8 := by simpa using h8
  have g9 : ¬ nd.op = 9 := by simpa using h9
  have g11 : ¬ nd.op = 11 := by simpa using h11
  have g12 : ¬ nd.op = 12 := by simpa using h12
  rw [if_neg g3, if_neg g6, if_neg g7, if_neg g8, if_neg g9, if_neg g11, if_neg g12] at ho
  split at ho
  rotate_left
  · cases ho
  rw [Option.some.injEq] at ho
  rename_i hts
  subst ho
  refine rn_ ?_; intros
  refine x_heldP [(0, b1, .row (.slice (some ⟨g, 0, none⟩) (r.length + 1) cap) 90 4 (r.length + 1) (encF (x :: r))), (1, b3, .c 110 [.v (.int .i64 nd.op), .v (.int .i64 nd.n), .v (.slice asl nd.l.length csl)])] 12 rfl (by rw [hP]; kernel_rfl) rfl rfl rfl ?_; refine st_ ?_
  refine hu_take0 0 rfl (by kernel_rfl) (by kernel_rfl) (by kernel_rfl) (by decide) (fun c a w v => hQp c a w _ v) (by rw [hnt]; rfl) (allIn (by repeat (first | exact trivial | refine ⟨rfl, ?_⟩))) (by first | exact Le.refl _ | assumption) (quiet_op (by rw [hty]; first | rfl | (refine st_ ?_; rfl))) ?_; refine st_ ?_
  refine hu_takeB 1 [1, 12] rfl (by kernel_rfl) (by kernel_rfl) (by kernel_rfl) (by kernel_rfl) (fun c a w v => hQp c a w _ v) (by rw [hnt]; rfl) (allIn (by repeat (first | exact trivial | refine ⟨rfl, ?_⟩))) (by first | exact Le.refl _ | assumption) (quiet_op (by rw [hty]; first | rfl | (refine st_ ?_; rfl))) ?_; refine st_ ?_
  refine hu_take0 3 rfl (by kernel_rfl) (by kernel_rfl) (by kernel_rfl) (by decide) (fun c a w v => hQp c a w _ v) (by rw [hnt]; rfl) (allIn (by repeat (first | exact trivial | refine ⟨rfl, ?_⟩))) (by first | exact Le.refl _ | assumption) (quiet_op (by rw [hty]; first | rfl | (refine st_ ?_; rfl))) ?_; refine st_ ?_
  refine hu_takeB 4 [4, 12] rfl (by kernel_rfl) (by kernel_rfl) (by kernel_rfl) (by kernel_rfl) (fun c a w v => hQp c a w _ v) (by rw [hnt]; rfl) (allIn (by repeat (first | exact trivial | refine ⟨rfl, ?_⟩))) (by first | exact Le.refl _ | assumption) (quiet_op (by rw [hty]; first | rfl | (refine st_ ?_; rfl))) ?_; refine st_ ?_
  refine hu_take0 5 rfl (by kernel_rfl) (by kernel_rfl) (by kernel_rfl) (by decide) (fun c a w v => hQp c a w _ v) (by rw [hnt]; rfl) (allIn (by repeat (first | exact trivial | refine ⟨rfl, ?_⟩))) (by first | exact Le.refl _ | assumption) (quiet_op (by rw [hty]; first | rfl | (refine st_ ?_; rfl))) ?_; refine st_ ?_
  refine hu_take0 6 rfl (by kernel_rfl) (by kernel_rfl) (by kernel_rfl) (by decide) (fun c a w v => hQp c a w _ v) (by rw [hnt]; rfl) (allIn (by repeat (first | exact trivial | refine ⟨rfl, ?_⟩))) (by first | exact Le.refl _ | assumption) (quiet_op (by rw [hty]; first | rfl | (refine st_ ?_; rfl))) ?_; refine st_ ?_
  refine hu_take0 7 rfl (by kernel_rfl) (by kernel_rfl) (by kernel_rfl) (by decide) (fun c a w v => hQp c a w _ v) (by rw [hnt]; rfl) (allIn (by repeat (first | exact trivial | refine ⟨rfl, ?_⟩))) (by first | exact Le.refl _ | assumption) (quiet_op (by rw [hty]; first | rfl | (refine st_ ?_; rfl))) ?_; refine st_ ?_
  refine hu_takeB 8 [8, 12] rfl (by kernel_rfl) (by kernel_rfl) (by kernel_rfl) (by kernel_rfl) (fun c a w v => hQp c a w _ v) (by rw [hnt]; rfl) (allIn (by repeat (first | exact trivial | refine ⟨rfl, ?_⟩))) (by first | exact Le.refl _ | assumption) (x := .v (.slice ad m.done.length cd)) ((quiet_loadR (k := 0) (by rw [hty]; rfl) rfl (by simp [TK.agg]) rfl (by simp only []; omega)).cast (by exact encF_ld (j := 3) (by omega) (by rw [hcl]; rfl))) ?_
  refine st_ ?_
  refine hu_one 2 rfl (by kernel_rfl) ?_
  refine go_callf (by rw [hnt]; rfl) (by rw [hP]; kernel_rfl) rfl (hP ▸ kindOf_ok nd.op G) ?_; refine rn_ ?_; intros
  refine hs_ ?_
  refine hu_one 9 rfl (by kernel_rfl) ?_
  refine go_call (by rw [hnt]; rfl) (by rw [hP]; kernel_rfl) rfl (hP ▸ make_ok (kOf nd.op) nd.n m.done _ G (rW_repM (kOf_64 _) hn64 hxd) (by omega)) ?_
  rintro v G3 (hle3 : Le G G3) hm
  rcases hm with ⟨hv, a3, c3, rfl, hr⟩ | ⟨hv, rfl⟩
  · refine rn_ ?_; intros
    refine hs_ ?_
    refine hu_take0 10 rfl (by kernel_rfl) (by kernel_rfl) (by kernel_rfl) (by decide) (fun c a w v => hQp c a w _ v) (by rw [hnt]; rfl) (allIn (by repeat (first | exact trivial | refine ⟨rfl, ?_⟩))) (by first | exact Le.refl _ | assumption) (quiet_op (by rw [hty]; first | rfl | (refine st_ ?_; rfl))) ?_; refine st_ ?_
    refine hu_take0 11 rfl (by kernel_rfl) (by kernel_rfl) (by kernel_rfl) (by decide) (fun c a w v => hQp c a w _ v) (by rw [hnt]; rfl) (allIn (by repeat (first | exact trivial | refine ⟨rfl, ?_⟩))) (by first | exact Le.refl _ | assumption) (quiet_op (by rw [hty]; first | rfl | (refine st_ ?_; rfl))) ?_; refine st_ ?_
    refine hu_last 12 [] rfl (by kernel_rfl) rfl ?_
    refine rn_ ?_; intros
    refine h_one 13 rfl (by kernel_rfl) ?_
    refine rn_ ?_; intros
    refine hs_ ?_
    refine h_end (by kernel_rfl) ?_
    refine rn_ ?_; intros
    refine x_retW rfl hQ hmb hmh hG0 hmub rfl rfl (by rw [hty]; simp only [so, sq, zy, zz, tyE, SO', SQ', opQ, opStore, opAlloc, ev, putS, dOk, cv, SV.cs, SV.one, SV.bool?, eqB, Value.oneCell', ldOwn, binInt, binConst, binBool, binStr, isC, TK.agg, rv, rv1, ldV, resOne, resV, Nat.reduceAdd, Nat.reduceMul, Nat.reduceSub, Nat.reduceLT, Nat.reduceLeDiff, Nat.reduceEqDiff, Nat.reduceBEq, reduceIte, reduceCtorEq, eq_self]; try rfl) rfl rfl (by simp only [enumO]; exact (by repeat (first | exact plain_nil | refine plain_cons (fun _ h => h) ?_))) ?_; simp only [SV.den, resV, dens]
    exact ⟨rfl, by rw [if_pos hv]; exact ⟨_, rfl, hr, vld_tsz hv⟩⟩
  · refine rn_ ?_; intros
    refine hs_ ?_
    refine hu_take0 10 rfl (by kernel_rfl) (by kernel_rfl) (by kernel_rfl) (by decide) (fun c a w v => hQp c a w _ v) (by rw [hnt]; rfl) (allIn (by repeat (first | exact trivial | refine ⟨rfl, ?_⟩))) (by first | exact Le.refl _ | assumption) (quiet_op (by rw [hty]; first | rfl | (refine st_ ?_; rfl))) ?_; refine st_ ?_
    refine hu_take0 11 rfl (by kernel_rfl) (by kernel_rfl) (by kernel_rfl) (by decide) (fun c a w v => hQp c a w _ v) (by rw [hnt]; rfl) (allIn (by repeat (first | exact trivial | refine ⟨rfl, ?_⟩))) (by first | exact Le.refl _ | assumption) (quiet_op (by rw [hty]; first | rfl | (refine st_ ?_; rfl))) ?_; refine st_ ?_
    refine hu_last 12 [] rfl (by kernel_rfl) rfl ?_
    refine rn_ ?_; intros
    refine h_one 13 rfl (by kernel_rfl) ?_
    refine rn_ ?_; intros
    refine hs_ ?_
    refine h_end (by kernel_rfl) ?_
    refine rn_ ?_; intros
    refine x_retW rfl hQ hmb hmh hG0 hmub rfl rfl (by rw [hty]; simp only [so, sq, zy, zz, tyE, SO', SQ', opQ, opStore, opAlloc, ev, putS, dOk, cv, SV.cs, SV.one, SV.bool?, eqB, Value.oneCell', ldOwn, binInt, binConst, binBool, binStr, isC, TK.agg, rv, rv1, ldV, resOne, resV, Nat.reduceAdd, Nat.reduceMul, Nat.reduceSub, Nat.reduceLT, Nat.reduceLeDiff, Nat.reduceEqDiff, Nat.reduceBEq, reduceIte, reduceCtorEq, eq_self]; try rfl) rfl rfl (by simp only [enumO]; exact (by repeat (first | exact plain_nil | refine plain_cons (fun _ h => h) ?_))) ?_; simp only [SV.den, resV, dens]
    exact ⟨rfl, by rw [if_neg (by rw [hv]; decide)]; exact ⟨_, _, _, rfl, by decide⟩⟩
end Go.Proofs.YtpppkednpamhbaaGreat
namespace Go.Proofs.YtpppkednpamhbaaGreat
set_option linter.unusedSimpArgs false
set_option linter.unusedVariables false
open Go.Sx
set_option maxHeartbeats 16000000
set_option maxRecDepth 20000
theorem lay_end {xs c vs : List Value} {z : List Value} {off : Nat} (ho : off = xs.length) (hv : vs = c) (hz : z.length = c.length := by rfl) : lay (xs ++ z) off vs = some (xs ++ c) := by
  subst ho hv
  have := lay_m xs vs z [] hz
  simpa using this
theorem encF_trunc (x : Fw) (r : List Fw) : (encF (x :: r)).take (r.length * 4) = encF r := by
  simp only [encF]
  rw [← encF_len r, List.take_left]
theorem down_nd {p : Pr} {n : Nat} {x : Fm} {r : List Fm} {o : Int × List Fm} (h : downF p n (x :: r) = some o) : ∃ nd, ndAt p x.fn x.nd = some nd := by
  cases n with
  | zero => cases h
  | succ n =>
    simp only [downF] at h
    cases hnd : ndAt p x.fn x.nd with
    | none => rw [hnd] at h; cases h
    | some nd => exact ⟨nd, rfl⟩
theorem prod_ok (b cb : Nat) (p : Pr) (ps : Value) (s o : Fb) (v : VT) (slv : Value) (ow : Lds) (G : Hp) (hc : At G cb 0 [ps]) (hp : rF.S G p ps) (hfb : fbO G b cb s ow) (hv : v.rep G slv) (htv1 : tsz v ≤ 1000) (ho : prodF p s v = some o) :
    PureT Tryz.prog 54 [.pointer (some ⟨b, 0, none⟩), .agg #[.int .i64 v.k, .int .i64 v.n, slv]] G ow (fun _ G' ow' => fbO G' b cb o ow') := by
  obtain ⟨vl, fs, b1, b2, b3, rs, Z, hvl, htv, hfs, hl256, hdn, rfl⟩ := hfb
  obtain ⟨a9, c9, rfl⟩ := VT.rep_slice hv
  unfold prodF at ho
  cases hsl : s.l with
  | nil => rw [hsl] at ho; cases ho
  | cons m l =>
  rw [hsl] at ho hfs hl256 hdn
  obtain ⟨x, r, rfl, hx, hr⟩ := hfs
  have hrl := hr.len
  refine enterT ty tyok Tryz.func54 rfl Tryz.ntmps54 [.p 0 b 0, .a [.v (.int .i64 v.k), .v (.int .i64 v.n), .v (.slice a9 v.l.length c9)]] (by simp) (by simp) (plainL (by simp only [enumO]; exact (by repeat (first | exact plain_nil | refine plain_cons (fun _ h => h) ?_)))) ?_
  intro C w0 hP hQ hnt hty hmb hmh hro hG0 hb0; have hQp := qp_body hQ; refine st_ ?_
  generalize hrest : restB w0 _ G = Zr
  simp only [enumO, fhO, frO, fzO, fdO, List.cons_append, List.nil_append, List.length_cons, List.drop_succ_cons, List.drop_zero]
  refine go_rowcases 1 rfl (fun _ h _ => by simp at h) ?_
  rintro g cap rfl hcap hlen
  simp only [List.length_cons] at hl256
  refine rn_ ?_; intros
  rename_i b5
  have ew : IntKind.i64.wrap (((r.length + 1 : Nat) : Int) - 1) = (r.length : Int) := by rw [wr (by omega) (by omega)]; omega
  refine x_heldP [(0, b, .c 93 [.v (.pointer (some ⟨cb, 0, none⟩)), .v (.int .i64 s.st), .v (.int .i64 s.val.k), .v (.int .i64 s.val.n), .v vl, .v (.slice (some ⟨g, 0, none⟩) (r.length + 1) cap)])] 14 rfl (by rw [hP]; kernel_rfl) rfl rfl rfl ?_; refine st_ ?_
  refine hu_take0 0 rfl (by kernel_rfl) (by kernel_rfl) (by kernel_rfl) (by decide) (fun c a w v => hQp c a w _ v) (by rw [hnt]; rfl) (allIn (by repeat (first | exact trivial | refine ⟨rfl, ?_⟩))) (by first | exact Le.refl _ | assumption) (quiet_op (by rw [hty]; first | rfl | (refine st_ ?_; rfl))) ?_; refine st_ ?_
  refine hu_take0 1 rfl (by kernel_rfl) (by kernel_rfl) (by kernel_rfl) (by decide) (fun c a w v => hQp c a w _ v) (by rw [hnt]; rfl) (allIn (by repeat (first | exact trivial | refine ⟨rfl, ?_⟩))) (by first | exact Le.refl _ | assumption) (quiet_op (by rw [hty]; first | rfl | (refine st_ ?_; rfl))) ?_; refine st_ ?_
  refine hu_take0 2 rfl (by kernel_rfl) (by kernel_rfl) (by kernel_rfl) (by decide) (fun c a w v => hQp c a w _ v) (by rw [hnt]; rfl) (allIn (by repeat (first | exact trivial | refine ⟨rfl, ?_⟩))) (by first | exact Le.refl _ | assumption) (quiet_op (by rw [hty]; first | rfl | (refine st_ ?_; rfl))) ?_; refine st_ ?_
  refine hu_take0 3 rfl (by kernel_rfl) (by kernel_rfl) (by kernel_rfl) (by decide) (fun c a w v => hQp c a w _ v) (by rw [hnt]; rfl) (allIn (by repeat (first | exact trivial | refine ⟨rfl, ?_⟩))) (by first | exact Le.refl _ | assumption) (quiet_op (by rw [hty]; first | rfl | (refine st_ ?_; rfl))) ?_; refine st_ ?_
  refine hu_takeB 4 [4, 14] rfl (by kernel_rfl) (by kernel_rfl) (by kernel_rfl) (by kernel_rfl) (fun c a w v => hQp c a w _ v) (by rw [hnt]; rfl) (allIn (by repeat (first | exact trivial | refine ⟨rfl, ?_⟩))) (by first | exact Le.refl _ | assumption) (quiet_op (by rw [hty]; first | rfl | (refine st_ ?_; rfl))) ?_; refine st_ ?_
  refine hu_take0 5 rfl (by kernel_rfl) (by kernel_rfl) (by kernel_rfl) (by decide) (fun c a w v => hQp c a w _ v) (by rw [hnt]; rfl) (allIn (by repeat (first | exact trivial | refine ⟨rfl, ?_⟩))) (by first | exact Le.refl _ | assumption) (quiet_op (by rw [hty]; first | rfl | (refine st_ ?_; rfl))) ?_; refine st_ ?_
  refine hu_take0 6 rfl (by kernel_rfl) (by kernel_rfl) (by kernel_rfl) (by decide) (fun c a w v => hQp c a w _ v) (by rw [hnt]; rfl) (allIn (by repeat (first | exact trivial | refine ⟨rfl, ?_⟩))) (by first | exact Le.refl _ | assumption) (quiet_op (by rw [hty]; first | rfl | (refine st_ ?_; rfl))) ?_; refine st_ ?_
  refine hu_take0 7 rfl (by kernel_rfl) (by kernel_rfl) (by kernel_rfl) (by decide) (fun c a w v => hQp c a w _ v) (by rw [hnt]; rfl) (allIn (by repeat (first | exact trivial | refine ⟨rfl, ?_⟩))) (by first | exact Le.refl _ | assumption) (quiet_op (by rw [hty]; first | rfl | (refine st_ ?_; rfl))) ?_; refine st_ ?_
  refine hu_takeB 8 [8, 14] rfl (by kernel_rfl) (by kernel_rfl) (by kernel_rfl) (by kernel_rfl) (fun c a w v => hQp c a w _ v) (by rw [hnt]; rfl) (allIn (by repeat (first | exact trivial | refine ⟨rfl, ?_⟩))) (by first | exact Le.refl _ | assumption) (quiet_op (by rw [hty]; first | rfl | (refine st_ ?_; rfl))) ?_; refine st_ ?_
  refine hu_take0 9 rfl (by kernel_rfl) (by kernel_rfl) (by kernel_rfl) (by decide) (fun c a w v => hQp c a w _ v) (by rw [hnt]; rfl) (allIn (by repeat (first | exact trivial | refine ⟨rfl, ?_⟩))) (by first | exact Le.refl _ | assumption) (quiet_op (by rw [hty]; first | rfl | (refine st_ ?_; rfl))) ?_; refine st_ ?_
  refine hu_take0 10 rfl (by kernel_rfl) (by kernel_rfl) (by kernel_rfl) (by decide) (fun c a w v => hQp c a w _ v) (by rw [hnt]; rfl) (allIn (by repeat (first | exact trivial | refine ⟨rfl, ?_⟩))) (by first | exact Le.refl _ | assumption) (quiet_op (by rw [hty]; first | rfl | (refine st_ ?_; rfl))) ?_; refine st_ ?_
  simp only [ew]
  refine hu_takeB 11 [11, 14] rfl (by kernel_rfl) (by kernel_rfl) (by kernel_rfl) (by kernel_rfl) (fun c a w v => hQp c a w _ v) (by rw [hnt]; rfl) (allIn (by repeat (first | exact trivial | refine ⟨rfl, ?_⟩))) (by first | exact Le.refl _ | assumption) (x := .v (.slice (some ⟨g, 0, none⟩) r.length cap)) ((quiet_sliceHi (by rw [hty]; rfl) (by rw [hty]; rfl) rfl rfl rfl (by omega) (by omega)).cast (by simp [SV.den, Sx.sliced, Addr.add])) ?_
  refine st_ ?_
  refine hu_take0 12 rfl (by kernel_rfl) (by kernel_rfl) (by kernel_rfl) (by decide) (fun c a w v => hQp c a w _ v) (by rw [hnt]; rfl) (allIn (by repeat (first | exact trivial | refine ⟨rfl, ?_⟩))) (by first | exact Le.refl _ | assumption) (quiet_op (by rw [hty]; first | rfl | (refine st_ ?_; rfl))) ?_; refine st_ ?_
  refine hu_take0 13 rfl (by kernel_rfl) (by kernel_rfl) (by kernel_rfl) (by decide) (fun c a w v => hQp c a w _ v) (by rw [hnt]; rfl) (allIn (by repeat (first | exact trivial | refine ⟨rfl, ?_⟩))) (by first | exact Le.refl _ | assumption) (quiet_op (by rw [hty]; first | rfl | (refine st_ ?_; rfl))) ?_; refine st_ ?_
  refine hu_last 14 [] rfl (by kernel_rfl) rfl ?_
  refine rn_ ?_; intros
  refine h_end (by kernel_rfl) ?_
  refine go_trunc 1 r.length (by omega) rfl ?_
  refine st_ ?_
  rw [encF_trunc]
  refine rn_ ?_; intros
  refine x_split rfl rfl rfl (fun h0 => ?_) (fun h0 => ?_) <;> (refine st_ ?_; (refine ru_ ?_; intros))
  · have hl0 : l = [] := List.eq_nil_of_length_eq_zero (by rw [← hrl]; simpa using h0)
    subst hl0
    injection ho with ho
    subst ho
    refine rn_ ?_; intros
    refine x_heldP [(1000, b5, .c 42 [.v (.int .i64 v.k), .v (.int .i64 v.n), .v (.slice a9 v.l.length c9)])] 9 rfl (by rw [hP]; kernel_rfl) rfl rfl rfl ?_; refine st_ ?_
    refine hu_take0 0 rfl (by kernel_rfl) (by kernel_rfl) (by kernel_rfl) (by decide) (fun c a w v => hQp c a w _ v) (by rw [hnt]; rfl) (allIn (by repeat (first | exact trivial | refine ⟨rfl, ?_⟩))) (by first | exact Le.refl _ | assumption) (quiet_op (by rw [hty]; first | rfl | (refine st_ ?_; rfl))) ?_; refine st_ ?_
    refine hu_take0 1 rfl (by kernel_rfl) (by kernel_rfl) (by kernel_rfl) (by decide) (fun c a w v => hQp c a w _ v) (by rw [hnt]; rfl) (allIn (by repeat (first | exact trivial | refine ⟨rfl, ?_⟩))) (by first | exact Le.refl _ | assumption) (quiet_op (by rw [hty]; first | rfl | (refine st_ ?_; rfl))) ?_; refine st_ ?_
    refine hu_take0 2 rfl (by kernel_rfl) (by kernel_rfl) (by kernel_rfl) (by decide) (fun c a w v => hQp c a w _ v) (by rw [hnt]; rfl) (allIn (by repeat (first | exact trivial | refine ⟨rfl, ?_⟩))) (by first | exact Le.refl _ | assumption) (quiet_op (by rw [hty]; first | rfl | (refine st_ ?_; rfl))) ?_; refine st_ ?_
    refine hu_takeB 3 [3, 9] rfl (by kernel_rfl) (by kernel_rfl) (by kernel_rfl) (by kernel_rfl) (fun c a w v => hQp c a w _ v) (by rw [hnt]; rfl) (allIn (by repeat (first | exact trivial | refine ⟨rfl, ?_⟩))) (by first | exact Le.refl _ | assumption) (quiet_op (by rw [hty]; first | rfl | (refine st_ ?_; rfl))) ?_; refine st_ ?_
    refine hu_take0 4 rfl (by kernel_rfl) (by kernel_rfl) (by kernel_rfl) (by decide) (fun c a w v => hQp c a w _ v) (by rw [hnt]; rfl) (allIn (by repeat (first | exact trivial | refine ⟨rfl, ?_⟩))) (by first | exact Le.refl _ | assumption) (quiet_op (by rw [hty]; first | rfl | (refine st_ ?_; rfl))) ?_; refine st_ ?_
    refine hu_take0 5 rfl (by kernel_rfl) (by kernel_rfl) (by kernel_rfl) (by decide) (fun c a w v => hQp c a w _ v) (by rw [hnt]; rfl) (allIn (by repeat (first | exact trivial | refine ⟨rfl, ?_⟩))) (by first | exact Le.refl _ | assumption) (quiet_op (by rw [hty]; first | rfl | (refine st_ ?_; rfl))) ?_; refine st_ ?_
    refine hu_one 6 rfl (by kernel_rfl) ?_
    refine rn_ ?_; intros
    refine hs_ ?_
    refine hu_take0 7 rfl (by kernel_rfl) (by kernel_rfl) (by kernel_rfl) (by decide) (fun c a w v => hQp c a w _ v) (by rw [hnt]; rfl) (allIn (by repeat (first | exact trivial | refine ⟨rfl, ?_⟩))) (by first | exact Le.refl _ | assumption) (quiet_op (by rw [hty]; first | rfl | (refine st_ ?_; rfl))) ?_; refine st_ ?_
    refine hu_take0 8 rfl (by kernel_rfl) (by kernel_rfl) (by kernel_rfl) (by decide) (fun c a w v => hQp c a w _ v) (by rw [hnt]; rfl) (allIn (by repeat (first | exact trivial | refine ⟨rfl, ?_⟩))) (by first | exact Le.refl _ | assumption) (quiet_op (by rw [hty]; first | rfl | (refine st_ ?_; rfl))) ?_; refine st_ ?_
    refine hu_last 9 [] rfl (by kernel_rfl) rfl ?_
    refine rn_ ?_; intros
    refine h_one 10 rfl (by kernel_rfl) ?_
    refine rn_ ?_; intros
    refine hs_ ?_
    refine h_one 11 rfl (by kernel_rfl) ?_
    refine rn_ ?_; intros
    refine hs_ ?_
    refine h_one 12 rfl (by kernel_rfl) ?_
    refine rn_ ?_; intros
    refine hs_ ?_
    refine h_end (by kernel_rfl) ?_
    refine rn_ ?_; intros
    refine go_rownil 1 rfl ?_
    refine go_znull 2 rfl ?_
    intro Z5
    refine st_ ?_
    refine x_ret0T rfl hQ hmh hb0 rfl (by first | (simp; done) | decide) rfl rfl (by rw [hrest]; rfl) (by first | exact Le.refl _ | assumption | exact (Le.refl _)) rfl (by simp only [enumO]; exact (by repeat (first | exact plain_nil | refine plain_cons (fun _ h => h) ?_))) ?_
    intro _
    exact ⟨_, .slice none 0 0, b1, b2, b3, [], Z5, hv, htv1, rfl, by simp, fun _ _ h => by simp at h, rfl⟩
  · cases l with
    | nil => exact absurd h0 (by simp at hrl; simp [hrl])
    | cons y l =>
    simp only [] at ho
    split at ho
    rotate_left
    · cases ho
    rename_i hyl
    obtain ⟨o1, ho1, rfl⟩ := Option.map_eq_some_iff.1 ho
    obtain ⟨nd, hnd⟩ := down_nd ho1
    simp only [] at hnd
    obtain ⟨yx, r2, rfl, hy, hr2⟩ := hr
    have hrl2 := hr2.len
    obtain ⟨yfn, ynd, yvars, ye, ysz, ydv, yn, yxs⟩ := yx
    obtain ⟨x1, x2, x3, x4, x5, x6, x7⟩ := hy
    obtain ⟨d1, d2, d3, d4, d5, ad, cd, d6, d7⟩ := x7
    simp only at x1 x2 x5 x6 d1 d2 d3 d4 d5 d6
    subst x1 x2 d1 d2 d3 d6
    obtain ⟨av, cv', rfl⟩ := Rp.S_slice x6
    have hyx := Rp.L_len d4
    simp only [rW] at hyx
    have hlen2 := encF_len (⟨y.fn, y.nd, .slice av y.vars.length cv', ⟨42, 3, .slice ad y.done.length cd, y.done.length, yxs⟩⟩ :: r2)
    simp only [List.length_cons] at hlen2
    simp only [List.map_cons]
    refine go_zpop 2 3 rfl rfl (by decide) (.inl ⟨by rw [hmh]; omega, by rw [hmh]; omega⟩) ?_
    intro Z3
    refine st_ ?_
    refine go_callW [0, 1] (by rw [hnt]; rfl) (by rw [hP]; kernel_rfl) rfl rfl rfl (.inl (by rw [hmh]; simp)) (by rw [hP]; exact last_ok b cb b1 s.st s.val.k s.val.n vl _ ps p y l (⟨y.fn, y.nd, .slice av y.vars.length cv', ⟨42, 3, .slice ad y.done.length cd, y.done.length, yxs⟩⟩ :: r2) nd G hc hp ⟨_, _, rfl, ⟨rfl, rfl, x3, x4, x5, x6, ⟨rfl, rfl, rfl, d4, d5, _, _, rfl, d7⟩⟩, hr2⟩ hnd (by simp at hl256; omega)) ?_
    rintro v5 G2 ow5 (hle2 : Le G G2) ⟨rfl, g', cap', sl', e1, rfl, hsl'⟩
    injection e1 with q1 q2 q3
    injection q1 with q1
    injection q1 with q4 q5 q6
    subst q4 q3
    obtain ⟨asl, csl, rfl⟩ := Rp.S_slice hsl'
    have hc2 := hc.mono hle2
    have hp2 := Rp.S_mono hle2 hp
    simp only [setO, stk, fhO, frO, List.length_cons]
    refine rn_ ?_; intros
    refine x_heldP [(1, b1, .row (.slice (some ⟨g, 0, none⟩) (r2.length + 1) cap) 90 4 (r2.length + 1) (encF (⟨y.fn, y.nd, .slice av y.vars.length cv', ⟨42, 3, .slice ad y.done.length cd, y.done.length, yxs⟩⟩ :: r2))), (1000, b5, .c 42 [.v (.int .i64 v.k), .v (.int .i64 v.n), .v (.slice a9 v.l.length c9)])] 7 rfl (by rw [hP]; kernel_rfl) rfl rfl rfl ?_; refine st_ ?_
    refine hu_take0 0 rfl (by kernel_rfl) (by kernel_rfl) (by kernel_rfl) (by decide) (fun c a w v => hQp c a w _ v) (by rw [hnt]; rfl) (allIn (by repeat (first | exact trivial | refine ⟨rfl, ?_⟩))) (by first | exact Le.refl _ | assumption) (quiet_op (by rw [hty]; first | rfl | (refine st_ ?_; rfl))) ?_; refine st_ ?_
    refine hu_take0 1 rfl (by kernel_rfl) (by kernel_rfl) (by kernel_rfl) (by decide) (fun c a w v => hQp c a w _ v) (by rw [hnt]; rfl) (allIn (by repeat (first | exact trivial | refine ⟨rfl, ?_⟩))) (by first | exact Le.refl _ | assumption) (quiet_op (by rw [hty]; first | rfl | (refine st_ ?_; rfl))) ?_; refine st_ ?_
    refine hu_take0 2 rfl (by kernel_rfl) (by kernel_rfl) (by kernel_rfl) (by decide) (fun c a w v => hQp c a w _ v) (by rw [hnt]; rfl) (allIn (by repeat (first | exact trivial | refine ⟨rfl, ?_⟩))) (by first | exact Le.refl _ | assumption) (quiet_op (by rw [hty]; first | rfl | (refine st_ ?_; rfl))) ?_; refine st_ ?_
    refine hu_takeB 3 [3, 7] rfl (by kernel_rfl) (by kernel_rfl) (by kernel_rfl) (by kernel_rfl) (fun c a w v => hQp c a w _ v) (by rw [hnt]; rfl) (allIn (by repeat (first | exact trivial | refine ⟨rfl, ?_⟩))) (by first | exact Le.refl _ | assumption) (x := .v (.slice ad y.done.length cd)) ((quiet_loadR (k := 1) (by rw [hty]; rfl) rfl (by simp [TK.agg]) rfl (by simp only []; omega)).cast (by exact encF_ld (j := 3) (by omega) rfl)) ?_
    refine st_ ?_
    refine hu_takeB 4 [4, 7] rfl (by kernel_rfl) (by kernel_rfl) (by kernel_rfl) (by kernel_rfl) (fun c a w v => hQp c a w _ v) (by rw [hnt]; rfl) (allIn (by repeat (first | exact trivial | refine ⟨rfl, ?_⟩))) (by first | exact Le.refl _ | assumption) (quiet_op (by rw [hty]; first | rfl | (refine st_ ?_; rfl))) ?_; refine st_ ?_
    refine hu_take0 5 rfl (by kernel_rfl) (by kernel_rfl) (by kernel_rfl) (by decide) (fun c a w v => hQp c a w _ v) (by rw [hnt]; rfl) (allIn (by repeat (first | exact trivial | refine ⟨rfl, ?_⟩))) (by first | exact Le.refl _ | assumption) (quiet_op (by rw [hty]; first | rfl | (refine st_ ?_; rfl))) ?_; refine st_ ?_
    refine hu_one 6 rfl (by kernel_rfl) ?_
    refine rn_ ?_; intros
    refine hs_ ?_
    refine hu_last 7 [] rfl (by kernel_rfl) rfl ?_
    refine go_appendL 3 (by rw [hnt]; rfl) (by rw [hty]; rfl) (by rw [hty]; rfl) (by decide) rfl rfl rfl rfl (src_own 3 rfl rfl) rfl (by simp [dens, SV.den, Value.oneCell']) (by omega) (by simp only []; omega) ?_
    intro v6
    refine go_rowcases 3 rfl (fun _ h _ => by omega) ?_
    rintro g3 cap3 rfl hcap3 hlen3
    refine rn_ ?_; intros
    have hrv2 := VT.rep_mono hle2 hv
    have hfs3 : fsOk G2 (⟨y.fn, y.nd, y.vars, y.done ++ [v]⟩ :: l) (⟨y.fn, y.nd, .slice av y.vars.length cv', ⟨42, 3, .slice (some ⟨g3, 0, none⟩) (y.done.length + 1) cap3, y.done.length + 1, yxs ++ [.int .i64 v.k, .int .i64 v.n, .slice a9 v.l.length c9]⟩⟩ :: r2) :=
      ⟨_, _, rfl, ⟨rfl, rfl, x3, x4, x5, Rp.S_mono hle2 x6, ⟨rfl, rfl, by simp, Rp.L_append (Rp.L_mono hle2 d4) (Rp.L_single ⟨_, rfl, hrv2, htv1⟩), by simp; omega, some ⟨g3, 0, none⟩, cap3, by simp, by simp; omega⟩⟩, hr2.mono hle2⟩
    refine tq_ 8 rfl (x := .v (.pointer (some ⟨g3, y.done.length * 3, none⟩))) ((quiet_index (by rw [hty]; rfl) (by rw [hty]; rfl) rfl rfl rfl (by omega) (by omega)).cast (by simp [SV.den])) ?_
    refine st_ ?_
    refine tq_ 10 rfl (quiet_op (by rw [hty]; first | rfl | (refine st_ ?_; rfl))) ?_; refine st_ ?_
    refine tq_ 11 rfl (quiet_op (by rw [hty]; first | rfl | (refine st_ ?_; rfl))) ?_; refine st_ ?_
    refine h_two 9 12 rfl rfl (by kernel_rfl) ?_ ?_
    · refine rn_ ?_; intros
      refine go_storeR (k := 3) (xs' := yxs ++ [.int .i64 v.k, .int .i64 v.n, .slice a9 v.l.length c9]) (by rw [hnt]; rfl) (by rw [hty]; rfl) rfl rfl rfl rfl rfl rfl (lay_end (by omega) rfl) ?_
      refine rn_ ?_; intros
      refine hs_ ?_
      refine h_one 12 rfl (by kernel_rfl) ?_
      refine go_storeR (k := 1) (xs' := encF (⟨y.fn, y.nd, .slice av y.vars.length cv', ⟨42, 3, .slice (some ⟨g3, 0, none⟩) (y.done.length + 1) cap3, y.done.length + 1, yxs ++ [.int .i64 v.k, .int .i64 v.n, .slice a9 v.l.length c9]⟩⟩ :: r2)) (by rw [hnt]; rfl) (by rw [hty]; rfl) rfl rfl rfl rfl rfl rfl (encF_lay (j := 3) (us := [.slice (some ⟨g3, 0, none⟩) (y.done.length + 1) cap3]) (by omega) rfl rfl) ?_
      refine rn_ ?_; intros
      refine hs_ ?_
      refine h_end (by kernel_rfl) ?_
      refine rn_ ?_; intros
      refine go_callT [0, 1, 2, 3] (by rw [hnt]; rfl) (by rw [hP]; kernel_rfl) rfl rfl rfl (by rw [hmh]; simp) (by rw [hP]; exact desc_ok b cb p ps ⟨s.st, s.val, ⟨y.fn, y.nd, y.vars, y.done ++ [v]⟩ :: l⟩ 600 o1 _ G2 hc2 hp2 ⟨vl, _, b1, b2, b3, ⟨y.fn, y.nd, .slice av y.vars.length cv', ⟨42, 3, .slice (some ⟨g3, 0, none⟩) (y.done.length + 1) cap3, y.done.length + 1, yxs ++ [.int .i64 v.k, .int .i64 v.n, .slice a9 v.l.length c9]⟩⟩ :: r2, Z3, VT.rep_mono hle2 hvl, htv, hfs3, by simp at hl256 ⊢; omega, rfl⟩ ho1) ?_
      rintro v6 G6 ow6 (hle6 : Le G2 G6) ⟨vl6, fs6, c1, c2, c3, rs6, Z6, w1, w2, w3, w4, w5, rfl⟩
      simp only [setO, stk, fhO, frO, fzO, fdO]
      refine rn_ ?_; intros
      have hleA := hle2.trans hle6
      refine x_endT hQ hmh hb0 rfl (by first | (simp; done) | decide) rfl rfl (by rw [hrest]; rfl) (by first | exact Le.refl _ | assumption | exact hleA) rfl (by simp only [enumO]; exact (by repeat (first | exact plain_nil | refine plain_cons (fun _ h => h) ?_))) ?_
      intro _
      exact ⟨vl6, fs6, c1, c2, c3, rs6, Z6, w1, w2, w3, w4, w5, rfl⟩
    · refine rn_ ?_; intros
      refine go_storeR (k := 1) (xs' := encF (⟨y.fn, y.nd, .slice av y.vars.length cv', ⟨42, 3, .slice (some ⟨g3, 0, none⟩) (y.done.length + 1) cap3, y.done.length + 1, yxs ++ [.int .i64 v.k, .int .i64 v.n, .slice a9 v.l.length c9]⟩⟩ :: r2)) (by rw [hnt]; rfl) (by rw [hty]; rfl) rfl rfl rfl rfl rfl rfl (encF_lay (j := 3) (us := [.slice (some ⟨g3, 0, none⟩) (y.done.length + 1) cap3]) (by omega) rfl rfl) ?_
      refine rn_ ?_; intros
      refine hs_ ?_
      refine h_one 9 rfl (by kernel_rfl) ?_
      refine go_storeR (k := 3) (xs' := yxs ++ [.int .i64 v.k, .int .i64 v.n, .slice a9 v.l.length c9]) (by rw [hnt]; rfl) (by rw [hty]; rfl) rfl rfl rfl rfl rfl rfl (lay_end (by omega) rfl) ?_
      refine rn_ ?_; intros
      refine hs_ ?_
      refine h_end (by kernel_rfl) ?_
      refine rn_ ?_; intros
      refine go_callT [0, 1, 2, 3] (by rw [hnt]; rfl) (by rw [hP]; kernel_rfl) rfl rfl rfl (by rw [hmh]; simp) (by rw [hP]; exact desc_ok b cb p ps ⟨s.st, s.val, ⟨y.fn, y.nd, y.vars, y.done ++ [v]⟩ :: l⟩ 600 o1 _ G2 hc2 hp2 ⟨vl, _, b1, b2, b3, ⟨y.fn, y.nd, .slice av y.vars.length cv', ⟨42, 3, .slice (some ⟨g3, 0, none⟩) (y.done.length + 1) cap3, y.done.length + 1, yxs ++ [.int .i64 v.k, .int .i64 v.n, .slice a9 v.l.length c9]⟩⟩ :: r2, Z3, VT.rep_mono hle2 hvl, htv, hfs3, by simp at hl256 ⊢; omega, rfl⟩ ho1) ?_
      rintro v6 G6 ow6 (hle6 : Le G2 G6) ⟨vl6, fs6, c1, c2, c3, rs6, Z6, w1, w2, w3, w4, w5, rfl⟩
      simp only [setO, stk, fhO, frO, fzO, fdO]
      refine rn_ ?_; intros
      have hleA := hle2.trans hle6
      refine x_endT hQ hmh hb0 rfl (by first | (simp; done) | decide) rfl rfl (by rw [hrest]; rfl) (by first | exact Le.refl _ | assumption | exact hleA) rfl (by simp only [enumO]; exact (by repeat (first | exact plain_nil | refine plain_cons (fun _ h => h) ?_))) ?_
      intro _
      exact ⟨vl6, fs6, c1, c2, c3, rs6, Z6, w1, w2, w3, w4, w5, rfl⟩
end Go.Proofs.YtpppkednpamhbaaGreat
namespace Go.Proofs.YtpppkednpamhbaaGreat
set_option linter.unusedSimpArgs false
set_option linter.unusedVariables false
open Go.Sx
set_option maxHeartbeats 16000000
set_option maxRecDepth 20000
theorem step_ok (b cb : Nat) (p : Pr) (ps : Value) (s o : Fb) (e : Int) (ow : Lds) (G : Hp) (hc : At G cb 0 [ps]) (hp : rF.S G p ps) (hfb : fbO G b cb s ow) (h : stepP p s = some (e, o)) :
    PureT Tryz.prog 30 [.pointer (some ⟨b, 0, none⟩)] G ow (fun v G' ow' => v = .int .i64 e ∧ fbO G' b cb o ow') := by
  obtain ⟨vl, fs, b1, b2, b3, rs, Z, hvl, htv, hfs, hl256, hdn, rfl⟩ := hfb
  unfold stepP at h
  refine enterT ty tyok Tryz.func30 rfl Tryz.ntmps30 [.p 0 b 0] (by simp) (by simp) (plainL (by simp only [enumO]; exact (by repeat (first | exact plain_nil | refine plain_cons (fun _ h => h) ?_)))) ?_
  intro C w0 hP hQ hnt hty hmb hmh hro hG0 hb0; have hQp := qp_body hQ; refine st_ ?_
  generalize hrest : restB w0 _ G = Zr
  simp only [enumO, frO, fzO, fdO, List.cons_append, List.nil_append]
  refine rn_ ?_; intros
  refine go_callW [0] (by rw [hnt]; rfl) (by rw [hP]; kernel_rfl) rfl rfl rfl (.inl (by rw [hmh]; simp)) (by rw [hP]; exact miss_ok b cb s.st s.val.k s.val.n vl fs G) ?_
  rintro v5 G1 ow5 (hle1 : Le G G1) ⟨rfl, rfl⟩
  simp only [setO, stk, fhO]
  refine rn_ ?_; intros
  (refine x_split rfl rfl rfl (fun hc => absurd hc (by first | decide +kernel | (simp; first | done | fail))) (fun _ => ?_); refine st_ ?_; (refine ru_ ?_; intros))
  refine rn_ ?_; intros
  refine x_split rfl rfl rfl (fun h1 => ?_) (fun h1 => ?_) <;> (refine st_ ?_; (refine ru_ ?_; intros))
  · have h1 : s.st ≠ 1 := by simpa using h1
    rw [if_pos h1] at h
    cases h
    refine rn_ ?_; intros
    refine x_retT rfl hQ hmh hb0 rfl (by first | (simp; done) | decide) rfl (by rw [hty]; simp only [so, sq, zy, zz, tyE, SO', SQ', opQ, opStore, opAlloc, ev, putS, dOk, cv, SV.cs, SV.one, SV.bool?, eqB, Value.oneCell', ldOwn, binInt, binConst, binBool, binStr, isC, TK.agg, rv, rv1, ldV, resOne, resV, Nat.reduceAdd, Nat.reduceMul, Nat.reduceSub, Nat.reduceLT, Nat.reduceLeDiff, Nat.reduceEqDiff, Nat.reduceBEq, reduceIte, reduceCtorEq, eq_self]; try rfl) rfl (by rw [hrest]; rfl) (by first | exact Le.refl _ | assumption) rfl (by simp only [enumO]; exact (by repeat (first | exact plain_nil | refine plain_cons (fun _ h => h) ?_))) ?_; simp only [SV.den, resV, dens]
    exact ⟨by first | rfl | trivial, vl, fs, b1, b2, b3, rs, Z, VT.rep_mono hle1 hvl, htv, hfs.mono hle1, hl256, fun m x q q' => Rp.S_mono hle1 (hdn m x q q'), rfl⟩
  have h1 : ¬ s.st ≠ 1 := by simpa using h1
  rw [if_neg h1] at h
  cases hsl : s.l with
  | nil => rw [hsl] at h; cases h
  | cons m l =>
  rw [hsl] at h hfs hl256 hdn
  simp only [] at h
  cases hnd : ndAt p m.fn m.nd with
  | none => rw [hnd] at h; cases h
  | some nd =>
  rw [hnd] at h
  simp only [] at h
  have hc1 := hc.mono hle1
  have hp1 := Rp.S_mono hle1 hp
  refine rn_ ?_; intros
  refine go_callW [0, 1] (by rw [hnt]; rfl) (by rw [hP]; kernel_rfl) rfl rfl rfl (.inl (by rw [hmh]; simp)) (by rw [hP]; exact last_ok b cb b1 s.st s.val.k s.val.n vl fs ps p m l rs nd G1 hc1 hp1 (hfs.mono hle1) hnd (by simp at hl256; omega)) ?_
  rintro v G2 ow2 (hle2 : Le G1 G2) ⟨rfl, g, cap, sl, rfl, rfl, hrI⟩
  obtain ⟨asl, csl, rfl⟩ := Rp.S_slice hrI
  have hrI := Rp.S_mono hle2 hrI
  have hle12 := hle1.trans hle2
  have hc2 := hc.mono hle12
  have hp2 := Rp.S_mono hle12 hp
  have hfs := hfs.mono hle12
  obtain ⟨x, r, rfl, hx, hr⟩ := hfs
  have hds := Rp.S_mono hle12 (hdn m x rfl rfl)
  obtain ⟨xfn, xnd, xvars, xe, xsz, xdv, xn, xxs⟩ := x
  obtain ⟨x1, x2, x3, x4, x5, x6, x7⟩ := hx
  obtain ⟨d1, d2, d3, d4, d5, ad, cd, d6, d7⟩ := x7
  simp only at x1 x2 x5 x6 d1 d2 d3 d4 d5 d6 hds
  subst x1 x2 d1 d2 d3 d6
  obtain ⟨av, cv', rfl⟩ := Rp.S_slice x6
  have hlen := encF_len (⟨m.fn, m.nd, .slice av m.vars.length cv', ⟨42, 3, .slice ad m.done.length cd, m.done.length, xxs⟩⟩ :: r)
  simp only [List.length_cons] at hlen hl256
  have hrl := hr.len
  obtain ⟨_, _, _, _, _, _, _, _, _, _, _, _, _, _, _, _, hop64, hn64, _⟩ := nd_at hp hnd
  simp only [setO, stk, frO, fhO, List.length_cons, List.drop_succ_cons, List.drop_zero]
  refine rn_ ?_; intros
  rename_i b4
  refine x_split rfl rfl rfl (fun h2 => ?_) (fun h2 => ?_) <;> (refine st_ ?_; (refine ru_ ?_; intros))
  · have h2 : nd.op = 13 := by simpa using h2
    rw [if_pos h2] at h
    obtain ⟨o2, ho2, heq⟩ := Option.map_eq_some_iff.1 h
    cases heq
    obtain ⟨o1, ho1, rfl⟩ := Option.map_eq_some_iff.1 ho2
    refine rn_ ?_; intros
    refine x_heldP [(1, b1, .row (.slice (some ⟨g, 0, none⟩) (r.length + 1) cap) 90 4 (r.length + 1) (encF (⟨m.fn, m.nd, .slice av m.vars.length cv', ⟨42, 3, .slice ad m.done.length cd, m.done.length, xxs⟩⟩ :: r))), (1000, b4, .c 110 [.v (.int .i64 nd.op), .v (.int .i64 nd.n), .v (.slice asl nd.l.length csl)])] 9 rfl (by rw [hP]; kernel_rfl) rfl rfl rfl ?_; refine st_ ?_
    refine hu_take0 0 rfl (by kernel_rfl) (by kernel_rfl) (by kernel_rfl) (by decide) (fun c a w v => hQp c a w _ v) (by rw [hnt]; rfl) (allIn (by repeat (first | exact trivial | refine ⟨rfl, ?_⟩))) (by first | exact Le.refl _ | assumption) (quiet_op (by rw [hty]; first | rfl | (refine st_ ?_; rfl))) ?_; refine st_ ?_
    refine hu_take0 1 rfl (by kernel_rfl) (by kernel_rfl) (by kernel_rfl) (by decide) (fun c a w v => hQp c a w _ v) (by rw [hnt]; rfl) (allIn (by repeat (first | exact trivial | refine ⟨rfl, ?_⟩))) (by first | exact Le.refl _ | assumption) (quiet_op (by rw [hty]; first | rfl | (refine st_ ?_; rfl))) ?_; refine st_ ?_
    refine hu_takeB 2 [2, 9] rfl (by kernel_rfl) (by kernel_rfl) (by kernel_rfl) (by kernel_rfl) (fun c a w v => hQp c a w _ v) (by rw [hnt]; rfl) (allIn (by repeat (first | exact trivial | refine ⟨rfl, ?_⟩))) (by first | exact Le.refl _ | assumption) (quiet_op (by rw [hty]; first | rfl | (refine st_ ?_; rfl))) ?_; refine st_ ?_
    refine hu_take0 3 rfl (by kernel_rfl) (by kernel_rfl) (by kernel_rfl) (by decide) (fun c a w v => hQp c a w _ v) (by rw [hnt]; rfl) (allIn (by repeat (first | exact trivial | refine ⟨rfl, ?_⟩))) (by first | exact Le.refl _ | assumption) (quiet_op (by rw [hty]; first | rfl | (refine st_ ?_; rfl))) ?_; refine st_ ?_
    refine hu_take0 4 rfl (by kernel_rfl) (by kernel_rfl) (by kernel_rfl) (by decide) (fun c a w v => hQp c a w _ v) (by rw [hnt]; rfl) (allIn (by repeat (first | exact trivial | refine ⟨rfl, ?_⟩))) (by first | exact Le.refl _ | assumption) (quiet_op (by rw [hty]; first | rfl | (refine st_ ?_; rfl))) ?_; refine st_ ?_
    refine hu_take0 5 rfl (by kernel_rfl) (by kernel_rfl) (by kernel_rfl) (by decide) (fun c a w v => hQp c a w _ v) (by rw [hnt]; rfl) (allIn (by repeat (first | exact trivial | refine ⟨rfl, ?_⟩))) (by first | exact Le.refl _ | assumption) (quiet_op (by rw [hty]; first | rfl | (refine st_ ?_; rfl))) ?_; refine st_ ?_
    refine hu_takeB 6 [6, 9] rfl (by kernel_rfl) (by kernel_rfl) (by kernel_rfl) (by kernel_rfl) (fun c a w v => hQp c a w _ v) (by rw [hnt]; rfl) (allIn (by repeat (first | exact trivial | refine ⟨rfl, ?_⟩))) (by first | exact Le.refl _ | assumption) (x := .v (.slice ad m.done.length cd)) ((quiet_loadR (k := 1) (by rw [hty]; rfl) rfl (by simp [TK.agg]) rfl (by simp only []; omega)).cast (by exact encF_ld (j := 3) (by omega) rfl)) ?_
    refine st_ ?_
    refine hu_take0 7 rfl (by kernel_rfl) (by kernel_rfl) (by kernel_rfl) (by decide) (fun c a w v => hQp c a w _ v) (by rw [hnt]; rfl) (allIn (by repeat (first | exact trivial | refine ⟨rfl, ?_⟩))) (by first | exact Le.refl _ | assumption) (quiet_op (by rw [hty]; first | rfl | (refine st_ ?_; rfl))) ?_; refine st_ ?_
    refine hu_take0 8 rfl (by kernel_rfl) (by kernel_rfl) (by kernel_rfl) (by decide) (fun c a w v => hQp c a w _ v) (by rw [hnt]; rfl) (allIn (by repeat (first | exact trivial | refine ⟨rfl, ?_⟩))) (by first | exact Le.refl _ | assumption) (quiet_op (by rw [hty]; first | rfl | (refine st_ ?_; rfl))) ?_; refine st_ ?_
    refine hu_last 9 [] rfl (by kernel_rfl) rfl ?_
    refine go_storeR (k := 1) (xs' := encF (⟨nd.n, 0, .slice ad m.done.length cd, rw0⟩ :: r)) (by rw [hnt]; rfl) (by rw [hty]; rfl) rfl rfl rfl rfl rfl rfl (encF_lay (j := 0) (us := [.int .i64 nd.n, .int .i64 0, .slice ad m.done.length cd, .slice none 0 0]) (by omega) rfl rfl) ?_
    refine rn_ ?_; intros
    refine h_end (by kernel_rfl) ?_
    refine rn_ ?_; intros
    refine go_callT [0, 1, 2, 3] (by rw [hnt]; rfl) (by rw [hP]; kernel_rfl) rfl rfl rfl (by rw [hmh]; simp) (by rw [hP]; exact desc_ok b cb p ps ⟨s.st, s.val, ⟨nd.n, 0, m.done, []⟩ :: l⟩ 600 o1 _ G2 hc2 hp2 ⟨vl, _, b1, b2, b3, ⟨nd.n, 0, .slice ad m.done.length cd, rw0⟩ :: r, Z, VT.rep_mono hle12 hvl, htv, ⟨_, _, rfl, ⟨rfl, rfl, hn64, (by simp [isI64] : isI64 0), fun _ _ _ q => by injection q with _ q2 q3; omega, hds, rw0_ok _⟩, hr⟩, by simp; omega, rfl⟩ ho1) ?_
    rintro v6 G6 ow6 (hle6 : Le _ G6) ⟨vl6, fs6, c1, c2, c3, rs6, Z6, w1, w2, w3, w4, w5, rfl⟩
    simp only [setO, stk, fhO, frO, fzO, fdO]
    refine rn_ ?_; intros
    have hleA := hle12.trans hle6
    refine x_retT rfl hQ hmh hb0 rfl (by first | (simp; done) | decide) rfl (by rw [hty]; simp only [so, sq, zy, zz, tyE, SO', SQ', opQ, opStore, opAlloc, ev, putS, dOk, cv, SV.cs, SV.one, SV.bool?, eqB, Value.oneCell', ldOwn, binInt, binConst, binBool, binStr, isC, TK.agg, rv, rv1, ldV, resOne, resV, Nat.reduceAdd, Nat.reduceMul, Nat.reduceSub, Nat.reduceLT, Nat.reduceLeDiff, Nat.reduceEqDiff, Nat.reduceBEq, reduceIte, reduceCtorEq, eq_self]; try rfl) rfl (by rw [hrest]; rfl) (by first | exact Le.refl _ | assumption) rfl (by simp only [enumO]; exact (by repeat (first | exact plain_nil | refine plain_cons (fun _ h => h) ?_))) ?_; simp only [SV.den, resV, dens]
    exact ⟨by first | rfl | trivial, vl6, fs6, c1, c2, c3, rs6, Z6, w1, w2, w3, w4, w5, rfl⟩
  have h2 : ¬ nd.op = 13 := by simpa using h2
  rw [if_neg h2] at h
  cases hres : resF m nd with
  | none => rw [hres] at h; cases h
  | some ov =>
  rw [hres] at h
  refine rn_ ?_; intros
  refine go_callW [1] (by rw [hnt]; rfl) (by rw [hP]; kernel_rfl) rfl rfl rfl (.inl (by rw [hmh]; simp)) (by rw [hP]; exact result_ok b1 g cap m ⟨m.fn, m.nd, .slice av m.vars.length cv', ⟨42, 3, .slice ad m.done.length cd, m.done.length, xxs⟩⟩ r nd _ ov (l.length * 4) G2 (by rw [hrl]) x6 hds hrI hn64 hres) ?_
  rintro v3 G3 ow3 (hle3 : Le G2 G3) ⟨rfl, hpost⟩
  have hle13 := hle12.trans hle3
  cases ov with
  | none =>
    simp only [] at h
    cases h
    obtain ⟨k5, n5, e5, rfl, he5⟩ := hpost
    simp only [setO, stk, frO, List.length_cons, Nat.one_ne_zero, if_false, if_true]
    refine st_ ?_
    refine rn_ ?_; intros
    refine x_split rfl rfl rfl (fun h9 => ?_) (fun h9 => ?_) <;> (refine st_ ?_; (refine ru_ ?_; intros))
    rotate_left
    · exact absurd h9 (by simpa using he5)
    refine rn_ ?_; intros
    refine go_callW [0] (by rw [hnt]; rfl) (by rw [hP]; kernel_rfl) rfl rfl rfl (.inl (by rw [hmh]; simp)) (by rw [hP]; exact fail_ok b cb s.st s.val.k s.val.n vl _ _) ?_
    rintro v5 G5 ow5 (hle5 : Le _ G5) rfl
    simp only [setO, stk, fhO]
    refine rn_ ?_; intros
    refine go_rownil 1 rfl ?_
    refine go_znull 2 rfl ?_
    intro Z5
    refine st_ ?_
    have hleA := hle13.trans hle5
    refine x_retT rfl hQ hmh hb0 rfl (by first | (simp; done) | decide) rfl (by rw [hty]; simp only [so, sq, zy, zz, tyE, SO', SQ', opQ, opStore, opAlloc, ev, putS, dOk, cv, SV.cs, SV.one, SV.bool?, eqB, Value.oneCell', ldOwn, binInt, binConst, binBool, binStr, isC, TK.agg, rv, rv1, ldV, resOne, resV, Nat.reduceAdd, Nat.reduceMul, Nat.reduceSub, Nat.reduceLT, Nat.reduceLeDiff, Nat.reduceEqDiff, Nat.reduceBEq, reduceIte, reduceCtorEq, eq_self]; try rfl) rfl (by rw [hrest]; rfl) (by first | exact Le.refl _ | assumption) rfl (by simp only [enumO]; exact (by repeat (first | exact plain_nil | refine plain_cons (fun _ h => h) ?_))) ?_; simp only [SV.den, resV, dens]
    exact ⟨by first | rfl | trivial, vl, .slice none 0 0, b1, b2, b3, [], Z5, VT.rep_mono hleA hvl, htv, rfl, by simp, fun _ _ q => by simp at q, rfl⟩
  | some y =>
    simp only [] at h
    obtain ⟨o2, ho2, heq⟩ := Option.map_eq_some_iff.1 h
    cases heq
    obtain ⟨sy, rfl, hry, hyt⟩ := hpost
    obtain ⟨a8, c8, rfl⟩ := VT.rep_slice hry
    have hc3 := hc.mono hle13
    have hp3 := Rp.S_mono hle13 hp
    simp only [setO, stk, frO, List.length_cons, Nat.one_ne_zero, if_false, if_true]
    refine st_ ?_
    refine rn_ ?_; intros
    (refine x_split rfl rfl rfl (fun hc => absurd hc (by first | decide +kernel | (simp; first | done | fail))) (fun _ => ?_); refine st_ ?_; (refine ru_ ?_; intros))
    refine rn_ ?_; intros
    refine go_callT [0, 1, 2, 3] (by rw [hnt]; rfl) (by rw [hP]; kernel_rfl) rfl rfl rfl (by rw [hmh]; simp) (by rw [hP]; exact prod_ok b cb p ps s o y _ _ G3 hc3 hp3 ⟨vl, _, b1, b2, b3, ⟨m.fn, m.nd, .slice av m.vars.length cv', ⟨42, 3, .slice ad m.done.length cd, m.done.length, xxs⟩⟩ :: r, Z, VT.rep_mono hle13 hvl, htv, by rw [hsl]; exact ⟨_, _, rfl, ⟨rfl, rfl, x3, x4, x5, Rp.S_mono hle3 x6, ⟨rfl, rfl, rfl, Rp.L_mono hle3 d4, d5, _, _, rfl, d7⟩⟩, hr.mono hle3⟩, by rw [hsl]; exact hl256, fun m' x' q q' => by rw [hsl] at q; cases q; cases q'; exact Rp.S_mono hle3 hds, rfl⟩ hry hyt ho2) ?_
    rintro v6 G6 ow6 (hle6 : Le _ G6) ⟨vl6, fs6, c1, c2, c3, rs6, Z6, w1, w2, w3, w4, w5, rfl⟩
    simp only [setO, stk, fhO, frO, fzO, fdO]
    refine rn_ ?_; intros
    have hleA := hle13.trans hle6
    refine x_retT rfl hQ hmh hb0 rfl (by first | (simp; done) | decide) rfl (by rw [hty]; simp only [so, sq, zy, zz, tyE, SO', SQ', opQ, opStore, opAlloc, ev, putS, dOk, cv, SV.cs, SV.one, SV.bool?, eqB, Value.oneCell', ldOwn, binInt, binConst, binBool, binStr, isC, TK.agg, rv, rv1, ldV, resOne, resV, Nat.reduceAdd, Nat.reduceMul, Nat.reduceSub, Nat.reduceLT, Nat.reduceLeDiff, Nat.reduceEqDiff, Nat.reduceBEq, reduceIte, reduceCtorEq, eq_self]; try rfl) rfl (by rw [hrest]; rfl) (by first | exact Le.refl _ | assumption) rfl (by simp only [enumO]; exact (by repeat (first | exact plain_nil | refine plain_cons (fun _ h => h) ?_))) ?_; simp only [SV.den, resV, dens]
    exact ⟨by first | rfl | trivial, vl6, fs6, c1, c2, c3, rs6, Z6, w1, w2, w3, w4, w5, rfl⟩
end Go.Proofs.YtpppkednpamhbaaGreat
namespace Go.Proofs.YtpppkednpamhbaaGreat
set_option linter.unusedSimpArgs false
set_option linter.unusedVariables false
open Go.Sx
set_option maxHeartbeats 16000000
set_option maxRecDepth 20000
theorem run_okN (b cb : Nat) (p : Pr) (ps : Value) (s o : Fb) (most : Int) (n : Nat) (ow : Lds) (G : Hp) (hm1 : most ≤ 1000000) (hc : At G cb 0 [ps]) (hp : rF.S G p ps) (hfb : fbO G b cb s ow) (h : runP p most.toNat s = some (n, o)) :
    PureT Tryz.prog 23 [.pointer (some ⟨b, 0, none⟩), .int .i64 most] G ow (fun v G' ow' => v = .tuple #[.int .i64 n, .int .i64 0] ∧ fbO G' b cb o ow') := by
  obtain ⟨vl, fs, b1, b2, b3, rs, Z, hvl, htv, hfs, hl256, hdn, rfl⟩ := hfb
  refine enterT ty tyok Tryz.func23 rfl Tryz.ntmps23 [.p 0 b 0, .v (.int .i64 most)] (by simp) (by simp) (plainL (by simp only [enumO]; exact (by repeat (first | exact plain_nil | refine plain_cons (fun _ h => h) ?_)))) ?_
  intro C w0 hP hQ hnt hty hmb hmh hro hG0 hb0; have hQp := qp_body hQ; refine st_ ?_
  generalize hrest : restB w0 _ G = Zr
  simp only [enumO, frO, fzO, fdO, List.cons_append, List.nil_append]
  refine rn_ ?_; intros
  refine go_callW [0] (by rw [hnt]; rfl) (by rw [hP]; kernel_rfl) rfl rfl rfl (.inl (by rw [hmh]; simp)) (by rw [hP]; exact miss_ok b cb s.st s.val.k s.val.n vl fs G) ?_
  rintro v5 G1 ow5 (hle1 : Le G G1) ⟨rfl, rfl⟩
  simp only [setO, stk, fhO]
  refine rn_ ?_; intros
  (refine x_split rfl rfl rfl (fun hc => absurd hc (by first | decide +kernel | (simp; first | done | fail))) (fun _ => ?_); refine st_ ?_; (refine ru_ ?_; intros))
  refine rn_ ?_; intros
  refine go_keep [0, 1, 4, 5, 6] [0, 1, 2, 3, 999] ?_
  refine st_ ?_
  refine x_loop rfl (fun q s' => ∃ (k : Nat) (s1 : Fb) (G1 : Hp) (j : Nat) (vl fs : Value) (b1 b2 b3 : Nat) (rs : List Fw) (Z : Nat → Prop), Le G G1 ∧ k + q = most.toNat ∧ runP p q s1 = some (j, o) ∧ k + j = n ∧ s1.val.rep G1 vl ∧ tsz s1.val ≤ 1000 ∧ fsOk G1 s1.l rs ∧ s1.l.length ≤ 256 ∧ (∀ m x, s1.l.head? = some m → rs.head? = some x → rW.S G1 m.done x.done.v) ∧
    s' = ⟨[(0, .p 0 b 0), (1, .v (.int .i64 most)), (4, .v (.int .i64 0)), (5, .v (.int .i64 0)), (6, .v (.int .i64 k))], [(0, b, .c 93 [.v (.pointer (some ⟨cb, 0, none⟩)), .v (.int .i64 s1.st), .v (.int .i64 s1.val.k), .v (.int .i64 s1.val.n), .v vl, .v fs]), (1, b1, .row fs 90 4 rs.length (encF rs)), (2, b2, .z (ZR ((rs.drop 1).map (·.done))) Z Z), (3, b3, .row rw0.v rw0.e rw0.size rw0.n rw0.xs), (999, 0, .z (ZRest w0) Zr Zr)], G1, []⟩)
    ⟨0, s, G1, n, vl, fs, b1, b2, b3, rs, Z, hle1, by omega, h, by omega, VT.rep_mono hle1 hvl, htv, hfs.mono hle1, hl256, fun m x q q' => Rp.S_mono hle1 (hdn m x q q'), rfl⟩ ?_
  clear hvl htv hfs hl256 hdn hle1 h
  rintro q s' ⟨k, s1, G1, j, vl, fs, b1, b2, b3, rs, Z, hle1, hkq, hrun, hkj, hvl, htv, hfs, hl256, hdn, rfl⟩ ih
  have hc1 := hc.mono hle1
  have hp1 := Rp.S_mono hle1 hp
  refine rn_ ?_; intros
  refine go_gsplit rfl rfl (fun h1 => ?_) (fun h1 => ?_) <;> (refine st_ ?_; (refine rn_ ?_; intros))
  · have hlt : (k : Int) < most := by simpa using h1
    cases q with
    | zero => exfalso; omega
    | succ q =>
    simp only [runP] at hrun
    cases hst : stepP p s1 with
    | none => rw [hst] at hrun; cases hrun
    | some es =>
    obtain ⟨e, s2⟩ := es
    rw [hst] at hrun
    simp only [] at hrun
    refine go_callT [0, 1, 2, 3] (by rw [hnt]; rfl) (by rw [hP]; kernel_rfl) rfl rfl rfl (by rw [hmh]; simp) (by rw [hP]; exact step_ok b cb p ps s1 s2 e _ G1 hc1 hp1 ⟨vl, fs, b1, b2, b3, rs, Z, hvl, htv, hfs, hl256, hdn, rfl⟩ hst) ?_
    rintro v6 G6 ow6 (hle6 : Le _ G6) ⟨rfl, vl6, fs6, c1, c2, c3, rs6, Z6, w1, w2, w3, w4, w5, rfl⟩
    simp only [setO, stk, fhO, frO, fzO, fdO]
    have hleA := hle1.trans hle6
    refine rn_ ?_; intros
    refine x_split rfl rfl rfl (fun h9 => ?_) (fun h9 => ?_) <;> (refine st_ ?_; (refine ru_ ?_; intros))
    · have he : e = 0 := by simpa using h9
      rw [if_pos he] at hrun
      obtain ⟨⟨j2, o2⟩, hj, hq⟩ := Option.map_eq_some_iff.1 hrun
      cases hq
      refine rn_ ?_; intros
      rw [wr (n := (k : Int) + 1) (by omega) (by omega)]
      refine go_keep [0, 1, 4, 5, 6] [0, 1, 2, 3, 999] ?_
      refine st_ ?_
      exact ih q _ (by omega) ⟨k + 1, s2, G6, j2, vl6, fs6, c1, c2, c3, rs6, Z6, hleA, by omega, hj, by omega, w1, w2, w3, w4, w5, rfl⟩
    · have he : ¬ e = 0 := by simpa using h9
      rw [if_neg he] at hrun
      cases hrun
      refine rn_ ?_; intros
      refine x_retT rfl hQ hmh hb0 rfl (by first | (simp; done) | decide) rfl (by rw [hty]; simp only [so, sq, zy, zz, tyE, SO', SQ', opQ, opStore, opAlloc, ev, putS, dOk, cv, SV.cs, SV.one, SV.bool?, eqB, Value.oneCell', ldOwn, binInt, binConst, binBool, binStr, isC, TK.agg, rv, rv1, ldV, resOne, resV, Nat.reduceAdd, Nat.reduceMul, Nat.reduceSub, Nat.reduceLT, Nat.reduceLeDiff, Nat.reduceEqDiff, Nat.reduceBEq, reduceIte, reduceCtorEq, eq_self]; try rfl) rfl (by rw [hrest]; rfl) (by first | exact Le.refl _ | assumption) rfl (by simp only [enumO]; exact (by repeat (first | exact plain_nil | refine plain_cons (fun _ h => h) ?_))) ?_; simp only [SV.den, resV, dens]
      exact ⟨by rw [← hkj]; rfl, vl6, fs6, c1, c2, c3, rs6, Z6, w1, w2, w3, w4, w5, rfl⟩
  · have hge : ¬ (k : Int) < most := by simpa using h1
    cases q with
    | succ q => exfalso; omega
    | zero =>
    simp only [runP, Option.some.injEq, Prod.mk.injEq] at hrun
    obtain ⟨rfl, rfl⟩ := hrun
    refine rn_ ?_; intros
    refine x_retT rfl hQ hmh hb0 rfl (by first | (simp; done) | decide) rfl (by rw [hty]; simp only [so, sq, zy, zz, tyE, SO', SQ', opQ, opStore, opAlloc, ev, putS, dOk, cv, SV.cs, SV.one, SV.bool?, eqB, Value.oneCell', ldOwn, binInt, binConst, binBool, binStr, isC, TK.agg, rv, rv1, ldV, resOne, resV, Nat.reduceAdd, Nat.reduceMul, Nat.reduceSub, Nat.reduceLT, Nat.reduceLeDiff, Nat.reduceEqDiff, Nat.reduceBEq, reduceIte, reduceCtorEq, eq_self]; try rfl) rfl (by rw [hrest]; rfl) (by first | exact Le.refl _ | assumption) rfl (by simp only [enumO]; exact (by repeat (first | exact plain_nil | refine plain_cons (fun _ h => h) ?_))) ?_; simp only [SV.den, resV, dens]
    exact ⟨by rw [← hkj]; rfl, vl, fs, b1, b2, b3, rs, Z, hvl, htv, hfs, hl256, hdn, rfl⟩
theorem run_ok (b cb : Nat) (p : Pr) (ps : Value) (s o : Fb) (most : Int) (n : Nat) (ow : Lds) (G : Hp) (hm0 : 0 ≤ most) (hm1 : most ≤ 1000000) (hc : At G cb 0 [ps]) (hp : rF.S G p ps) (hfb : fbO G b cb s ow) (h : runP p most.toNat s = some (n, o)) :
    PureT Tryz.prog 23 [.pointer (some ⟨b, 0, none⟩), .int .i64 most] G ow (fun v G' ow' => v = .tuple #[.int .i64 n, .int .i64 0] ∧ fbO G' b cb o ow') :=
  run_okN b cb p ps s o most n ow G hm1 hc hp hfb h
theorem state_ok (b cb : Nat) (st k n : Int) (vl fs : Value) (G : Hp) :
    PureW Tryz.prog 27 [.pointer (some ⟨b, 0, none⟩)] G [fhO b cb st k n vl fs] (fun v _ ow => v = .int .i64 st ∧ ow = [fhO b cb st k n vl fs]) := by
  refine enterW ty tyok Tryz.func27 rfl Tryz.ntmps27 [.p 0 b 0] (by simp) (mh := 1) rfl ?_
  intro C hP hQ hnt hty hmb hmh hro hG0 hmub; have hQp := qp_body hQ; refine st_ ?_
  simp only [enumO]
  refine rn_ ?_; intros
  refine go_callW [0] (by rw [hnt]; rfl) (by rw [hP]; kernel_rfl) rfl rfl rfl (.inr (by rw [hmh]; decide)) (by rw [hP]; exact miss_ok b cb st k n vl fs G) ?_
  rintro v5 G1 ow5 (hle1 : Le G G1) ⟨rfl, rfl⟩
  simp only [setO, stk, fhO]
  refine rn_ ?_; intros
  (refine x_split rfl rfl rfl (fun hc => absurd hc (by first | decide +kernel | (simp; first | done | fail))) (fun _ => ?_); refine st_ ?_; (refine ru_ ?_; intros))
  refine rn_ ?_; intros
  refine x_retW rfl hQ hmb hmh hG0 hmub rfl rfl (by rw [hty]; simp only [so, sq, zy, zz, tyE, SO', SQ', opQ, opStore, opAlloc, ev, putS, dOk, cv, SV.cs, SV.one, SV.bool?, eqB, Value.oneCell', ldOwn, binInt, binConst, binBool, binStr, isC, TK.agg, rv, rv1, ldV, resOne, resV, Nat.reduceAdd, Nat.reduceMul, Nat.reduceSub, Nat.reduceLT, Nat.reduceLeDiff, Nat.reduceEqDiff, Nat.reduceBEq, reduceIte, reduceCtorEq, eq_self]; try rfl) rfl rfl (by simp only [enumO]; exact (by repeat (first | exact plain_nil | refine plain_cons (fun _ h => h) ?_))) ?_; simp only [SV.den, resV, dens]
  exact ⟨by first | rfl | trivial, rfl⟩
theorem frames_ok (b cb : Nat) (st k n : Int) (vl : Value) (ad : Option Addr) (m c : Nat) (G : Hp) :
    PureW Tryz.prog 22 [.pointer (some ⟨b, 0, none⟩)] G [fhO b cb st k n vl (.slice ad m c)] (fun v _ ow => v = .int .i64 m ∧ ow = [fhO b cb st k n vl (.slice ad m c)]) := by
  refine enterW ty tyok Tryz.func22 rfl Tryz.ntmps22 [.p 0 b 0] (by simp) (mh := 1) rfl ?_
  intro C hP hQ hnt hty hmb hmh hro hG0 hmub; have hQp := qp_body hQ; refine st_ ?_
  simp only [enumO]
  refine rn_ ?_; intros
  refine go_callW [0] (by rw [hnt]; rfl) (by rw [hP]; kernel_rfl) rfl rfl rfl (.inr (by rw [hmh]; decide)) (by rw [hP]; exact miss_ok b cb st k n vl _ G) ?_
  rintro v5 G1 ow5 (hle1 : Le G G1) ⟨rfl, rfl⟩
  simp only [setO, stk, fhO]
  refine rn_ ?_; intros
  (refine x_split rfl rfl rfl (fun hc => absurd hc (by first | decide +kernel | (simp; first | done | fail))) (fun _ => ?_); refine st_ ?_; (refine ru_ ?_; intros))
  refine rn_ ?_; intros
  refine x_retW rfl hQ hmb hmh hG0 hmub rfl rfl (by rw [hty]; simp only [so, sq, zy, zz, tyE, SO', SQ', opQ, opStore, opAlloc, ev, putS, dOk, cv, SV.cs, SV.one, SV.bool?, eqB, Value.oneCell', ldOwn, binInt, binConst, binBool, binStr, isC, TK.agg, rv, rv1, ldV, resOne, resV, Nat.reduceAdd, Nat.reduceMul, Nat.reduceSub, Nat.reduceLT, Nat.reduceLeDiff, Nat.reduceEqDiff, Nat.reduceBEq, reduceIte, reduceCtorEq, eq_self]; try rfl) rfl rfl (by simp only [enumO]; exact (by repeat (first | exact plain_nil | refine plain_cons (fun _ h => h) ?_))) ?_; simp only [SV.den, resV, dens]
  exact ⟨by first | rfl | trivial, rfl⟩
end Go.Proofs.YtpppkednpamhbaaGreat
namespace Go.Sx
set_option linter.unusedSimpArgs false
set_option linter.unusedVariables false
open Go.RowKit
section
variable {C : Ctx} {K : List KI} {s : St} {R : Array Oper} {l : List Oper} {d : Option Tmp} {t : TypeId} {pos : String} {aft : Array Edge} {v : Value}
theorem go_torow (k : Nat) {b size : Nat} {e : TypeId} {cells : List SV} (hk : lk k s.own = some (b, .c e cells)) (hc : cells.length = size)
    (h : SGo C K ⟨s.sl, stk k (b, .row (.slice (some ⟨b, 0, none⟩) 1 1) e size 1 (dens cells)) s.own, s.G, s.df⟩) : SGo C K s := by
  intro a w hS
  refine h a w ⟨hS.sl, hS.nt, hS.df, ?_⟩
  obtain ⟨f1, f2⟩ := hS.mem.own _ _ _ hk
  simp only [OO.holds] at f1
  refine hS.mem.put hk rfl rfl rfl (Nat.le_refl _) (fun _ _ _ => rfl) ?_ (fun j => ⟨fun hg => .inl (by simp [OO.blks, Value.ownBlock] at hg ⊢; exact hg.symm), fun hg => .inl (by simp [OO.mut, Value.ownBlock] at hg ⊢; exact hg.symm)⟩)
  have hl : (dens cells).length = 1 * size := by simp [dens_eq, hc]
  refine ⟨hl, .inr ⟨b, 1, (dens cells).toArray, rfl, Nat.zero_le _, f1, Nat.le_refl _, by decide, by simpa using hl, ?_⟩⟩
  rw [← hl]
  simp
theorem go_torowN (k : Nat) {b size n : Nat} {e : TypeId} {cells : List SV} (hk : lk k s.own = some (b, .c e cells)) (hc : cells.length = n * size) (hn : n ≤ 1000)
    (h : SGo C K ⟨s.sl, stk k (b, .row (.slice (some ⟨b, 0, none⟩) n n) e size n (dens cells)) s.own, s.G, s.df⟩) : SGo C K s := by
  intro a w hS
  refine h a w ⟨hS.sl, hS.nt, hS.df, ?_⟩
  obtain ⟨f1, f2⟩ := hS.mem.own _ _ _ hk
  simp only [OO.holds] at f1
  refine hS.mem.put hk rfl rfl rfl (Nat.le_refl _) (fun _ _ _ => rfl) ?_ (fun j => ⟨fun hg => .inl (by simp [OO.blks, Value.ownBlock] at hg ⊢; exact hg.symm), fun hg => .inl (by simp [OO.mut, Value.ownBlock] at hg ⊢; exact hg.symm)⟩)
  have hl : (dens cells).length = n * size := by simp [dens_eq, hc]
  refine ⟨hl, .inr ⟨b, n, (dens cells).toArray, rfl, Nat.zero_le _, f1, Nat.le_refl _, Nat.le_trans hn (by decide), by simpa using hl, ?_⟩⟩
  rw [← hl]
  simp
theorem q_callW (ks : List Nat) {f : FuncId} {args : Array Operand} {tys : Array TypeId} {vs : List SV} {ow : Lds} (hd : dOk C.nt d = true) (hf : canCall C.P f = true) (ha : evs s.sl args.toList = some vs)
    (hk : lkAll s.own ks = some ow) (hn : noDup ks = true) (hc : PureW C.P f (dens vs) s.G ow (fun r _ ow' => r = v ∧ ow' = ow))
    (h : SGo C (.q (Mem C s.own s.G) R l :: K) ⟨putS d (rv v) s.sl, s.own, s.G, s.df⟩) : SGo C (.q (Mem C s.own s.G) R (⟨d, .call ⟨.value (.func f), args, tys⟩, t, pos, aft, none⟩ :: l) :: K) s := by
  intro a w hS
  have hargs : args.map a.eval = (dens vs).toArray := by apply Array.ext'; rw [Array.toList_map]; exact evs_ok hS.sl ha
  have hrun : ∀ w', (execOp a.eval ⟨d, .call ⟨.value (.func f), args, tys⟩, t, pos, aft, none⟩).run C.P w' = .ok (.enter f (dens vs).toArray) w' := by
    intro w'
    simp only [execOp, resolve, hargs, Act.eval, Deferred.ofValue, Sem.run_bind, Sem.run_pure, Result.andThen_ok, invoke]
    simp [callFunc_ok hf]
  simp only [wpK, wpQuiet]
  rw [if_pos (by simp [Region.wanted])]
  refine ⟨v, fun w' hw' => ?_, ?_⟩
  · unfold Oper.quietAt
    rw [hrun w']
    have hS' : ∀ {k b o}, lk k s.own = some (b, o) → o.holds C.w0.heap.size w' b := fun e => (hw'.own _ _ _ e).1
    refine ⟨rfl, (hc w' hw'.has (Lent.of (C := C) hw' hk hn)).mono ?_⟩
    rintro e w'' ⟨u, G', ow', rfl, q1, q2, q3, q4, q5, q6, q7, q8, rfl, rfl⟩
    refine ⟨rfl, ?_⟩
    obtain ⟨k1, k2⟩ := lkAll_get hk
    have hidx : ∀ {i : Nat} {x : Nat × OO}, ow'[i]? = some x → ∃ k, ks[i]? = some k ∧ lk k s.own = some x := fun {i x} e => by
      have hi : i < ks.length := by
        rcases Nat.lt_or_ge i ow'.length with q | q
        · omega
        · rw [List.getElem?_eq_none q] at e; cases e
      obtain ⟨x', e1, e2⟩ := k2 i ks[i] (by rw [List.getElem?_eq_getElem hi])
      rw [e] at e1; cases e1
      exact ⟨ks[i], by rw [List.getElem?_eq_getElem hi], e2⟩
    have hle : Le s.G G' := fun b o e => by rw [q4 b (lt_of_heap (hw'.has b o e))]; exact e
    refine ⟨fun k b o e => ?_, hw'.inj, ?_⟩
    · obtain ⟨g1, g2⟩ := hw'.own _ _ _ e
      refine ⟨?_, g2⟩
      by_cases hkk : k ∈ ks
      · obtain ⟨i, hi, hi2⟩ := List.getElem_of_mem hkk
        obtain ⟨x', e1, e2⟩ := k2 i ks[i] (by rw [List.getElem?_eq_getElem hi])
        rw [hi2, e] at e2
        cases e2
        exact (q5.own _ _ _ e1).1
      · refine OO.holds_same g1 q1 fun g hg => q2 g (hw'.lt e hg) ?_
        rintro ⟨i, b', o', e', hg'⟩
        obtain ⟨k', e1, e2⟩ := hidx e'
        have := hw'.inj _ _ _ _ _ _ g e e2 hg (OO.mut_blks (hw'.own _ _ _ e2).1 hg')
        subst this
        exact hkk (List.mem_of_getElem? e1)
    · have hg := hw'.grow
      refine ⟨q1.os.trans hg.os, q1.tape.trans hg.tape, q1.output.trans hg.output, Nat.le_trans hg.size q1.size, fun j hj hm => ?_, fun b o e => q3 b o (hle b o e), hg.old⟩
      rw [q2 j (by have := hg.size; omega) ?_]
      · exact hg.blk j hj hm
      · rintro ⟨i, b, o, e, hgj⟩
        obtain ⟨k', _, e2⟩ := hidx e
        obtain ⟨_, q⟩ := hw'.own _ _ _ e2
        obtain ⟨_, p1, p2⟩ := q j hgj
        rcases Nat.lt_or_ge k' C.mh with p3 | p3
        · rcases p2 p3 with p4 | p4
          · exact hm p4
          · omega
        · have := p1 p3; omega
  · have hS' := hS.put hd (rv v) hS.mem
    rw [rv_den] at hS'
    have := h _ _ hS'
    simpa only [wpK] using this
end
end Go.Sx
namespace Go.Proofs.YtpppkednpamhbaaGreat
set_option linter.unusedSimpArgs false
set_option linter.unusedVariables false
open Go.Sx
set_option maxHeartbeats 16000000
set_option maxRecDepth 20000
theorem rowsP_len : ∀ {p : Pr} {vs : Cs}, okC p vs → ∀ (i : Nat) (r : Rw), (rowsP p vs)[i]? = some r → i ≠ (rowsP p vs).length := fun _ i r e => by
  have := (List.getElem?_eq_some_iff.1 e).1; omega
theorem copyr_ok (p : Pr) (ps : Value) (G : Hp) (hps : rF.S G p ps) (hb : bdP p) :
    PureR Tryz.prog 32 [.agg #[ps]] G (fun v G' r e size n xs => v = .agg #[r] ∧ e = 64 ∧ size = 2 ∧ n = p.length ∧ rF.L G' p xs) := by
  have hok := rF_ok hps
  refine (copyp_ok p ps G hps hb).toR ?_
  rintro v G1 rs hle ⟨ad, cap, vs, hvs, rfl, rfl⟩
  refine ⟨(rowsP p vs).length, _, by simp; rfl, fun G2 hle2 hr => ⟨rfl, rfl, rfl, rfl, encP_L hvs hok hb.2 fun i r e => hr i r (rowsP_len hvs i r e) ?_⟩⟩
  rw [List.getElem?_append_left (List.getElem?_eq_some_iff.1 e).1]; exact e
theorem copys_ok (p : Pr) (ps : Value) (G : Hp) (hps : rF.S G p ps) (hb : bdP p) :
    Pure Tryz.prog 32 [.agg #[ps]] G (fun v G' => ∃ sl, v = .agg #[sl] ∧ rF.S G' p sl) := by
  have h63 := hb.1
  refine (copyr_ok p ps G hps hb).pure ?_ ?_
  · rintro v G' e size hle ⟨rfl, _, _, hn, hL⟩
    have : p = [] := List.length_eq_zero_iff.1 hn.symm
    subst this
    exact ⟨_, rfl, Rp.S_nil _ _⟩
  · rintro v G1 G2 g cap e size n xs hle hle2 hat ⟨rfl, _, _, rfl, hL⟩
    exact ⟨_, rfl, by omega, _, _, rfl, .inr ⟨_, _, _, rfl, hat, Rp.L_mono hle2 hL⟩⟩
theorem load_ok (p : Pr) (ps : Value) (G : Hp) (hps : rF.S G p ps) (hb : bdP p) (hw : (whP p).2.2 = 0) :
    Pure Tryz.prog 9 [.agg #[ps]] G (fun v G' => ∃ cb ps', v = .tuple #[.pointer (some ⟨cb, 0, none⟩), .int .i64 0] ∧ At G' cb 0 [ps'] ∧ rF.S G' p ps') := by
  have hck := checkp_ok p ps G hps
  rw [hw] at hck
  obtain ⟨adp, capp, rfl⟩ := Rp.S_slice hps
  refine enterX ty tyok Tryz.func9 rfl Tryz.ntmps9 [.a [.v (.slice adp p.length capp)]] (by simp) ?_
  intro C hP hQ hnt hty hmb hmh hro; have hQp := qp_body hQ; refine st_ ?_
  refine rn_ ?_; intros
  refine go_callf (by rw [hnt]; rfl) (by rw [hP]; kernel_rfl) rfl (hP ▸ hck) ?_; refine rn_ ?_; intros
  (refine x_split rfl rfl rfl (fun hc => absurd hc (by first | decide +kernel | (simp; first | done | fail))) (fun _ => ?_); refine st_ ?_; (refine ru_ ?_; intros))
  refine rn_ ?_; intros
  refine go_call (by rw [hnt]; rfl) (by rw [hP]; kernel_rfl) rfl (hP ▸ copys_ok p _ G hps hb) ?_
  rintro v G1 (hle1 : Le G G1) ⟨sl, rfl, hS⟩
  obtain ⟨ad2, cap2, rfl⟩ := Rp.S_slice hS
  refine rn_ ?_; intros
  rename_i b1 b2
  refine go_pub 1 rfl (by omega) ?_
  intro G2 (hle2 : Le G1 G2) hG2
  refine st_ ?_
  refine xc_ hQ hmb ?_; simp only [SV.den, resV, dens]
  exact ⟨b2, _, rfl, at_cells hG2, Rp.S_mono hle2 hS⟩
theorem miss2_ok (p : Pr) (ps : Value) (cb : Nat) (G : Hp) (hc : At G cb 0 [ps]) (hps : rF.S G p ps) (h0 : p.length ≠ 0) : Pure Tryz.prog 34 [.pointer (some ⟨cb, 0, none⟩)] G (fun v _ => v = .bool false) := by
  obtain ⟨adp, capp, rfl⟩ := Rp.S_slice hps
  refine enterX ty tyok Tryz.func34 rfl Tryz.ntmps34 [.v (.pointer (some ⟨cb, 0, none⟩))] (by simp) ?_
  intro C hP hQ hnt hty hmb hmh hro; have hQp := qp_body hQ; refine st_ ?_
  refine rn_ ?_; intros
  refine go_q (v := .bool false) (by rw [hnt]; rfl) ((quiet_pnil (by rw [hty]; rfl) rfl rfl).cast (by rfl)) ?_
  refine rn_ ?_; intros
  refine go_slot 5 (.b false) rfl rfl ?_
  refine rn_ ?_; intros
  refine go_q (by rw [hnt]; rfl) (quiet_load (by rw [hty]; rfl) rfl (by simp [TK.agg]) hc rfl) ?_; refine rn_ ?_; intros
  refine x_ret rfl hQ hmb (by rw [hty]; rfl) rfl ?_; simp only [SV.den, resV]
  simp; intro hp0; subst hp0; simp at h0
theorem begin_err (p : Pr) (ps : Value) (cb : Nat) (f : Int) (ad : Option Addr) (n c : Nat) (e : Int) (G : Hp) (hc : At G cb 0 [ps]) (hps : rF.S G p ps) (h0 : p.length ≠ 0)
    (h : ((f < 0 ∨ (p.length : Int) ≤ f) ∧ e = 4) ∨ (0 ≤ f ∧ f < p.length ∧ (n : Int) ≠ (fu p f.toNat).params ∧ e = 2)) :
    Pure Tryz.prog 12 [.pointer (some ⟨cb, 0, none⟩), .int .i64 f, .slice ad n c] G (fun v _ => v = .tuple #[.pointer none, .int .i64 e]) := by
  have hms := miss2_ok p ps cb G hc hps h0
  have hps0 := hps
  obtain ⟨adp, capp, rfl⟩ := Rp.S_slice hps
  refine enterX ty tyok Tryz.func12 rfl Tryz.ntmps12 [.v (.pointer (some ⟨cb, 0, none⟩)), .v (.int .i64 f), .v (.slice ad n c)] (by simp) ?_
  intro C hP hQ hnt hty hmb hmh hro; have hQp := qp_body hQ; refine st_ ?_
  refine rn_ ?_; intros
  refine go_callf (by rw [hnt]; rfl) (by rw [hP]; kernel_rfl) rfl (hP ▸ hms) ?_; refine rn_ ?_; intros
  (refine x_split rfl rfl rfl (fun hc => absurd hc (by first | decide +kernel | (simp; first | done | fail))) (fun _ => ?_); refine st_ ?_; (refine ru_ ?_; intros))
  refine rn_ ?_; intros
  refine go_gsplit rfl rfl (fun h1 => ?_) (fun h1 => ?_) <;> (refine st_ ?_; (refine rn_ ?_; intros))
  · refine rn_ ?_; intros
    refine xc_ hQ hmb ?_; simp only [SV.den, resV, dens]
    rcases h with ⟨_, rfl⟩ | ⟨h3, h4, _⟩
    · rfl
    · exfalso; simp at h1; omega
  · refine go_q (by rw [hnt]; rfl) (quiet_load (by rw [hty]; rfl) rfl (by simp [TK.agg]) hc rfl) ?_; refine rn_ ?_; intros
    refine x_split rfl rfl rfl (fun h2 => ?_) (fun h2 => ?_) <;> (refine st_ ?_; (refine ru_ ?_; intros))
    · refine rn_ ?_; intros
      refine xc_ hQ hmb ?_; simp only [SV.den, resV, dens]
      rcases h with ⟨_, rfl⟩ | ⟨h3, h4, _⟩
      · rfl
      · exfalso; simp at h2; omega
    · have hf0 : 0 ≤ f := by simpa using h1
      have hf1 : f < p.length := by simp at h2; omega
      obtain ⟨bF, oF, ns, rfl, hat, hp64, _⟩ := rF_at hps0 (i := f.toNat) (by omega)
      have hat0 : At G bF (oF + f.toNat * 2) [.int .i64 (fu p f.toNat).params] := by simpa using hat.sub 0 1 (by simp)
      refine rn_ ?_; intros
      refine go_q (by rw [hnt]; rfl) (quiet_load (by rw [hty]; rfl) rfl (by simp [TK.agg]) hc rfl) ?_; refine rn_ ?_; intros
      refine go_q (v := .pointer (some ⟨bF, oF + f.toNat * 2, none⟩)) (by rw [hnt]; rfl) ((quiet_index (by rw [hty]; rfl) (by rw [hty]; rfl) rfl rfl rfl (by omega) (by omega)).cast (by rfl)) ?_
      refine rn_ ?_; intros
      refine go_q (by rw [hnt]; rfl) (quiet_load (by rw [hty]; rfl) rfl (by simp [TK.agg]) hat0 rfl) ?_; refine rn_ ?_; intros
      refine x_split rfl rfl rfl (fun h3 => ?_) (fun h3 => ?_) <;> (refine st_ ?_; (refine ru_ ?_; intros))
      · refine rn_ ?_; intros
        refine xc_ hQ hmb ?_; simp only [SV.den, resV, dens]
        rcases h with ⟨q, _⟩ | ⟨_, _, _, rfl⟩
        · exfalso; omega
        · rfl
      · exfalso
        simp at h3
        rcases h with ⟨q, _⟩ | ⟨_, _, q, _⟩
        · omega
        · exact q h3
def nilO : Lds := [(0, .row rw0.v rw0.e rw0.size rw0.n rw0.xs), (0, .row rw0.v rw0.e rw0.size rw0.n rw0.xs), (0, .row rw0.v rw0.e rw0.size rw0.n rw0.xs), (0, .row rw0.v rw0.e rw0.size rw0.n rw0.xs)]
theorem begin_ok (p : Pr) (ps : Value) (cb : Nat) (f : Int) (av : List VT) (sl : Value) (o : Int × List Fm) (G : Hp) (hc : At G cb 0 [ps]) (hps : rF.S G p ps) (hf0 : 0 ≤ f) (hf1 : f < p.length) (hpl : p.length ≤ 100) (hn : (av.length : Int) = (fu p f.toNat).params) (hal : av.length ≤ 100)
    (hS : rW.S G av sl) (hck : ∀ v ∈ av, vld v = true) (hd : downF p 600 [⟨f, 0, av, []⟩] = some o) :
    PureT Tryz.prog 12 [.pointer (some ⟨cb, 0, none⟩), .int .i64 f, sl] G nilO (fun v G' ow' => ∃ b, v = .tuple #[.pointer (some ⟨b, 0, none⟩), .int .i64 0] ∧ fbO G' b cb ⟨o.1, vt0, o.2⟩ ow') := by
  have hms := miss2_ok p ps cb G hc hps (by omega)
  have hps0 := hps
  obtain ⟨ad, c, rfl⟩ := Rp.S_slice hS
  obtain ⟨bF, oF, ns, cF, rfl, hat, hp64, _⟩ : ∃ bF oF ns cF, ps = .slice (some ⟨bF, oF, none⟩) p.length cF ∧ At G bF (oF + f.toNat * 2) [.int .i64 (fu p f.toNat).params, ns] ∧ isI64 (fu p f.toNat).params ∧ rN.S G (fu p f.toNat).nodes ns := by
    obtain ⟨adp, capp, rfl⟩ := Rp.S_slice hps
    obtain ⟨bF, oF, ns, rfl, q⟩ := rF_at hps0 (i := f.toNat) (by omega)
    exact ⟨bF, oF, ns, capp, rfl, q⟩
  have hat0 : At G bF (oF + f.toNat * 2) [.int .i64 (fu p f.toNat).params] := by simpa using hat.sub 0 1 (by simp)
  refine enterT ty tyok Tryz.func12 rfl Tryz.ntmps12 [.v (.pointer (some ⟨cb, 0, none⟩)), .v (.int .i64 f), .v (.slice ad av.length c)] (by simp) (by simp [nilO]) (plainL (by simp only [enumO, nilO]; exact (by repeat (first | exact plain_nil | refine plain_cons (fun _ h => h) ?_)))) ?_
  intro C w0 hP hQ hnt hty hmb hmh hro hG0 hb0; have hQp := qp_body hQ; refine st_ ?_
  generalize hrest : restB w0 _ G = Zr
  simp only [enumO, nilO, List.cons_append, List.nil_append]
  refine rn_ ?_; intros
  refine go_callf (by rw [hnt]; rfl) (by rw [hP]; kernel_rfl) rfl (hP ▸ hms) ?_; refine rn_ ?_; intros
  (refine x_split rfl rfl rfl (fun hc => absurd hc (by first | decide +kernel | (simp; first | done | fail))) (fun _ => ?_); refine st_ ?_; (refine ru_ ?_; intros))
  refine rn_ ?_; intros
  refine go_gsplit rfl rfl (fun h1 => ?_) (fun h1 => ?_) <;> (refine st_ ?_; (refine rn_ ?_; intros))
  · exfalso; simp at h1; omega
  refine go_q (by rw [hnt]; rfl) (quiet_load (by rw [hty]; rfl) rfl (by simp [TK.agg]) hc rfl) ?_; refine rn_ ?_; intros
  refine x_split rfl rfl rfl (fun h2 => ?_) (fun h2 => ?_) <;> (refine st_ ?_; (refine ru_ ?_; intros))
  · exfalso; simp at h2; omega
  refine rn_ ?_; intros
  refine go_q (by rw [hnt]; rfl) (quiet_load (by rw [hty]; rfl) rfl (by simp [TK.agg]) hc rfl) ?_; refine rn_ ?_; intros
  refine go_q (v := .pointer (some ⟨bF, oF + f.toNat * 2, none⟩)) (by rw [hnt]; rfl) ((quiet_index (by rw [hty]; rfl) (by rw [hty]; rfl) rfl rfl rfl (by omega) (by omega)).cast (by rfl)) ?_
  refine rn_ ?_; intros
  refine go_q (by rw [hnt]; rfl) (quiet_load (by rw [hty]; rfl) rfl (by simp [TK.agg]) hat0 rfl) ?_; refine rn_ ?_; intros
  refine x_split rfl rfl rfl (fun h3 => ?_) (fun h3 => ?_) <;> (refine st_ ?_; (refine ru_ ?_; intros))
  · exfalso; simp at h3; exact h3 hn
  refine rn_ ?_; intros
  refine go_make 10 (by rw [hnt]; rfl) (by rw [hty]; rfl) (by rw [hty]; rfl) rfl rfl (Nat.zero_le _) rfl (by rw [hmh]; omega) (by omega) (by simp only []; omega) (by simp) ?_
  intro g10
  refine rn_ ?_; intros
  refine go_keep [0, 1, 2, 6, 7, 8, 41, 42, 43] [0, 1, 2, 3, 999, 10] ?_
  refine st_ ?_
  refine x_loop rfl (fun q s' => ∃ (k : Nat) (G1 : Hp) (ad3 : Option Addr) (cap3 : Nat) (xs : List Value), k ≤ av.length ∧ q = av.length - k ∧ Le G G1 ∧ rW.L G1 (av.take k) xs ∧
    s' = ⟨[(0, .v (.pointer (some ⟨cb, 0, none⟩))), (1, .v (.int .i64 f)), (2, .v (.slice ad av.length c)), (6, .v (.pointer none)), (7, .v (.int .i64 0)), (8, .v (.slice ad3 k cap3)), (41, .v (.slice ad av.length c)), (42, .v (.int .i64 av.length)), (43, .v (.int .i64 k))],
      [(0, 0, .row rw0.v rw0.e rw0.size rw0.n rw0.xs), (1, 0, .row rw0.v rw0.e rw0.size rw0.n rw0.xs), (2, 0, .row rw0.v rw0.e rw0.size rw0.n rw0.xs), (3, 0, .row rw0.v rw0.e rw0.size rw0.n rw0.xs), (999, 0, .z (ZRest w0) Zr Zr), (10, g10, .row (.slice ad3 k cap3) 42 3 k xs)], G1, []⟩) ⟨0, G, some ⟨g10, 0, none⟩, av.length, [], by omega, rfl, Le.refl _, rfl, rfl⟩ ?_
  rintro q s' ⟨k, G1, ad3, cap3, xs, hk, hq, hle1, hxs, rfl⟩ ih
  refine rn_ ?_; intros
  refine x_if rfl rfl rfl rfl (fun hjl => ?_) (fun hjl => ?_)
  · have hlt : k < av.length := by simp at hjl; omega
    have htk : av.take (k + 1) = av.take k ++ [av[k]] := by rw [List.take_append_getElem]
    have hvv := hck av[k] (List.getElem_mem _)
    obtain ⟨bV, oV, sv, rfl, hatV, hrV, htV⟩ := rW_at (Rp.S_mono hle1 hS) hlt
    obtain ⟨a9, c9, rfl⟩ := VT.rep_slice hrV
    have hchk := check_ok av[k] _ G1 hrV
    rw [show chk av[k] = 0 by simp [chk, hvv]] at hchk
    refine rn_ ?_; intros
    refine go_q (by rw [hnt]; rfl) (quiet_index (by rw [hty]; rfl) (by rw [hty]; rfl) rfl rfl rfl (by omega) (by omega)) ?_
    refine rn_ ?_; intros
    refine go_q (v := .agg #[.int .i64 av[k].k, .int .i64 av[k].n, .slice a9 av[k].l.length c9]) (by rw [hnt]; rfl) ((quiet_load (by rw [hty]; rfl) rfl (by simp [TK.agg]) (by simpa using hatV) rfl).cast (by rfl)) ?_
    refine rn_ ?_; intros
    refine go_callf (by rw [hnt]; rfl) (by rw [hP]; kernel_rfl) rfl (hP ▸ hchk) ?_; refine rn_ ?_; intros
    (refine x_split rfl rfl rfl (fun hc => absurd hc (by first | decide +kernel | (simp; first | done | fail))) (fun _ => ?_); refine st_ ?_; (refine ru_ ?_; intros))
    refine rn_ ?_; intros
    refine go_call (by rw [hnt]; rfl) (by rw [hP]; kernel_rfl) rfl (hP ▸ copy_ok av[k] _ G1 hrV (by omega)) ?_
    rintro v2 G2 (hle2 : Le G1 G2) (⟨_, a8, c8, rfl, hr8⟩ | ⟨hns, _⟩)
    rotate_left
    · simp [vld, hns] at hvv
    refine rn_ ?_; intros
    refine go_append 10 (by rw [hnt]; rfl) (by rw [hty]; rfl) (by rw [hty]; rfl) (by decide) rfl rfl rfl (by rw [hmh]; omega) rfl (src_own 3 rfl rfl) rfl (by simp [dens, SV.den, Value.oneCell']) (by omega) (by simp only []; omega) ?_
    intro v'
    refine go_rowS 10 rfl ?_
    rintro ad4 cap4 rfl
    refine rn_ ?_; intros
    rw [wr (n := (k : Int) + 1) (by omega) (by omega)]
    refine go_keep [0, 1, 2, 6, 7, 8, 41, 42, 43] [0, 1, 2, 3, 999, 10] ?_
    refine st_ ?_
    refine ih (av.length - (k + 1)) _ (by omega) ⟨k + 1, G2, ad4, cap4, _, by omega, rfl, hle1.trans hle2, ?_, rfl⟩
    rw [htk]
    exact Rp.L_append (Rp.L_mono hle2 hxs) (Rp.L_single ⟨_, rfl, hr8, htV⟩)
  have hkl : k = av.length := by simp at hjl; omega
  subst hkl
  rw [List.take_length] at hxs
  refine go_rowC 10 rfl ?_
  intro ad5 cap5 e5 hcap5
  injection e5 with q1 q2 q3
  subst q1 q3
  refine go_pubL rW 10 rfl (by rw [hmh]; omega) rfl (by omega) hxs ?_
  intro G2 ad6 cap6 (hle2 : Le G1 G2) e6 hS6
  injection e6 with q1 q2 q3
  subst q1 q3
  refine st_ ?_
  refine rn_ ?_; intros
  rename_i b8 b9
  refine go_torow 1000 (size := 4) rfl rfl ?_
  refine go_drop 0 ?_
  refine go_drop 1 ?_
  refine go_drop 2 ?_
  refine st_ ?_
  refine go_rekey 1001 0 rfl rfl (by rw [hmh]; omega) (by rw [hmh]; omega) ?_
  refine go_rekey 1000 1 rfl rfl (by rw [hmh]; omega) (by rw [hmh]; omega) ?_
  refine go_znil 2 rfl (by rw [hmh]; omega) ?_
  intro Z2
  refine st_ ?_
  refine go_see 0 [.v (.pointer (some ⟨cb, 0, none⟩)), .v (.int .i64 0), .v (.int .i64 0), .v (.int .i64 0), .v (.slice none 0 0), .v (.slice (some ⟨b8, 0, none⟩) 1 1)] rfl rfl ?_
  refine go_slot 11 (.p 0 b9 0) rfl rfl ?_
  refine go_slot 63 (.p 0 b9 0) rfl rfl ?_
  refine go_keep [6, 7, 11, 63] [0, 1, 2, 3, 999] ?_
  refine st_ ?_
  have hle12 := hle1.trans hle2
  refine go_callT [0, 1, 2, 3] (by rw [hnt]; rfl) (by rw [hP]; kernel_rfl) rfl rfl rfl (by rw [hmh]; simp) (by rw [hP]; exact desc_ok b9 cb p _ ⟨0, vt0, [⟨f, 0, av, []⟩]⟩ 600 o _ G2 (hc.mono hle12) (Rp.S_mono hle12 hps) ⟨.slice none 0 0, (.slice (some ⟨b8, 0, none⟩) 1 1), b8, 0, 0, [⟨f, 0, .slice ad3 av.length cap3, rw0⟩], Z2, ⟨by simp [isI64], by simp [isI64], by simp, none, 0, rfl, .inl rfl⟩, by simp [vt0, tsz, tszL], ⟨_, _, rfl, ⟨rfl, rfl, (⟨by omega, by omega⟩ : isI64 f), (by simp [isI64] : isI64 0), fun _ _ _ q => by injection q with _ q2 q3; omega, hS6, rw0_ok _⟩, rfl⟩, by simp, rfl⟩ hd) ?_
  rintro v6 G6 ow6 (hle6 : Le _ G6) ⟨vl6, fs6, c1, c2, c3, rs6, Z6, w1, w2, w3, w4, w5, rfl⟩
  simp only [setO, stk, fhO, frO, fzO, fdO]
  refine rn_ ?_; intros
  have hleA := hle12.trans hle6
  refine x_retT rfl hQ hmh hb0 rfl (by first | (simp; done) | decide) rfl (by rw [hty]; simp only [so, sq, zy, zz, tyE, SO', SQ', opQ, opStore, opAlloc, ev, putS, dOk, cv, SV.cs, SV.one, SV.bool?, eqB, Value.oneCell', ldOwn, binInt, binConst, binBool, binStr, isC, TK.agg, rv, rv1, ldV, resOne, resV, Nat.reduceAdd, Nat.reduceMul, Nat.reduceSub, Nat.reduceLT, Nat.reduceLeDiff, Nat.reduceEqDiff, Nat.reduceBEq, reduceIte, reduceCtorEq, eq_self]; try rfl) rfl (by rw [hrest]; rfl) (by first | exact Le.refl _ | assumption) rfl (by simp only [enumO]; exact (by repeat (first | exact plain_nil | refine plain_cons (fun _ h => h) ?_))) ?_; simp only [SV.den, resV, dens]
  exact ⟨b9, by first | rfl | trivial, vl6, fs6, c1, c2, c3, rs6, Z6, w1, w2, w3, w4, w5, rfl⟩
end Go.Proofs.YtpppkednpamhbaaGreat
namespace Go.Proofs.YtpppkednpamhbaaGreat
set_option linter.unusedSimpArgs false
set_option linter.unusedVariables false
open Go.Sx
set_option maxHeartbeats 16000000
set_option maxRecDepth 20000
theorem value_ok (b cb : Nat) (st : Int) (x : VT) (vl fs : Value) (G : Hp) (hx : x.rep G vl) (ht : tsz x ≤ 1000) (hs : sml x = true) :
    PureW Tryz.prog 24 [.pointer (some ⟨b, 0, none⟩)] G [fhO b cb st x.k x.n vl fs] (fun v G' ow => ow = [fhO b cb st x.k x.n vl fs] ∧ ((st ≠ 3 ∧ v = .tuple #[zeroV, .bool false]) ∨ (st = 3 ∧ ∃ sl, v = .tuple #[.agg #[.int .i64 x.k, .int .i64 x.n, sl], .bool true] ∧ x.rep G' sl))) := by
  obtain ⟨a9, c9, rfl⟩ := VT.rep_slice hx
  refine enterW ty tyok Tryz.func24 rfl Tryz.ntmps24 [.p 0 b 0] (by simp) (mh := 1) rfl ?_
  intro C hP hQ hnt hty hmb hmh hro hG0 hmub; have hQp := qp_body hQ; refine st_ ?_
  simp only [enumO]
  refine rn_ ?_; intros
  refine go_callW [0] (by rw [hnt]; rfl) (by rw [hP]; kernel_rfl) rfl rfl rfl (.inr (by rw [hmh]; decide)) (by rw [hP]; exact state_ok b cb st x.k x.n _ fs G) ?_
  rintro v5 G1 ow5 (hle1 : Le G G1) ⟨rfl, rfl⟩
  simp only [setO, stk, fhO]
  refine rn_ ?_; intros
  refine x_split rfl rfl rfl (fun h1 => ?_) (fun h1 => ?_) <;> (refine st_ ?_; (refine ru_ ?_; intros))
  · refine rn_ ?_; intros
    refine x_retW rfl hQ hmb hmh hG0 hmub rfl rfl (by rw [hty]; simp only [so, sq, zy, zz, tyE, SO', SQ', opQ, opStore, opAlloc, ev, putS, dOk, cv, SV.cs, SV.one, SV.bool?, eqB, Value.oneCell', ldOwn, binInt, binConst, binBool, binStr, isC, TK.agg, rv, rv1, ldV, resOne, resV, Nat.reduceAdd, Nat.reduceMul, Nat.reduceSub, Nat.reduceLT, Nat.reduceLeDiff, Nat.reduceEqDiff, Nat.reduceBEq, reduceIte, reduceCtorEq, eq_self]; try rfl) rfl rfl (by simp only [enumO]; exact (by repeat (first | exact plain_nil | refine plain_cons (fun _ h => h) ?_))) ?_; simp only [SV.den, resV, dens]
    exact ⟨rfl, .inl ⟨by simpa using h1, by first | rfl | trivial⟩⟩
  · refine rn_ ?_; intros
    refine go_call (by rw [hnt]; rfl) (by rw [hP]; kernel_rfl) rfl (hP ▸ copy_ok x _ G1 (VT.rep_mono hle1 hx) (by omega)) ?_
    rintro v2 G2 (hle2 : Le G1 G2) (⟨_, a8, c8, rfl, hr8⟩ | ⟨hns, _⟩)
    rotate_left
    · rw [hs] at hns; cases hns
    refine rn_ ?_; intros
    refine x_retW rfl hQ hmb hmh hG0 hmub rfl rfl (by rw [hty]; simp only [so, sq, zy, zz, tyE, SO', SQ', opQ, opStore, opAlloc, ev, putS, dOk, cv, SV.cs, SV.one, SV.bool?, eqB, Value.oneCell', ldOwn, binInt, binConst, binBool, binStr, isC, TK.agg, rv, rv1, ldV, resOne, resV, Nat.reduceAdd, Nat.reduceMul, Nat.reduceSub, Nat.reduceLT, Nat.reduceLeDiff, Nat.reduceEqDiff, Nat.reduceBEq, reduceIte, reduceCtorEq, eq_self]; try rfl) rfl rfl (by simp only [enumO]; exact (by repeat (first | exact plain_nil | refine plain_cons (fun _ h => h) ?_))) ?_; simp only [SV.den, resV, dens]
    exact ⟨rfl, .inr ⟨by simpa using h1, _, rfl, hr8⟩⟩
theorem want_ok (b cb b1 : Nat) (k n : Int) (vl fs ps : Value) (p : Pr) (m : Fm) (l : List Fm) (rs : List Fw) (nd : Nd) (G : Hp) (hc : At G cb 0 [ps]) (hp : rF.S G p ps) (hfs : fsOk G (m :: l) rs) (hnd : ndAt p m.fn m.nd = some nd) (hlm : l.length ≤ 300) (hop : nd.op = 15) :
    PureW Tryz.prog 26 [.pointer (some ⟨b, 0, none⟩)] G [fhO b cb 2 k n vl fs, frO b1 fs rs] (fun v _ ow => v = .tuple #[.agg #[.int .i64 1, .int .i64 0, .slice none 0 0], .bool true] ∧ ow = [fhO b cb 2 k n vl fs, frO b1 fs rs]) := by
  refine enterW ty tyok Tryz.func26 rfl Tryz.ntmps26 [.p 0 b 0] (by simp) (mh := 2) rfl ?_
  intro C hP hQ hnt hty hmb hmh hro hG0 hmub; have hQp := qp_body hQ; refine st_ ?_
  simp only [enumO]
  refine rn_ ?_; intros
  refine go_callW [0] (by rw [hnt]; rfl) (by rw [hP]; kernel_rfl) rfl rfl rfl (.inr (by rw [hmh]; decide)) (by rw [hP]; exact state_ok b cb 2 k n _ fs G) ?_
  rintro v5 G1 ow5 (hle1 : Le G G1) ⟨rfl, rfl⟩
  simp only [setO, stk]
  refine rn_ ?_; intros
  (refine x_split rfl rfl rfl (fun hc => absurd hc (by first | decide +kernel | (simp; first | done | fail))) (fun _ => ?_); refine st_ ?_; (refine ru_ ?_; intros))
  refine rn_ ?_; intros
  refine go_callW [0, 1] (by rw [hnt]; rfl) (by rw [hP]; kernel_rfl) rfl rfl rfl (.inr (by rw [hmh]; decide)) (by rw [hP]; exact last_ok b cb b1 2 k n vl fs ps p m l rs nd G1 (hc.mono hle1) (Rp.S_mono hle1 hp) (hfs.mono hle1) hnd hlm) ?_
  rintro v G2 ow2 (hle2 : Le G1 G2) ⟨rfl, g, cap, sl, rfl, rfl, hrI⟩
  obtain ⟨asl, csl, rfl⟩ := Rp.S_slice hrI
  simp only [setO, stk, fhO, frO]
  refine rn_ ?_; intros
  simp only [hop]
  refine rn_ ?_; intros
  (refine x_split rfl rfl rfl (fun hc => absurd hc (by first | decide +kernel | (simp; first | done | fail))) (fun _ => ?_); refine st_ ?_; (refine ru_ ?_; intros))
  refine rn_ ?_; intros
  (refine x_split rfl rfl rfl (fun hc => absurd hc (by first | decide +kernel | (simp; first | done | fail))) (fun _ => ?_); refine st_ ?_; (refine ru_ ?_; intros))
  refine rn_ ?_; intros
  refine x_retW rfl hQ hmb hmh hG0 hmub rfl rfl (by rw [hty]; simp only [so, sq, zy, zz, tyE, SO', SQ', opQ, opStore, opAlloc, ev, putS, dOk, cv, SV.cs, SV.one, SV.bool?, eqB, Value.oneCell', ldOwn, binInt, binConst, binBool, binStr, isC, TK.agg, rv, rv1, ldV, resOne, resV, Nat.reduceAdd, Nat.reduceMul, Nat.reduceSub, Nat.reduceLT, Nat.reduceLeDiff, Nat.reduceEqDiff, Nat.reduceBEq, reduceIte, reduceCtorEq, eq_self]; try rfl) rfl rfl (by simp only [enumO]; exact (by repeat (first | exact plain_nil | refine plain_cons (fun _ h => h) ?_))) ?_; simp only [SV.den, resV, dens]
  exact ⟨by first | rfl | trivial, rfl⟩
theorem resume_ok (b cb : Nat) (p : Pr) (ps : Value) (s o : Fb) (v : VT) (slv : Value) (ow : Lds) (G : Hp) (hc : At G cb 0 [ps]) (hp : rF.S G p ps) (hfb : fbO G b cb s ow) (hv : v.rep G slv) (hvv : vld v = true) (htv1 : tsz v ≤ 1000) (hst : s.st = 2) (ho : prodF p s v = some o) :
    PureT Tryz.prog 29 [.pointer (some ⟨b, 0, none⟩), .agg #[.int .i64 v.k, .int .i64 v.n, slv]] G ow (fun r G' ow' => r = .int .i64 0 ∧ fbO G' b cb o ow') := by
  have hchk := check_ok v slv G hv
  rw [show chk v = 0 by simp [chk, hvv]] at hchk
  obtain ⟨vl, fs, b1, b2, b3, rs, Z, hvl, htv, hfs, hl256, hdn, rfl⟩ := hfb
  obtain ⟨a9, c9, rfl⟩ := VT.rep_slice hv
  refine enterT ty tyok Tryz.func29 rfl Tryz.ntmps29 [.p 0 b 0, .a [.v (.int .i64 v.k), .v (.int .i64 v.n), .v (.slice a9 v.l.length c9)]] (by simp) (by simp) (plainL (by simp only [enumO]; exact (by repeat (first | exact plain_nil | refine plain_cons (fun _ h => h) ?_)))) ?_
  intro C w0 hP hQ hnt hty hmb hmh hro hG0 hb0; have hQp := qp_body hQ; refine st_ ?_
  generalize hrest : restB w0 _ G = Zr
  simp only [enumO, frO, fzO, fdO, List.cons_append, List.nil_append]
  refine rn_ ?_; intros
  refine go_callW [0] (by rw [hnt]; rfl) (by rw [hP]; kernel_rfl) rfl rfl rfl (.inl (by rw [hmh]; simp)) (by rw [hP]; exact miss_ok b cb s.st s.val.k s.val.n vl fs G) ?_
  rintro v5 G1 ow5 (hle1 : Le G G1) ⟨rfl, rfl⟩
  simp only [setO, stk, fhO]
  refine rn_ ?_; intros
  (refine x_split rfl rfl rfl (fun hc => absurd hc (by first | decide +kernel | (simp; first | done | fail))) (fun _ => ?_); refine st_ ?_; (refine ru_ ?_; intros))
  refine rn_ ?_; intros
  have hck1 := check_ok v _ G1 (VT.rep_mono hle1 hv)
  rw [show chk v = 0 by simp [chk, hvv]] at hck1
  refine go_callf (by rw [hnt]; rfl) (by rw [hP]; kernel_rfl) rfl (hP ▸ hck1) ?_
  refine rn_ ?_; intros
  (refine x_split rfl rfl rfl (fun hc => absurd hc (by first | decide +kernel | (simp; first | done | fail))) (fun _ => ?_); refine st_ ?_; (refine ru_ ?_; intros))
  refine rn_ ?_; intros
  refine x_split rfl rfl rfl (fun h1 => ?_) (fun h1 => ?_) <;> (refine st_ ?_; (refine ru_ ?_; intros))
  · exact absurd hst (by simpa using h1)
  refine rn_ ?_; intros
  refine go_call (by rw [hnt]; rfl) (by rw [hP]; kernel_rfl) rfl (hP ▸ copy_ok v _ G1 (VT.rep_mono hle1 hv) (by omega)) ?_
  rintro v2 G2 (hle2 : Le G1 G2) (⟨_, a8, c8, rfl, hr8⟩ | ⟨hns, _⟩)
  rotate_left
  · simp [vld, hns] at hvv
  refine rn_ ?_; intros
  have hle12 := hle1.trans hle2
  refine go_callT [0, 1, 2, 3] (by rw [hnt]; rfl) (by rw [hP]; kernel_rfl) rfl rfl rfl (by rw [hmh]; simp) (by rw [hP]; exact prod_ok b cb p ps s o v _ _ G2 (hc.mono hle12) (Rp.S_mono hle12 hp) ⟨vl, _, b1, b2, b3, rs, Z, VT.rep_mono hle12 hvl, htv, hfs.mono hle12, hl256, fun m x q q' => Rp.S_mono hle12 (hdn m x q q'), rfl⟩ hr8 htv1 ho) ?_
  rintro v6 G6 ow6 (hle6 : Le _ G6) ⟨vl6, fs6, c1, c2, c3, rs6, Z6, w1, w2, w3, w4, w5, rfl⟩
  simp only [setO, stk, fhO, frO, fzO, fdO]
  refine rn_ ?_; intros
  have hleA := hle12.trans hle6
  refine x_retT rfl hQ hmh hb0 rfl (by first | (simp; done) | decide) rfl (by rw [hty]; simp only [so, sq, zy, zz, tyE, SO', SQ', opQ, opStore, opAlloc, ev, putS, dOk, cv, SV.cs, SV.one, SV.bool?, eqB, Value.oneCell', ldOwn, binInt, binConst, binBool, binStr, isC, TK.agg, rv, rv1, ldV, resOne, resV, Nat.reduceAdd, Nat.reduceMul, Nat.reduceSub, Nat.reduceLT, Nat.reduceLeDiff, Nat.reduceEqDiff, Nat.reduceBEq, reduceIte, reduceCtorEq, eq_self]; try rfl) rfl (by rw [hrest]; rfl) (by first | exact Le.refl _ | assumption) rfl (by simp only [enumO]; exact (by repeat (first | exact plain_nil | refine plain_cons (fun _ h => h) ?_))) ?_; simp only [SV.den, resV, dens]
  exact ⟨by first | rfl | trivial, vl6, fs6, c1, c2, c3, rs6, Z6, w1, w2, w3, w4, w5, rfl⟩
end Go.Proofs.YtpppkednpamhbaaGreat
namespace Go.Proofs.YtpppkednpamhbaaGreat
set_option linter.unusedSimpArgs false
set_option linter.unusedVariables false
open Go.Sx
theorem yrgt {p : Pr} (h : rgtP p = true) : (1 ≤ p.length ∧ p.length ≤ 64) ∧ badF p 0 = none ∧ misF p p 0 = none := by
  simp only [rgtP, whP, beq_iff_eq] at h
  split at h
  · simp at h
  · rename_i hlen
    split at h
    · simp at h
    · rename_i hb
      split at h
      · simp at h
      · split at h
        · simp at h
        · rename_i hm
          exact ⟨by omega, hb, hm⟩
theorem ymisF {p : Pr} : ∀ {l : List Fu} {i : Nat}, misF p l i = none → ∀ f ∈ l, misL p f (calP f) = none
  | [], _, _, f, hf => by simp at hf
  | g :: l, i, h, f, hf => by
    simp only [misF] at h
    split at h
    · cases h
    · rename_i hg
      rcases List.mem_cons.1 hf with rfl | hf
      · exact hg
      · exact ymisF h f hf
theorem ymisL {p : Pr} {f : Fu} : ∀ {L : Pl}, misL p f L = none → ∀ x ∈ L, misB p f x = false
  | [], _, x, hx => by simp at hx
  | y :: L, h, x, hx => by
    simp only [misL] at h
    split at h
    · cases h
    · rename_i hy
      rcases List.mem_cons.1 hx with rfl | hx
      · simpa using hy
      · exact ymisL h x hx
theorem ycals : ∀ {l : List Nd} {i k : Nat} {x : Nd}, l[k]? = some x → nms x.op = true → (((i + k : Nat) : Int), x.n) ∈ cals l i
  | [], i, k, x, h, _ => by simp at h
  | y :: l, i, k, x, h, hn => by
    cases k with
    | zero =>
      simp only [List.getElem?_cons_zero, Option.some.injEq] at h
      subst h
      simp [cals, hn]
    | succ k =>
      have ih := ycals (i := i + 1) (k := k) (x := x) (by simpa using h) hn
      rw [show i + 1 + k = i + (k + 1) by omega] at ih
      simp only [cals]
      split
      · exact List.mem_cons_of_mem _ ih
      · exact ih
def PosOk (p : Pr) (f n : Int) (d : Nat) (x : Nd) : Prop := ∃ A, 0 ≤ f ∧ f < p.length ∧ places (fu p f.toNat) = .inr A ∧ 0 ≤ n ∧ (fu p f.toNat).nodes[n.toNat]? = some x ∧ (d : Int) = de A n.toNat
theorem PosOk.nd {p : Pr} {f n : Int} {d : Nat} {x : Nd} (h : PosOk p f n d x) : ndAt p f n = some x := by
  obtain ⟨A, h1, h2, _, h4, h5, _⟩ := h
  simp only [ndAt]
  rw [if_pos ⟨h1, h4⟩]
  have hi : f.toNat < p.length := by omega
  rw [fu_eq hi] at h5
  rw [List.getElem?_eq_getElem hi]
  exact h5
theorem PosOk.facts {p : Pr} {f n : Int} {d : Nat} {x : Nd} (h : PosOk p f n d x) : d ≤ 64 ∧ ben x.op x.l.length = true ∧ nmb x.op x.n d = true ∧ n.toNat < (fu p f.toNat).nodes.length ∧ (fu p f.toNat).nodes.length ≤ 200 := by
  obtain ⟨A, h1, h2, h3, h4, h5, h6⟩ := h
  have t := tree h3
  obtain ⟨hi, hx⟩ := List.getElem?_eq_some_iff.1 h5
  have := t.ok n.toNat hi
  rw [nd_eq hi, hx, ← h6] at this
  exact ⟨by omega, this.2.1, this.2.2, hi, t.n200⟩
theorem PosOk.kid {p : Pr} {f n : Int} {d m : Nat} {x : Nd} {c : Int} (h : PosOk p f n d x) (hc : x.l[m]? = some c) : n < c ∧ ∃ y, PosOk p f c (if x.op = 4 ∧ m = 1 then d + 1 else d) y := by
  obtain ⟨A, h1, h2, h3, h4, h5, h6⟩ := h
  have t := tree h3
  obtain ⟨hi, hx⟩ := List.getElem?_eq_some_iff.1 h5
  have hk := t.kid n.toNat m c (by simp only [kl, nd_eq hi, hx]; exact hc)
  obtain ⟨k1, k2, k3, k4⟩ := hk
  have hc0 : c.toNat < (fu p f.toNat).nodes.length := by omega
  refine ⟨by omega, _, A, h1, h2, h3, by omega, List.getElem?_eq_getElem hc0, ?_⟩
  rw [k4, nd_eq hi, hx, ← h6]
  simp only [more]
  split <;> simp
theorem PosOk.root {p : Pr} (hp : rgtP p = true) {f : Int} (h0 : 0 ≤ f) (h1 : f < p.length) : ∃ y, PosOk p f 0 (fu p f.toNat).params.toNat y := by
  have hb := badF_ok (yrgt hp).2.1 (fu p f.toNat) (by rw [fu_eq (show f.toNat < p.length by omega)]; exact List.getElem_mem _)
  simp only [whr] at hb
  cases hq : places (fu p f.toNat) with
  | inl a => rw [hq] at hb; simp at hb
  | inr A =>
    have t := tree hq
    have hpos := t.pos
    refine ⟨_, A, h0, h1, hq, Int.le_refl _, List.getElem?_eq_getElem (show (0 : Int).toNat < _ from hpos), ?_⟩
    have := t.root.2
    have hp9 := t.par9
    show _ = de A 0
    omega
theorem PosOk.call {p : Pr} (hp : rgtP p = true) {f n : Int} {d : Nat} {x : Nd} (h : PosOk p f n d x) (hop : x.op = 13) : 0 ≤ x.n ∧ x.n < p.length ∧ ∃ y, PosOk p x.n 0 x.l.length y := by
  obtain ⟨hd, hben, hnm, _, _⟩ := h.facts
  obtain ⟨A, h1, h2, h3, h4, h5, h6⟩ := h
  have hn : nms x.op = true := by rw [hop]; rfl
  have h7 := nmb_nms hn hnm
  have hm : ((n.toNat : Int), x.n) ∈ calP (fu p f.toNat) := by
    have := ycals (i := 0) h5 hn
    simp only [calP, h3]
    simpa using this
  have h8 := ymisL (ymisF (yrgt hp).2.2 (fu p f.toNat) (by rw [fu_eq (show f.toNat < p.length by omega)]; exact List.getElem_mem _)) _ hm
  simp only [misB, Bool.or_eq_false_iff, decide_eq_false_iff_not, Bool.not_eq_false'] at h8
  obtain ⟨h9, h10⟩ := h8
  have hi := (List.getElem?_eq_some_iff.1 h5)
  rw [show ((n.toNat : Int)).toNat = n.toNat by omega, nd_eq hi.1, hi.2] at h10
  simp only [fits, hop] at h10
  rw [if_neg (by decide)] at h10
  have h11 : (fu p x.n.toNat).params = x.l.length := by simpa using h10
  obtain ⟨y, hy⟩ := PosOk.root hp h7.1 (show x.n < p.length by omega)
  rw [h11] at hy
  exact ⟨h7.1, by omega, y, by simpa using hy⟩
inductive ER where
  | out
  | wrong
  | val (v : VT) (left : Nat)
inductive EL where
  | out
  | wrong
  | vals (l : List VT) (left : Nat)
def many (nd : Nd) : Nat := if nd.op = 4 ∨ nd.op = 5 then 1 else nd.l.length
end Go.Proofs.YtpppkednpamhbaaGreat
namespace Go.Proofs.YtpppkednpamhbaaGreat
set_option linter.unusedSimpArgs false
set_option linter.unusedVariables false
open Go.Sx
theorem ben_len {op : Int} {m : Nat} (h : ben op m = true) : (op = 4 → m = 2) ∧ (op = 5 → m = 3) ∧ (op = 24 → m = 1) ∧ (op = 11 ∨ op = 12 → m = 1) ∧ (op = 6 ∨ op = 7 ∨ op = 8 ∨ op = 9 ∨ op = 10 → m = 2) ∧ (op = 1 ∨ op = 2 ∨ op = 3 → m = 0) ∧ m ≤ 16 ∧ 1 ≤ op ∧ op ≤ 24 := by
  simp only [ben, chl, Bool.and_eq_true, decide_eq_true_eq] at h
  split at h
  · simp at h; omega
  · split at h
    · simp at h; omega
    · split at h
      · simp at h; omega
      · split at h
        · simp at h; omega
        · split at h
          · simp at h; omega
          · split at h
            · simp at h; omega
            · split at h
              · simp at h; omega
              · simp at h
def VX (p : Pr) (x : Fm) (nd : Nd) : Prop := PosOk p x.fn x.nd x.vars.length nd ∧ x.done.length ≤ many nd ∧ (∀ v ∈ x.vars, vld v = true) ∧ ∀ v ∈ x.done, vld v = true
def WS (p : Pr) : List Fm → Prop
  | [] => True
  | y :: r => (∃ nd, VX p y nd ∧ y.done.length < many nd) ∧ WS p r
def RX (p : Pr) (st : Int) (x : Fm) (nd : Nd) : Prop := VX p x nd ∧ nd.op ≠ 4 ∧ nd.op ≠ 5 ∧ x.done.length = nd.l.length ∧ (st = 1 ∧ nd.op ≠ 14 ∧ nd.op ≠ 15 ∧ nd.op ≠ 24 ∨ st = 2 ∧ (nd.op = 14 ∨ nd.op = 15 ∨ nd.op = 24))
def VO (p : Pr) (o : Int × List Fm) : Prop := o = (4, []) ∨ ∃ x r nd, o.2 = x :: r ∧ RX p o.1 x nd ∧ WS p r ∧ r.length < 256
theorem down_ok {p : Pr} : ∀ (q : Nat) (x : Fm) (r : List Fm) (nd : Nd), VX p x nd → WS p r → r.length < 256 → 201 ≤ q + x.nd.toNat → ∃ o, downF p q (x :: r) = some o ∧ VO p o
  | 0, x, r, nd, hx, _, _, hq => by
    have := hx.1.facts
    omega
  | q + 1, x, r, nd, hx, hr, hr2, hq => by
    obtain ⟨hpos, hdn, hvv, hvd⟩ := hx
    obtain ⟨hd64, hben, hnm, hi, hi2⟩ := hpos.facts
    obtain ⟨b4, b5, b24, b11, b6, b1, b16, _, _⟩ := ben_len hben
    have hnn : 0 ≤ x.nd := by obtain ⟨_, _, _, _, h, _⟩ := hpos; exact h
    rw [downF]
    simp only [hpos.nd]
    by_cases h4 : nd.op = 4 ∧ x.done.length = 1
    · rw [if_pos h4]
      have hl2 := b4 h4.1
      obtain ⟨k, hk⟩ : ∃ k, nd.l[1]? = some k := ⟨_, List.getElem?_eq_getElem (by omega)⟩
      obtain ⟨v, t, hv⟩ : ∃ v t, x.done = v :: t := by
        cases hq : x.done with
        | nil => rw [hq] at h4; simp at h4
        | cons v t => exact ⟨v, t, rfl⟩
      rw [hk, hv]
      simp only []
      rw [if_pos (by omega)]
      obtain ⟨hlt, y, hy⟩ := hpos.kid hk
      rw [if_pos ⟨h4.1, rfl⟩] at hy
      refine down_ok q ⟨x.fn, k, x.vars ++ [v], []⟩ r y ⟨by simpa using hy, by simp, fun w hw => ?_, by simp⟩ hr hr2 (by simp only []; omega)
      rcases List.mem_append.1 hw with hw | hw
      · exact hvv w hw
      · exact hvd w (by rw [hv]; simp at hw; simp [hw])
    rw [if_neg h4]
    by_cases h5 : nd.op = 5 ∧ x.done.length = 1
    · rw [if_pos h5]
      have hl3 := b5 h5.1
      obtain ⟨k1, hk1⟩ : ∃ k, nd.l[1]? = some k := ⟨_, List.getElem?_eq_getElem (by omega)⟩
      obtain ⟨k2, hk2⟩ : ∃ k, nd.l[2]? = some k := ⟨_, List.getElem?_eq_getElem (by omega)⟩
      obtain ⟨v, t, hv⟩ : ∃ v t, x.done = v :: t := by
        cases hq : x.done with
        | nil => rw [hq] at h5; simp at h5
        | cons v t => exact ⟨v, t, rfl⟩
      rw [hv, hk1, hk2]
      simp only []
      cases htr : trF v with
      | none => exact ⟨_, rfl, .inl rfl⟩
      | some b =>
        simp only []
        obtain ⟨hlt1, y1, hy1⟩ := hpos.kid hk1
        obtain ⟨hlt2, y2, hy2⟩ := hpos.kid hk2
        rw [if_neg (by omega)] at hy1 hy2
        cases b with
        | false => exact down_ok q ⟨x.fn, k2, x.vars, []⟩ r y2 ⟨hy2, by simp, hvv, by simp⟩ hr hr2 (by simp only []; omega)
        | true => exact down_ok q ⟨x.fn, k1, x.vars, []⟩ r y1 ⟨hy1, by simp, hvv, by simp⟩ hr hr2 (by simp only []; omega)
    rw [if_neg h5]
    by_cases hl : x.done.length = nd.l.length
    · rw [if_pos hl]
      have n4 : nd.op ≠ 4 := by
        intro h
        have := b4 h
        simp only [many, h, true_or, if_true] at hdn
        omega
      have n5 : nd.op ≠ 5 := by
        intro h
        have := b5 h
        simp only [many, h, or_true, if_true] at hdn
        omega
      have hVX : VX p x nd := ⟨hpos, hdn, hvv, hvd⟩
      simp only [readyF]
      by_cases h24 : nd.op = 24
      · rw [if_pos h24]
        have := b24 h24
        cases hdd : x.done with
        | nil => rw [hdd] at hl; simp at hl; omega
        | cons v t =>
          simp only []
          split
          · exact ⟨_, rfl, .inr ⟨x, r, nd, rfl, ⟨hVX, n4, n5, hl, .inr ⟨rfl, .inr (.inr h24)⟩⟩, hr, hr2⟩⟩
          · exact ⟨_, rfl, .inl rfl⟩
      · rw [if_neg h24]
        refine ⟨_, rfl, .inr ⟨x, r, nd, rfl, ⟨hVX, n4, n5, hl, ?_⟩, hr, hr2⟩⟩
        by_cases h15 : nd.op = 15 ∨ nd.op = 14
        · rw [if_pos h15]; exact .inr ⟨rfl, by omega⟩
        · rw [if_neg h15]; exact .inl ⟨rfl, by omega, by omega, h24⟩
    rw [if_neg hl]
    by_cases h256 : 256 ≤ r.length + 1
    · rw [if_pos h256]; exact ⟨_, rfl, .inl rfl⟩
    rw [if_neg h256]
    have hlt : x.done.length < many nd := by
      unfold many at hdn ⊢
      split
      · rename_i h45
        rw [if_pos h45] at hdn
        omega
      · rename_i h45
        rw [if_neg h45] at hdn
        omega
    have hlt2 : x.done.length < nd.l.length := by
      unfold many at hlt
      split at hlt
      · rename_i h45
        rcases h45 with h | h
        · have := b4 h; omega
        · have := b5 h; omega
      · exact hlt
    obtain ⟨k, hk⟩ : ∃ k, nd.l[x.done.length]? = some k := ⟨_, List.getElem?_eq_getElem hlt2⟩
    rw [hk]
    simp only []
    obtain ⟨hlt3, y, hy⟩ := hpos.kid hk
    rw [if_neg h4] at hy
    exact down_ok q ⟨x.fn, k, x.vars, []⟩ (x :: r) y ⟨hy, by simp, hvv, by simp⟩ ⟨⟨nd, ⟨hpos, hdn, hvv, hvd⟩, hlt⟩, hr⟩ (by simp; omega) (by simp only []; omega)
end Go.Proofs.YtpppkednpamhbaaGreat
