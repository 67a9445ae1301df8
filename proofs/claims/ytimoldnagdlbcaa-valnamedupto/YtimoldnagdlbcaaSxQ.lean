/-
  A symbolic walk over the model's code: results that lie in new blocks alone. Generic: names no program.
-/
import Derived.Test.YtimoldnagdlbcaaSxP
namespace Go.Sx
set_option linter.unusedSimpArgs false
set_option linter.unusedVariables false
open Go.RowKit

/-- What G' knows beyond G. -/
def diff (G' G : Hp) : Hp := fun b => match G b with | some _ => none | none => G' b
theorem diff_le (G' G : Hp) : Le (diff G' G) G' := fun b o e => by
  unfold diff at e
  cases hG : G b with
  | none => rw [hG] at e; exact e
  | some x => rw [hG] at e; cases e
theorem diff_mono {G G1 G1' G2 : Hp} (h : Le G G1) (h' : Le G1' G2) : Le (diff G1' G1) (diff G2 G) := fun b o e => by
  unfold diff at e ⊢
  cases hG : G b with
  | none =>
    cases hG1 : G1 b with
    | none => rw [hG1] at e; exact h' b o e
    | some x => rw [hG1] at e; cases e
  | some x => rw [h b x hG] at e; cases e
theorem at_diff {G' G : Hp} {b off : Nat} {vs : List Value} (h : At G' b off vs) (hG : G b = none) : At (diff G' G) b off vs := by
  obtain ⟨arr, e, fz, h1, h2, h3⟩ := h
  exact ⟨arr, e, fz, by unfold diff; rw [hG]; exact h1, h2, h3⟩

/-- An iterator knows more when more is known. -/
theorem Iter.mono {P : Program} {f : FuncId} {cap : List Value} {G G' : Hp} {enc : Nat → List Value → Hp → Prop} {N : Nat} (h : Iter P f cap G enc N) (hl : Le G G') : Iter P f cap G' enc N := by
  intro l A B hy w Z M hw hA hM
  have hw0 : Has w G := fun b o e => hw b o (hl b o e)
  have hM0 : ∀ g, M g → G g = none := fun g hg => by
    cases hq : G g with
    | none => rfl
    | some o => have := hl g o hq; rw [hM g hg] at this; cases this
  refine (h l A B hy w Z M hw0 hA hM0).mono ?_
  rintro e w' ⟨v, G1, Y, Z', M', rfl, hr, hh, hold, hm, hY, hφ⟩
  refine ⟨v, fun b => if b < w.heap.size then G' b else G1 b, Y, Z', M', rfl, hr, ?_, ?_, ?_, hY, hφ⟩
  · intro b o e
    simp only at e
    split at e
    · rename_i hb
      have hnm : ¬ M b := fun q => by rw [hM b q] at e; cases e
      rw [hr.same b hb hnm]
      exact hw b o e
    · exact hh b o e
  · intro b hb
    simp only [hb, if_true]
  · intro g hg
    simp only
    split
    · rename_i hb
      rcases hr.m g hg with q | q
      · exact hM g q
      · omega
    · exact hm g hg

section
variable {C : Ctx} {K : List KI} {s : St} {R : Array Oper} {l : List Oper} {d : Option Tmp} {t : TypeId} {pos : String} {aft : Array Edge} {v : Value}

theorem go_known {P : Prop} (h : ∀ a w, Sat C s a w → P) (h' : P → SGo C K s) : SGo C K s := fun a w hS => h' (h a w hS) a w hS

/-- A block of the call's own is not known to G. -/
theorem go_new0 (k : Nat) {b g : Nat} {o : OO} (hk : lk k s.own = some (b, o)) (hg : o.mut b g) (h : s.G g = none → SGo C K s) : SGo C K s :=
  go_known (fun _ _ hS => ((hS.mem.own _ _ _ hk).2 g hg).1) h

/-- A call that reads a growing slice of trees of the call's own, and whose result lies in new blocks alone. -/
theorem go_lendF (k : Nat) {f : FuncId} {args : Array Operand} {tys : Array TypeId} {vs : List SV} {b n : Nat} {e : TypeId} {u : Value} {xs : List Value} {ts : List VT} {ψ : Value → Hp → Prop} (hd : dOk C.nt d = true) (hf : canCall C.P f = true) (ha : evs s.sl args.toList = some vs)
    (hk : lk k s.own = some (b, .row u e 3 n xs)) (hmh : C.mh ≤ k) (hn : n = ts.length) (h63 : n ≤ 9223372036854775807) (hr : repV s.G ts xs) (hc : ∀ G1, Le s.G G1 → repS G1 ts u → Pure C.P f (dens vs) G1 (fun v G' => ψ v (diff G' G1))) (hψ : ∀ v H H', Le H H' → ψ v H → ψ v H')
    (h : ∀ v G', Le s.G G' → ψ v G' → SGo C (.ops R l :: K) ⟨putS d (rv v) s.sl, s.own, G', s.df⟩) : SGo C (.ops R (⟨d, .call ⟨.value (.func f), args, tys⟩, t, pos, aft, none⟩ :: l) :: K) s := by
  subst hn
  refine go_rowcases k hk (fun hv hn0 hx => ?_) (fun g cap hv hc' hl => ?_)
  · have h0 : ts = [] := List.length_eq_zero_iff.1 hn0
    refine go_call hd hf ha (hc s.G (Le.refl _) ⟨h63, none, 0, by rw [hv, h0]; rfl, .inl h0⟩) ?_
    intro v G' hle hp
    exact h v G' hle (hψ v _ _ (diff_le _ _) hp)
  · subst hv
    intro a w hS
    have hargs : args.map a.eval = (dens vs).toArray := by apply Array.ext'; rw [Array.toList_map]; exact evs_ok hS.sl ha
    have hrun : (execOp a.eval ⟨d, .call ⟨.value (.func f), args, tys⟩, t, pos, aft, none⟩).run C.P w = .ok (.enter f (dens vs).toArray) w := by
      simp only [execOp, resolve, hargs, Act.eval, Deferred.ofValue, Sem.run_bind, Sem.run_pure, Result.andThen_ok, invoke]
      simp [callFunc_ok hf]
    obtain ⟨x, hx, hat⟩ := row_block (hS.mem.own _ _ _ hk).1
    obtain ⟨l1, l2⟩ := hS.mem.lent hk rfl hx
    have hgk := (hS.mem.own _ _ _ hk).2 g rfl
    obtain ⟨G1, hG1⟩ : ∃ G1 : Hp, G1 = fun j => if j = g then some x else s.G j := ⟨_, rfl⟩
    rw [← hG1] at l1 l2
    have hG1g : G1 g = some x := by rw [hG1]; simp
    have hG1n : ∀ j, j ≠ g → G1 j = s.G j := fun j hj => by rw [hG1]; simp [hj]
    refine K_enter rfl hrun ((hc G1 l1 ⟨h63, _, _, rfl, .inr ⟨g, 0, xs, rfl, hat _ hG1g, repV_mono l1 hr⟩⟩ w l2).mono ?_)
    rintro e' w' ⟨v, G', rfl, hg, hp⟩
    obtain ⟨G2, hG2⟩ : ∃ G2 : Hp, G2 = fun j => if j = g then none else G' j := ⟨_, rfl⟩
    have hG2g : G2 g = none := by rw [hG2]; simp
    have hG2n : ∀ j, j ≠ g → G2 j = G' j := fun j hj => by rw [hG2]; simp [hj]
    have hsz := hS.mem.grow.size
    have hm : Mem C s.own G2 w' := by
      refine ⟨fun j c y q => ?_, hS.mem.inj, ?_⟩
      · obtain ⟨f1, f2⟩ := hS.mem.own j c y q
        refine ⟨OO.holds_same f1 hg.fr fun i hi => hg.blk i (hS.mem.lt q hi) (by simp), fun i hi => ?_⟩
        obtain ⟨f3, f4, f5⟩ := f2 i hi
        refine ⟨?_, f4, f5⟩
        by_cases hig : i = g
        · rw [hig]; exact hG2g
        · rw [hG2n i hig, hg.old i (hS.mem.ltm q hi), hG1n i hig]; exact f3
      · have q := hS.mem.grow
        refine ⟨hg.os.trans q.os, hg.tape.trans q.tape, hg.output.trans q.output, Nat.le_trans q.size hg.size, fun i hi hmb => ?_, fun i y e2 => ?_, fun i hi => ?_⟩
        · rw [hg.blk i (by omega) (by simp)]; exact q.blk i hi hmb
        · have hig : i ≠ g := by intro e3; rw [e3, hG2g] at e2; cases e2
          rw [hG2n i hig] at e2
          exact hg.has i y e2
        · have hig : i ≠ g := by have := hgk.2.1 hmh; omega
          rw [hG2n i hig, hg.old i (by omega), hG1n i hig]
          exact q.old i hi
    have hle : Le s.G G2 := fun i y e2 => by
      have hig : i ≠ g := by intro e3; rw [e3, hgk.1] at e2; cases e2
      rw [hG2n i hig]
      exact hg.keep l2 (l1 i y e2)
    have hle2 : Le (diff G' G1) G2 := fun i y e2 => by
      have hig : i ≠ g := by
        intro e3
        unfold diff at e2
        rw [e3, hG1g] at e2; cases e2
      rw [hG2n i hig]
      exact diff_le _ _ i y e2
    have hS' := hS.put hd (rv v) hm
    rw [rv_den] at hS'
    exact ⟨_, rfl, h v G2 hle (hψ v _ _ hle2 hp) _ _ hS'⟩

/-- A thing of the call's own under another handle. -/
theorem go_rekey (i j : Nat) {b : Nat} {o : OO} (hi : lk i s.own = some (b, o)) (hj : lk j s.own = none) (hmi : C.mh ≤ i) (hmj : C.mh ≤ j) (h : SGo C K ⟨s.sl, stk j (b, o) (rmk i s.own), s.G, s.df⟩) : SGo C K s := by
  intro a w hS
  refine h a w ⟨hS.sl, hS.nt, hS.df, ?_⟩
  have key : ∀ k c x, lk k (stk j (b, o) (rmk i s.own)) = some (c, x) → ∃ k', lk k' s.own = some (c, x) ∧ (k = j ∧ k' = i ∨ k ≠ j ∧ k' = k ∧ k ≠ i) := by
    intro k c x e
    rw [lk_stk] at e
    split at e
    · rename_i q; cases e; exact ⟨i, hi, .inl ⟨q, rfl⟩⟩
    · rename_i q
      rw [lk_rmk] at e
      split at e
      · cases e
      · rename_i q2; exact ⟨k, e, .inr ⟨q, rfl, q2⟩⟩
  refine ⟨fun k c x e => ?_, fun k k' c c' x x' g e e' f f' => ?_, hS.mem.grow⟩
  · obtain ⟨k', e1, hk⟩ := key k c x e
    obtain ⟨f1, f2⟩ := hS.mem.own _ _ _ e1
    refine ⟨f1, fun g hg => ?_⟩
    obtain ⟨q1, q2, q3⟩ := f2 g hg
    rcases hk with ⟨rfl, rfl⟩ | ⟨_, rfl, _⟩
    · exact ⟨q1, fun _ => q2 hmi, fun q => by omega⟩
    · exact ⟨q1, q2, q3⟩
  · obtain ⟨k1, e1, hk1⟩ := key k c x e
    obtain ⟨k2, e2, hk2⟩ := key k' c' x' e'
    have := hS.mem.inj _ _ _ _ _ _ g e1 e2 f f'
    rcases hk1 with ⟨rfl, rfl⟩ | ⟨_, rfl, h3⟩ <;> rcases hk2 with ⟨rfl, rfl⟩ | ⟨_, rfl, h4⟩
    · rfl
    · exact absurd this.symm h4
    · exact absurd this h3
    · exact this

/-- The call of a function value. -/
theorem go_callw {g : Operand} {f : FuncId} {cap : List Value} {args : Array Operand} {tys : Array TypeId} {vs : List SV} {z : SV} {φ : Value → Hp → Prop} (hd : dOk C.nt d = true) (hf : canCall C.P f = true) (hg : ev s.sl g = some z) (hz : z.den = .func (.func f) #[] cap.toArray) (ha : evs s.sl args.toList = some vs) (hc : Pure C.P f (dens vs ++ cap) s.G φ)
    (h : ∀ v G', Le s.G G' → φ v G' → SGo C (.ops R l :: K) ⟨putS d (rv v) s.sl, s.own, G', s.df⟩) : SGo C (.ops R (⟨d, .call ⟨.value g, args, tys⟩, t, pos, aft, none⟩ :: l) :: K) s := by
  intro a w hS
  have hargs : args.map a.eval = (dens vs).toArray := by apply Array.ext'; rw [Array.toList_map]; exact evs_ok hS.sl ha
  have hgv := ev_ok hS.sl hg
  rw [hz] at hgv
  have hrun : (execOp a.eval ⟨d, .call ⟨.value g, args, tys⟩, t, pos, aft, none⟩).run C.P w = .ok (.enter f (dens vs ++ cap).toArray) w := by
    simp only [execOp, resolve, hargs, hgv, Deferred.ofValue, Sem.run_bind, Sem.run_pure, Result.andThen_ok, invoke]
    simp [callFunc_ok hf]
  refine K_enter rfl hrun ((hc w hS.mem.has).mono ?_)
  rintro e w' ⟨v, G', rfl, hg', hφ⟩
  have hle : Le s.G G' := fun b o e => hg'.keep hS.mem.has e
  have hS' := hS.put hd (rv v) (hS.mem.call hg')
  rw [rv_den] at hS'
  exact ⟨_, rfl, h v G' hle hφ _ _ hS'⟩
end
end Go.Sx
