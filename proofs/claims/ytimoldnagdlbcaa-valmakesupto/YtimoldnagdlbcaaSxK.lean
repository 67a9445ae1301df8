/-
  A symbolic walk over the model's code: further rules. Generic: names no program.
-/
import Derived.Test.YtimoldnagdlbcaaSxJ
import Derived.Test.YtimoldnagdlbcaaVRep
namespace Go.Sx
set_option linter.unusedSimpArgs false
set_option linter.unusedVariables false
open Go.RowKit

section
variable {C : Ctx} {K : List KI} {s : St} {R : Array Oper} {l : List Oper} {d : Option Tmp} {t : TypeId} {pos : String} {aft : Array Edge} {v : Value}

/-- The call of a function whose answer is known: what it laid is forgotten. -/
theorem go_callf {f : FuncId} {args : Array Operand} {tys : Array TypeId} {vs : List SV} (hd : dOk C.nt d = true) (hf : canCall C.P f = true) (ha : evs s.sl args.toList = some vs) (hc : Pure C.P f (dens vs) s.G (fun r _ => r = v))
    (h : SGo C (.ops R l :: K) ⟨putS d (rv v) s.sl, s.own, s.G, s.df⟩) : SGo C (.ops R (⟨d, .call ⟨.value (.func f), args, tys⟩, t, pos, aft, none⟩ :: l) :: K) s := by
  intro a w hS
  have hargs : args.map a.eval = (dens vs).toArray := by apply Array.ext'; rw [Array.toList_map]; exact evs_ok hS.sl ha
  have hrun : (execOp a.eval ⟨d, .call ⟨.value (.func f), args, tys⟩, t, pos, aft, none⟩).run C.P w = .ok (.enter f (dens vs).toArray) w := by
    simp only [execOp, resolve, hargs, Act.eval, Deferred.ofValue, Sem.run_bind, Sem.run_pure, Result.andThen_ok, invoke]
    simp [callFunc_ok hf]
  simp only [wpK, wpList]
  rw [if_pos (by simp [Region.wanted])]
  refine .inl ?_
  unfold Oper.wp
  rw [hrun]
  simp only [Oper.upon]
  refine (hc w hS.mem.has).mono ?_
  rintro e w' ⟨v', G', rfl, hg, rfl⟩
  have hS' := hS.put hd (rv v') (hS.mem.call0 hg)
  rw [rv_den] at hS'
  have := h _ _ hS'
  simpa only [wpK] using this

theorem Pure.val {P : Program} {f : FuncId} {args : List Value} {G : Hp} {v v' : Value} (h : Pure P f args G (fun r _ => r = v)) (e : v = v') : Pure P f args G (fun r _ => r = v') := e ▸ h

/-- The call of a function that answers a bool that is decided. -/
theorem go_callb {f : FuncId} {args : Array Operand} {tys : Array TypeId} {vs : List SV} {u : Bool} (hd : dOk C.nt d = true) (hf : canCall C.P f = true) (ha : evs s.sl args.toList = some vs) (hc : Pure C.P f (dens vs) s.G (fun r _ => r = .bool u))
    (h : SGo C (.ops R l :: K) ⟨putS d (.b u) s.sl, s.own, s.G, s.df⟩) : SGo C (.ops R (⟨d, .call ⟨.value (.func f), args, tys⟩, t, pos, aft, none⟩ :: l) :: K) s := by
  refine go_callf hd hf ha hc ?_
  cases d with
  | none => exact h
  | some d =>
    refine SGo.weaken (s' := ⟨putS (some d) (.b u) s.sl, s.own, s.G, s.df⟩) rfl rfl (fun i x e => ?_) (fun _ _ e => e) h
    simp only [putS, lk_stk] at e ⊢
    split at e
    · rename_i q; cases e; exact .inr ⟨rv (.bool u), by simp [q], by rw [rv_den]; rfl⟩
    · rename_i q; rw [if_neg q]; exact .inl e

/-- A thing of the call's own is forgotten. -/
theorem go_drop (k : Nat) (h : SGo C K ⟨s.sl, rmk k s.own, s.G, s.df⟩) : SGo C K s :=
  SGo.weaken (s' := ⟨s.sl, rmk k s.own, s.G, s.df⟩) rfl rfl (fun _ _ e => .inl e) (fun i x e => by
    simp only [lk_rmk] at e
    split at e
    · cases e
    · exact e) h

/-- A slice of trees that grew goes to what is known for good. -/
theorem go_pubS (k : Nat) {b n : Nat} {e : TypeId} {v : Value} {xs : List Value} {ts : List VT} (hk : lk k s.own = some (b, .row v e 3 n xs)) (hmh : C.mh ≤ k) (hn : n = ts.length) (h63 : n ≤ 9223372036854775807) (hr : repV s.G ts xs)
    (h : ∀ G' ad cap, Le s.G G' → v = .slice ad ts.length cap → repS G' ts (.slice ad ts.length cap) → SGo C K ⟨s.sl, rmk k s.own, G', s.df⟩) : SGo C K s := by
  subst hn
  refine go_rowcases k hk (fun hv hn0 hx => ?_) (fun g cap hv hc hl => ?_)
  · have h0 : ts = [] := List.length_eq_zero_iff.1 hn0
    refine go_drop k (h s.G none 0 (Le.refl _) (by rw [hv, h0]; rfl) ⟨h63, none, 0, rfl, .inl h0⟩)
  · subst hv
    refine go_pubrow k hk hmh ?_
    intro G' hle hat
    exact h G' _ _ hle rfl ⟨h63, _, _, rfl, .inr ⟨g, 0, xs, rfl, hat, repV_mono hle hr⟩⟩
end
end Go.Sx
