/-
  A symbolic walk over the model's code: an entry of a map is struck. Names no program.
-/
import Derived.Test.YtpmmbjcgabnloaaZ4
import Derived.Deep.Strs
import Derived.Deep.Slices
import Derived.WalkKit
import Derived.ProofKit
import Derived.OpenShut
import Derived.JoinedCond
import Derived.Carry
set_option linter.unusedSimpArgs false
set_option linter.unusedVariables false
namespace Go.Sx
set_option linter.unusedSimpArgs false
set_option linter.unusedVariables false
open Go.RowKit
def mdel (k : Int) : MEs → MEs
  | [] => []
  | x :: l => if x.1 = k then l else x :: mdel k l
theorem mdel_none {k : Int} : ∀ {l : MEs}, mget k l = none → mdel k l = l
  | [], _ => rfl
  | x :: l, h => by
    simp only [mget] at h
    split at h
    · cases h
    · rename_i hne; rw [mdel, if_neg hne, mdel_none h]
theorem findNow_del {q kd : IntKind} {k : Int} {v : Value} : ∀ {l : MEs} (i : Nat), mget k l = some v → ∃ j, Instr.findNow (.int q) (.int kd k) (l.map (mEnt kd)) i = some (some (i + j, v)) ∧ mdel k l = l.eraseIdx j
  | [], i, h => by simp [mget] at h
  | x :: l, i, h => by
    simp only [mget] at h
    split at h
    · rename_i he
      cases h
      refine ⟨0, ?_, ?_⟩
      · have : (k == x.1) = true := by simp [he]
        simp only [List.map_cons, Instr.findNow, mEnt, Instr.sameNow, if_true, this, Nat.add_zero]
      · simp [mdel, he]
    · rename_i hne
      obtain ⟨j, h1, h2⟩ := findNow_del (l := l) (q := q) (kd := kd) (i + 1) h
      refine ⟨j + 1, ?_, ?_⟩
      · have : (k == x.1) = false := by simp; omega
        simp only [List.map_cons, Instr.findNow, mEnt, Instr.sameNow, if_true, this]
        rw [show i + (j + 1) = i + 1 + j by omega]
        exact h1
      · simp [mdel, hne, h2]
theorem map_er {α β : Type} (f : α → β) : ∀ (l : List α) (j : Nat), (l.eraseIdx j).map f = (l.map f).eraseIdx j
  | [], _ => rfl
  | x :: l, 0 => rfl
  | x :: l, j + 1 => by simp [map_er f l j]
def mUq (l : MEs) : Prop := (l.map (·.1)).Nodup
theorem mget_mem {k : Int} : ∀ {l : MEs}, (mget k l).isSome = true ↔ k ∈ l.map (·.1)
  | [] => by simp [mget]
  | x :: l => by
    simp only [mget, List.map_cons, List.mem_cons]
    split
    · rename_i h; simp [h]
    · rename_i h; rw [mget_mem]; simp [Ne.symm h]
theorem mget_del {k k' : Int} : ∀ {l : MEs}, mUq l → mget k' (mdel k l) = if k' = k then none else mget k' l
  | [], _ => by simp [mdel, mget]
  | x :: l, h => by
    simp only [mUq, List.map_cons, List.nodup_cons] at h
    by_cases hx : x.1 = k
    · rw [mdel, if_pos hx]
      by_cases hk : k' = k
      · rw [if_pos hk]
        cases hm : mget k' l with
        | none => rfl
        | some v =>
          have : k' ∈ l.map (·.1) := mget_mem.1 (by rw [hm]; rfl)
          rw [hk, ← hx] at this
          exact absurd this h.1
      · rw [if_neg hk, mget, if_neg (by omega)]
    · rw [mdel, if_neg hx]
      simp only [mget]
      by_cases hk : k' = k
      · rw [if_pos hk, if_neg (by omega), mget_del h.2, if_pos hk]
      · rw [if_neg hk, mget_del h.2, if_neg hk]
theorem mdel_sub {k : Int} : ∀ {l : MEs} {y : Int}, y ∈ (mdel k l).map (·.1) → y ∈ l.map (·.1)
  | [], y, h => h
  | x :: l, y, h => by
    rw [mdel] at h
    split at h
    · exact List.mem_cons_of_mem _ h
    · simp only [List.map_cons, List.mem_cons] at h ⊢
      exact h.imp id fun q => mdel_sub q
theorem mUq_del {k : Int} : ∀ {l : MEs}, mUq l → mUq (mdel k l)
  | [], h => h
  | x :: l, h => by
    simp only [mUq, List.map_cons, List.nodup_cons] at h
    rw [mdel]
    split
    · exact h.2
    · simp only [mUq, List.map_cons, List.nodup_cons]
      exact ⟨fun q => h.1 (mdel_sub q), mUq_del h.2⟩
theorem mget_put {k k' : Int} {v : Value} {c : Nat} : ∀ {l : MEs}, mget k' (mput k v c l) = if k' = k then some v else mget k' l
  | [] => by
    simp only [mput, mget]
    by_cases h : k = k'
    · rw [if_pos h, if_pos h.symm]
    · rw [if_neg h, if_neg (fun q => h q.symm)]
  | x :: l => by
    rw [mput]
    split
    · rename_i hx
      simp only [mget]
      by_cases h : k' = k
      · rw [if_pos h.symm, if_pos h]
      · rw [if_neg (fun q => h q.symm), if_neg h, if_neg (by omega)]
    · rename_i hx
      simp only [mget, mget_put]
      by_cases h : k' = k
      · rw [if_pos h, if_neg (by omega), if_pos h]
      · rw [if_neg h, if_neg h]
theorem mUq_put {k : Int} {v : Value} {c : Nat} : ∀ {l : MEs}, mUq l → mUq (mput k v c l)
  | [], _ => by simp [mput, mUq]
  | x :: l, h => by
    simp only [mUq, List.map_cons, List.nodup_cons] at h
    rw [mput]
    split
    · rename_i hx
      simp only [mUq, List.map_cons, List.nodup_cons]
      rw [← hx]; exact h
    · rename_i hx
      simp only [mUq, List.map_cons, List.nodup_cons]
      refine ⟨fun q => ?_, mUq_put h.2⟩
      have : (mget x.1 (mput k v c l)).isSome = true := mget_mem.2 q
      rw [mget_put, if_neg hx] at this
      exact h.1 (mget_mem.1 this)
section
variable {P : Program} {w : World} {q kd : IntKind} {K E T : TypeId} {b c : Nat} {l : MEs} {z : Value} {k : Int}
theorem run_mdelete (hT : P.underlying T = some (.map K E)) (hK : P.underlying K = some (.int q)) (hb : w.heap[b]? = some (mObj kd l c)) (k : Int) (t : TypeId) :
    (Builtin.delete_ #[T, K] t #[.map (some b), .int kd k]).run P w = .ok (.tuple #[]) (setBlk w b (mObj kd (mdel k l) c)) := by
  have hb' : w.heap[b]? = some (.map (l.map (mEnt kd)).toArray c) := hb
  have e0 : (#[T, K] : Array TypeId)[0]? = some T := rfl
  have e1 : (#[Value.map (some b), Value.int kd k] : Array Value)[0]? = some (.map (some b)) := rfl
  have e2 : (#[Value.map (some b), Value.int kd k] : Array Value)[1]? = some (.int kd k) := rfl
  simp only [Builtin.delete_, e0, e1, e2, Sem.run_bind, run_und w hT, Result.andThen_ok, Go.MapKept.run_getObj_map hb', run_checkKey hK, Instr.findKey, run_und w hK]
  cases hm : mget k l with
  | none =>
    simp only [findNow_none (q := q) (kd := kd) 0 hm, Sem.run_pure, Sem.run_bind, Result.andThen_ok, Go.MapKept.run_setObj_map _ hb', mdel_none hm]
    rfl
  | some v0 =>
    obtain ⟨j, h1, h2⟩ := findNow_del (q := q) (kd := kd) 0 hm
    have he : ((l.map (mEnt kd)).toArray.eraseIdxIfInBounds j) = ((l.eraseIdx j).map (mEnt kd)).toArray := by
      apply Array.ext'
      rw [map_er]
      simp
    simp only [h1, Sem.run_pure, Sem.run_bind, Result.andThen_ok, h2, Nat.zero_add, he, Go.MapKept.run_setObj_map _ hb']
    rfl
end
section
variable {C : Ctx} {K : List KI} {s : St} {R : Array Oper} {l : List Oper} {d : Option Tmp} {t : TypeId} {pos : String} {aft : Array Edge} {sz by' sz2 by2 : Nat} {ze ze2 : List Value} {fl fl2 : List (Nat × Nat × Bool)} {q kd : IntKind} {T KT E : TypeId} {x i : Operand} {b c : Nat} {es : MEs} {n : Int}
theorem go_mdel (k : Nat) (hd : dOk C.nt d = true) (hT : C.ty T = some ⟨.map KT E, sz, by', ze, fl⟩) (hK : C.ty KT = some ⟨.int q, sz2, by2, ze2, fl2⟩) (hx : ev s.sl x = some (.v (.map (some b)))) (hi : ev s.sl i = some (.v (.int kd n))) (hk : lk k s.own = some (b, .o (mObj kd es c)))
    (h : SGo C (.ops R l :: K) ⟨putS d (.v (.tuple #[])) s.sl, stk k (b, .o (mObj kd (mdel n es) c)) s.own, s.G, s.df⟩) : SGo C (.ops R (⟨d, .call ⟨.builtin .delete, #[x, i], #[T, KT]⟩, t, pos, aft, none⟩ :: l) :: K) s := by
  intro a w hS
  have hxv := ev_ok hS.sl hx
  have hiv := ev_ok hS.sl hi
  simp only [SV.den] at hxv hiv
  have h1 := (C.tyok _ _ hT).k
  have h2 := (C.tyok _ _ hK).k
  simp only [TK.fits] at h1 h2
  have hb := (hS.mem.own _ _ _ hk).1
  simp only [OO.holds] at hb
  have hrun : (execOp a.eval ⟨d, .call ⟨.builtin .delete, #[x, i], #[T, KT]⟩, t, pos, aft, none⟩).run C.P w = .ok (.value (.tuple #[])) (setBlk w b (mObj kd (mdel n es) c)) := by
    simp [execOp, resolve, hxv, hiv, Deferred.ofValue, invoke, builtin, run_mdelete h1 h2 hb]
  refine K_value rfl hrun ?_
  have hlt := lt_of_heap hb
  have hm : Mem C (stk k (b, .o (mObj kd (mdel n es) c)) s.own) s.G (setBlk w b (mObj kd (mdel n es) c)) :=
    hS.mem.put hk rfl rfl rfl (by rw [setBlk_size]; exact Nat.le_refl _) (fun j _ hj => setBlk_ne (fun e => hj e) _) (setBlk_same hlt _) (fun g => ⟨.inl, .inl⟩)
  have hS' := hS.put hd (.v (.tuple #[])) hm
  simp only [SV.den] at hS'
  exact h _ _ hS'
end
end Go.Sx
namespace Go.Proofs.Ytpmmbjcgabnloaa
set_option linter.unusedSimpArgs false
set_option linter.unusedVariables false
open Go.Sx
def opnK (out : List Op) (th : Int) : Nat → Option Nat
  | 0 => none
  | k + 1 => match out[k]? with
    | some o => if o.th = th ∧ o.dn = false then some k else opnK out th k
    | none => opnK out th k
def opn (out : List Op) (th : Int) : Option Nat := opnK out th out.length
theorem opnK_some {out : List Op} {th : Int} : ∀ {k j : Nat}, opnK out th k = some j → j < k ∧ ∃ o, out[j]? = some o ∧ o.th = th ∧ o.dn = false
  | 0, j, h => by cases h
  | k + 1, j, h => by
    rw [opnK] at h
    split at h
    · rename_i o ho
      split at h
      · rename_i hc; cases h; exact ⟨by omega, o, ho, hc⟩
      · obtain ⟨h1, h2⟩ := opnK_some h; exact ⟨by omega, h2⟩
    · obtain ⟨h1, h2⟩ := opnK_some h; exact ⟨by omega, h2⟩
theorem opnK_none {out : List Op} {th : Int} : ∀ {k : Nat}, opnK out th k = none → ∀ {j : Nat} {o : Op}, j < k → out[j]? = some o → ¬ (o.th = th ∧ o.dn = false)
  | 0, _, j, o, hj, _ => by omega
  | k + 1, h, j, o, hj, ho => by
    rw [opnK] at h
    by_cases hjk : j = k
    · subst hjk
      rw [ho] at h
      simp only at h
      split at h
      · cases h
      · rename_i hc; exact hc
    · split at h
      · split at h
        · cases h
        · exact opnK_none h (by omega) ho
      · exact opnK_none h (by omega) ho
def Uq (out : List Op) : Prop := ∀ (i j : Nat) (a b : Op), out[i]? = some a → out[j]? = some b → a.dn = false → b.dn = false → a.th = b.th → i = j
theorem opn_eq {out : List Op} {th : Int} (hu : Uq out) {j : Nat} {o : Op} (ho : out[j]? = some o) (ht : o.th = th) (hd : o.dn = false) : opn out th = some j := by
  have hj : j < out.length := (List.getElem?_eq_some_iff.1 ho).1
  rw [opn]
  cases h : opnK out th out.length with
  | none => exact absurd ⟨ht, hd⟩ (opnK_none h hj ho)
  | some i =>
    obtain ⟨_, a, ha, h1, h2⟩ := opnK_some h
    rw [hu i j a o ha ho h2 hd (h1.trans ht.symm)]
theorem opn_no {out : List Op} {th : Int} (h : ∀ (j : Nat) (o : Op), out[j]? = some o → o.th = th → o.dn = false → False) : opn out th = none := by
  rw [opn]
  cases hk : opnK out th out.length with
  | none => rfl
  | some i =>
    obtain ⟨_, a, ha, h1, h2⟩ := opnK_some hk
    exact (h i a ha h1 h2).elim
theorem opn_some {out : List Op} {th : Int} {j : Nat} (h : opn out th = some j) : ∃ hj : j < out.length, out[j].th = th ∧ out[j].dn = false := by
  obtain ⟨h1, o, h2, h3, h4⟩ := opnK_some h
  obtain ⟨hj, rfl⟩ := List.getElem?_eq_some_iff.1 h2
  exact ⟨hj, h3, h4⟩
theorem opn_free {out : List Op} {th : Int} (h : opn out th = none) {j : Nat} {o : Op} (ho : out[j]? = some o) (ht : o.th = th) (hd : o.dn = false) : False :=
  opnK_none h (List.getElem?_eq_some_iff.1 ho).1 ho ⟨ht, hd⟩
theorem uq_add {out : List Op} {x : Op} (hu : Uq out) (hn : opn out x.th = none) : Uq (out ++ [x]) := by
  intro i j a b ha hb h1 h2 h3
  have hs : ∀ {i : Nat} {a : Op}, (out ++ [x])[i]? = some a → out[i]? = some a ∨ (i = out.length ∧ a = x) := fun {i a} h => by
    rcases Nat.lt_or_ge i out.length with q | q
    · rw [List.getElem?_append_left q] at h; exact .inl h
    · rw [List.getElem?_append_right q] at h
      rcases Nat.eq_zero_or_pos (i - out.length) with z | z
      · rw [z] at h; simp at h; exact .inr ⟨by omega, h.symm⟩
      · rw [List.getElem?_eq_none (by simp; omega)] at h; cases h
  rcases hs ha with qa | ⟨qa, ea⟩ <;> rcases hs hb with qb | ⟨qb, eb⟩
  · exact hu i j a b qa qb h1 h2 h3
  · rw [eb] at h3; exact (opn_free hn qa h3 h1).elim
  · rw [ea] at h3; exact (opn_free hn qb h3.symm h2).elim
  · omega
theorem opn_add {out : List Op} {x : Op} (hu : Uq out) (hn : opn out x.th = none) (hx : x.dn = false) (th : Int) : opn (out ++ [x]) th = if th = x.th then some out.length else opn out th := by
  have hu2 := uq_add hu hn
  split
  · rename_i h
    exact opn_eq hu2 (o := x) (by simp) h.symm hx
  · rename_i h
    cases ho : opn out th with
    | none =>
      refine opn_no fun j o hj ht hd => ?_
      rcases Nat.lt_or_ge j out.length with q | q
      · rw [List.getElem?_append_left q] at hj; exact opn_free ho hj ht hd
      · rw [List.getElem?_append_right q] at hj
        rcases Nat.eq_zero_or_pos (j - out.length) with z | z
        · rw [z] at hj; simp at hj; subst hj; exact h ht.symm
        · rw [List.getElem?_eq_none (by simp; omega)] at hj; cases hj
    | some j =>
      obtain ⟨hj, h1, h2⟩ := opn_some ho
      exact opn_eq hu2 (o := out[j]) (by rw [List.getElem?_append_left hj, List.getElem?_eq_getElem hj]) h1 h2
theorem uq_set {out : List Op} {k : Nat} {y : Op} (hu : Uq out) (hy : y.dn = true) : Uq (out.set k y) := by
  intro i j a b ha hb h1 h2 h3
  have hs : ∀ {i : Nat} {a : Op}, (out.set k y)[i]? = some a → a.dn = false → out[i]? = some a := fun {i a} h hd => by
    rw [List.getElem?_set] at h
    split at h
    · split at h
      · cases h; rw [hy] at hd; cases hd
      · cases h
    · exact h
  exact hu i j a b (hs ha h1) (hs hb h2) h1 h2 h3
theorem opn_set {out : List Op} {k : Nat} {y : Op} (hu : Uq out) (hy : y.dn = true) {t0 : Int} (hk : opn out t0 = some k) (th : Int) : opn (out.set k y) th = if th = t0 then none else opn out th := by
  have hu2 := uq_set (k := k) hu hy
  obtain ⟨hkl, hk1, hk2⟩ := opn_some hk
  have hs : ∀ {i : Nat} {a : Op}, (out.set k y)[i]? = some a → a.dn = false → out[i]? = some a ∧ i ≠ k := fun {i a} h hd => by
    rw [List.getElem?_set] at h
    by_cases q : k = i
    · rw [if_pos q, if_pos hkl] at h
      cases h; rw [hy] at hd; cases hd
    · rw [if_neg q] at h; exact ⟨h, fun e => q e.symm⟩
  split
  · rename_i h
    refine opn_no fun j o hj ht hd => ?_
    obtain ⟨h1, h2⟩ := hs hj hd
    exact h2 (hu j k o out[k] h1 (List.getElem?_eq_getElem hkl) hd hk2 (by rw [ht, hk1, h]))
  · rename_i h
    cases ho : opn out th with
    | none => exact opn_no fun j o hj ht hd => opn_free ho (hs hj hd).1 ht hd
    | some j =>
      obtain ⟨hj, h1, h2⟩ := opn_some ho
      have hne : k ≠ j := fun q => by subst q; exact h (h1.symm.trans hk1)
      exact opn_eq hu2 (o := out[j]) (by rw [List.getElem?_set_ne hne, List.getElem?_eq_getElem hj]) h1 h2
def retOp (o : Op) (y : VT) (st : Int) : Op := ⟨o.th, o.kd, o.arg, y, o.fr, st, true⟩
def ofStep (last : Int) (out : List Op) (x : Mk) : Option (List Op) :=
  if x.th < 0 ∨ x.st < last then none else
  match sdP x.v with
  | none => some out
  | some (n, y) =>
    if n % 2 = 1 then (match opn out x.th with
      | none => none
      | some k => match out[k]? with
        | none => none
        | some o => if o.kd = n / 2 then some (out.set k (retOp o y x.st)) else none)
    else (match opn out x.th with
      | none => some (out ++ [dntOp x n y])
      | some _ => none)
def ofP : List Mk → Int → List Op → Option (List Op)
  | [], _, out => some out
  | x :: r, last, out => match ofStep last out x with
    | none => none
    | some out' => ofP r x.st out'
def ofRet (r : Option (List Op)) (v : Value) (G : Hp) : Prop := match r with
  | none => v = .tuple #[.slice none 0 0, .int .i64 290]
  | some out => ∃ sl, v = .tuple #[sl, .int .i64 0] ∧ rO.S G out sl
theorem ofP_step {l : List Mk} {k : Nat} {last : Int} {out : List Op} (hk : k < l.length) : ofP (l.drop k) last out = match ofStep last out l[k] with
    | none => none
    | some out' => ofP (l.drop (k + 1)) l[k].st out' := by
  rw [List.drop_eq_getElem_cons hk, ofP]
end Go.Proofs.Ytpmmbjcgabnloaa
namespace Go.Proofs.Ytpmmbjcgabnloaa
set_option linter.unusedSimpArgs false
set_option linter.unusedVariables false
open Go.Sx
set_option maxHeartbeats 8000000
set_option maxRecDepth 20000
theorem cut1 {xs c : List Value} {m i : Nat} {v : Value} (h : (xs.drop m).take 11 = c) (hv : c[i]? = some v) (hi : i < 11) : (xs.drop (m + i)).take 1 = [v] := by
  have h1 : xs[m + i]? = some v := by
    have := congrArg (fun l => l[i]?) h
    simp only [List.getElem?_take, List.getElem?_drop] at this
    rw [if_pos hi] at this
    rw [this, hv]
  obtain ⟨hl, rfl⟩ := List.getElem?_eq_some_iff.1 h1
  rw [List.drop_eq_getElem_cons hl]
  rfl
theorem layA (A B : List Value) (c0 c1 c2 c3 c4 c5 c6 c7 c8 c9 c10 n0 n1 n2 : Value) : lay (A ++ [c0, c1, c2, c3, c4, c5, c6, c7, c8, c9, c10] ++ B) (A.length + 5) [n0, n1, n2] = some (A ++ [c0, c1, c2, c3, c4, n0, n1, n2, c8, c9, c10] ++ B) := by
  have := lay_at (A ++ [c0, c1, c2, c3, c4]) [c5, c6, c7] [n0, n1, n2] ([c8, c9, c10] ++ B) rfl
  simpa using this
theorem layB (A B : List Value) (c0 c1 c2 c3 c4 c5 c6 c7 c8 c9 c10 n0 : Value) : lay (A ++ [c0, c1, c2, c3, c4, c5, c6, c7, c8, c9, c10] ++ B) (A.length + 9) [n0] = some (A ++ [c0, c1, c2, c3, c4, c5, c6, c7, c8, n0, c10] ++ B) := by
  have := lay_at (A ++ [c0, c1, c2, c3, c4, c5, c6, c7, c8]) [c9] [n0] ([c10] ++ B) rfl
  simpa using this
theorem layC (A B : List Value) (c0 c1 c2 c3 c4 c5 c6 c7 c8 c9 c10 n0 : Value) : lay (A ++ [c0, c1, c2, c3, c4, c5, c6, c7, c8, c9, c10] ++ B) (A.length + 10) [n0] = some (A ++ [c0, c1, c2, c3, c4, c5, c6, c7, c8, c9, n0] ++ B) := by
  have := lay_at (A ++ [c0, c1, c2, c3, c4, c5, c6, c7, c8, c9]) [c10] [n0] B rfl
  simpa using this
end Go.Proofs.Ytpmmbjcgabnloaa
namespace Go.Sx
set_option linter.unusedSimpArgs false
set_option linter.unusedVariables false
open Go.RowKit
section
variable {C : Ctx} {K : List KI} {s : St} {R : Array Oper} {l : List Oper} {d : Option Tmp} {t : TypeId} {pos : String} {aft : Array Edge}
theorem h_takeGD (i : Nat) {own0 : List (Nat × Nat × OO)} {G0 : Hp} {n j g : Nat} {want : Bool} {listed : Array Bool} {op : Op} {x : SV} (hi : R[i]? = some ⟨d, op, t, pos, aft, some (j, want)⟩) (hj : (R[j]?).bind (·.dst) = some g) (hg : lk g s.sl = some (.b want)) (hs : Region.noSelect R = true) (hf : Region.free .any R listed i = true)
    (hr : (Region.ready .any R listed).contains i = true) (hQ : QPd C d) (hd : dOk C.nt d = true) (ho : ∀ j y, lk j own0 = some y → lk j s.own = some y) (hG : Le G0 s.G)
    (hq : Quiet C s.sl own0 G0 op x.den) (h : SGo C (.h (Hold C own0 G0) R n (listed.setIfInBounds i true) :: K) ⟨putS d x s.sl, s.own, s.G, s.df⟩) :
    SGo C (.h (Hold C own0 G0) R (n + 1) listed :: K) s := by
  intro a w hS
  have hhold : Hold C own0 G0 w := ⟨fun k b o e => (hS.mem.own k b o (ho _ _ e)).1, fun b o e => hS.mem.has b o (hG b o e)⟩
  have := h _ _ (hS.put hd x hS.mem)
  have hy : yielded R a.tmps j = some want := yielded_ok hS hj ⟨_, hg, rfl⟩
  simp only [wpK] at this ⊢
  refine wpAnyHI_take (i := i) (v := x.den) hi hs hf hr ?_ (.inl ⟨by simp [Region.wanted, hy], fun w' hw' => hq a w' d t pos aft (some (j, want)) hS.sl hw'⟩) hhold this
  intro c a' w' hp
  exact wpK_panic c d x.den (fun a w => hQ c a w x.den) K a' w' hp
theorem h_takeUD (i : Nat) {own0 : List (Nat × Nat × OO)} {G0 : Hp} {n j g : Nat} {want u : Bool} {listed : Array Bool} {op : Op} (hi : R[i]? = some ⟨d, op, t, pos, aft, some (j, want)⟩) (hj : (R[j]?).bind (·.dst) = some g) (hg : lk g s.sl = some (.b u)) (hu : eqB u want = false) (hs : Region.noSelect R = true) (hf : Region.free .any R listed i = true)
    (hr : (Region.ready .any R listed).contains i = true) (hQ : QPd C d) (hd : dOk C.nt d = true) (ho : ∀ j y, lk j own0 = some y → lk j s.own = some y) (hG : Le G0 s.G)
    (h : SGo C (.h (Hold C own0 G0) R n (listed.setIfInBounds i true) :: K) ⟨putS d (.v undef) s.sl, s.own, s.G, s.df⟩) :
    SGo C (.h (Hold C own0 G0) R (n + 1) listed :: K) s := by
  intro a w hS
  have hhold : Hold C own0 G0 w := ⟨fun k b o e => (hS.mem.own k b o (ho _ _ e)).1, fun b o e => hS.mem.has b o (hG b o e)⟩
  have := h _ _ (hS.put hd (.v undef) hS.mem)
  have hy : yielded R a.tmps j = some u := yielded_ok hS hj ⟨_, hg, rfl⟩
  have hne : u ≠ want := fun e => by rw [e, eqB_self] at hu; cases hu
  simp only [wpK] at this ⊢
  refine wpAnyHI_take (i := i) (v := undef) hi hs hf hr ?_ (.inr ⟨by simp [Region.wanted, hy, hne], rfl⟩) hhold this
  intro c a' w' hp
  exact wpK_panic c d undef (fun a w => hQ c a w undef) K a' w' hp
end
end Go.Sx
namespace Go.Proofs.Ytpmmbjcgabnloaa
set_option linter.unusedSimpArgs false
set_option linter.unusedVariables false
open Go.Sx
set_option maxHeartbeats 8000000
set_option maxRecDepth 20000
def ofC (be bo : Nat) (e : Int) (ov : Value) : Lds := [eC be e, (bo, .c 31 [.v ov])]
def ofCap (be bo : Nat) : List Value := [.pointer (some ⟨be, 0, none⟩), .pointer (some ⟨bo, 0, none⟩)]
theorem ofClo_idle (be bo : Nat) (ov : Value) (G : Hp) : CloD Try.prog 34 (ofCap be bo) G (ofC be bo 0 ov) .returning (fun u' _ ow => settle u' = .returning ∧ ow = ofC be bo 0 ov) := by
  refine enterClo2 ty tyok Try.func34 rfl Try.ntmps34 (by omega) [.p 0 be 0, .p 1 bo 0] (by simp) (mh := 2) rfl (.inl ⟨rfl, rfl, rfl⟩) ?_
  intro C hP hQ hnt hty hmb hmh hro hG0 hmub; have hQp := qp_body hQ; refine st_ ?_
  simp only [enumO, ofC, eC]
  refine go_callW [0] (by rw [hnt]; rfl) (by rw [hP]; kernel_rfl) rfl rfl rfl (.inr (by rw [hmh]; decide)) (by rw [hP]; exact catch_nil be _ _) ?_
  rintro v G1 ow1 (hle1 : Le G G1) rfl
  simp only [setO]
  refine st_ ?_
  refine rn_ ?_; intros
  (refine x_split rfl rfl rfl (fun hc => absurd hc (by first | decide +kernel | (simp; first | done | fail))) (fun _ => ?_); refine st_ ?_; (refine ru_ ?_; intros))
  refine rn_ ?_; intros
  refine x_endW hQ hmb hmh hG0 hmub rfl rfl rfl rfl (by simp only [enumO]; exact (by repeat (first | exact plain_nil | refine plain_cons (fun _ h => h) ?_))) ?_
  intro _
  exact ⟨rfl, rfl⟩
theorem ofClo_catch (be bo : Nat) (ov : Value) (e0 e : Int) (he : e ≠ 0) (G : Hp) : CloD Try.prog 34 (ofCap be bo) G (ofC be bo e0 ov) (.panicking [pE (faultV e)]) (fun u' _ ow => settle u' = .returning ∧ ow = ofC be bo e (.slice none 0 0)) := by
  refine enterClo2 ty tyok Try.func34 rfl Try.ntmps34 (by omega) [.p 0 be 0, .p 1 bo 0] (by simp) (mh := 2) rfl (.inr ⟨rfl, rfl⟩) ?_
  intro C hP hQ hnt hty hmb hmh hro hG0 hmub; have hQp := qp_body hQ; refine st_ ?_
  simp only [enumO, ofC, eC]
  refine go_callW [0] (by rw [hnt]; rfl) (by rw [hP]; kernel_rfl) rfl rfl rfl (.inr (by rw [hmh]; decide)) (by rw [hP]; exact catch_f be _ _ _) ?_
  rintro v G1 ow1 (hle1 : Le G G1) rfl
  simp only [setO]
  refine st_ ?_
  refine rn_ ?_; intros
  (refine x_split rfl rfl rfl (fun _ => ?_) (fun hc => absurd hc (by simpa using he)); refine st_ ?_; (refine ru_ ?_; intros))
  refine rn_ ?_; intros
  refine x_endW hQ hmb hmh hG0 hmub rfl rfl rfl rfl (by simp only [enumO]; exact (by repeat (first | exact plain_nil | refine plain_cons (fun _ h => h) ?_))) ?_
  intro _
  exact ⟨rfl, rfl⟩
theorem ofRes {sl : List (Nat × SV)} {own : List (Nat × Nat × OO)} {be bo : Nat} {ov : Value} {e : Int} {T : TypeId → Option TI} (hT : T = ty) (h2 : lk 2 sl = some (.p 0 bo 0)) (h3 : lk 3 sl = some (.p 1 be 0))
    (o0 : lk 1 own = some (be, .c 32 [.v (.int .i64 e)])) (o1 : lk 0 own = some (bo, .c 31 [.v ov])) :
    resAll sl T own Try.f11.results.toList = some [.v ov, .v (.int .i64 e)] := by
  have e : Try.f11.results.toList = [.cell 2 31, .cell 3 32] := rfl
  subst hT
  rw [e]
  simp only [resAll, resOne, h2, h3, o0, o1, if_true]
  refine st_ ?_
  simp only [o0, o1, if_true]
  rfl
theorem ofRes2 (tmps : Array Value) (v : Value) (d : Nat) (h : d < 2 ∨ 3 < d) : results Try.f11 (tmps.setIfInBounds d v) = results Try.f11 tmps := by
  have e : Try.f11.results = #[.cell 2 31, .cell 3 32] := rfl
  simp only [results, e]
  have h2 : d ≠ 2 := by omega
  have h3 : d ≠ 3 := by omega
  simp [Array.getElem?_setIfInBounds, h2, h3]
theorem hOf_ok (l : List Mk) (sl : Value) (G : Hp) (hl : rMk.S G l sl) (hn : l.length ≤ 1000) : Pure Try.prog 11 [sl] G (ofRet (ofP l 0 [])) := by
  obtain ⟨adl, capl, rfl⟩ := Rp.S_slice hl
  refine enterDf ty tyok Try.func11 rfl Try.ntmps11 [.v (.slice adl l.length capl)] (by simp) ?_
  intro C hP hQ hnt hty hmb hmh hro; refine st_ ?_
  refine rn_ ?_; intros
  refine go_defer hro (by rw [hnt]; rfl) rfl rfl ?_
  refine rn_ ?_; intros
  rename_i bo be
  have hQD : ∀ d, d < 2 ∨ 3 < d → QPd C (some d) := fun d h => qpd_bodyD hQ fun tmps v => ofRes2 tmps v d h
  refine go_mkmap 40 .i64 (by rw [hnt]; rfl) rfl (by omega) ?_
  intro bm
  refine rn_ ?_; intros
  refine go_nilrow 41 40 11 rfl (by omega) ?_
  refine go_keep [2, 3, 4, 5, 14, 15, 16] [0, 1, 40, 41] ?_
  refine st_ ?_
  refine x_loop rfl (fun q st => ∃ (k : Nat) (G' : Hp) (last : Int) (out : List Op) (xs : List Value) (ado : Option Addr) (capo : Nat) (es : MEs) (cm : Nat), k ≤ l.length ∧ q = l.length - k ∧ Le G G' ∧ ofP l 0 [] = ofP (l.drop k) last out ∧ out.length ≤ k ∧ rO.L G' out xs ∧ Uq out ∧ mUq es ∧ (∀ th, mget th es = (opn out th).map fun j : Nat => .int .i64 j) ∧
    st = ⟨[(2, .p 0 bo 0), (3, .p 1 be 0), (4, .v (.map (some bm))), (5, .v (.int .i64 last)), (14, .v (.slice adl l.length capl)), (15, .v (.int .i64 l.length)), (16, .v (.int .i64 k))],
      [(0, bo, .c 31 [.v (.slice ado out.length capo)]), (1, be, .c 32 [.v (.int .i64 0)]), (40, bm, .o (mObj .i64 es cm)), (41, 0, .row (.slice ado out.length capo) 40 11 out.length xs)], G', [dfn 34 (ofCap be bo)]⟩) ⟨0, G, 0, [], [], none, 0, [], 0, by omega, rfl, Le.refl _, rfl, by simp, rfl, fun i j a b h => by simp at h, by simp [mUq], fun th => rfl, rfl⟩ ?_
  rintro q st ⟨k, G1, last, out, xs, ado, capo, es, cm, hk, hq, hle1, hof, hol, hL, hu, hmu, hmg, rfl⟩ ih
  refine rn_ ?_; intros
  refine x_if rfl rfl rfl rfl (fun hjl => ?_) (fun hjl => ?_)
  · have hlt : k < l.length := by simp at hjl; omega
    rw [ofP_step hlt] at hof
    obtain ⟨c1, o1, slv, rfl, hat, hrv, hbv, hst, hth⟩ := rMk_at hl hlt
    obtain ⟨asv, csv, rfl⟩ := VT.rep_slice hrv
    refine rn_ ?_; intros
    refine go_q (by rw [hnt]; rfl) (quiet_index (by rw [hty]; rfl) (by rw [hty]; rfl) rfl rfl rfl (by omega) (by omega)) ?_
    refine rn_ ?_; intros
    refine go_q (v := .agg #[.int .i64 l[k].st, .int .i64 l[k].th, .int .i64 l[k].v.k, .int .i64 l[k].v.n, .slice asv l[k].v.l.length csv]) (by rw [hnt]; rfl) ((quiet_load (by rw [hty]; rfl) rfl (fun q => by cases q) (by simpa only [Int.toNat_natCast] using hat.mono hle1) rfl).cast (by simp only [ldV]; rfl)) ?_
    refine rn_ ?_; intros
    rename_i b7
    have hbad : (l[k].th < 0 ∨ l[k].st < last) → ofP l 0 [] = none := fun h => by
      rw [hof, ofStep, if_pos h]
    by_cases ht0 : l[k].th < 0
    · (refine go_gsplit rfl rfl (fun hc => absurd hc (by simp; omega)) (fun _ => ?_); refine st_ ?_; (refine rn_ ?_; intros))
      repeat (refine go_gundef rfl (by rw [hnt]; rfl) rfl ?_; (refine st_ ?_; (refine rn_ ?_; intros)))
      refine rn_ ?_; intros
      refine go_callWP [] (ow := []) (by rw [hnt]; rfl) rfl (by rw [hP]; kernel_rfl) rfl rfl rfl (.inl (by intro k hk; cases hk)) (hP ▸ need_ok false 290 G1) ?_ ?_
      · rintro v G' ow' _ ⟨h, _⟩
        cases h
      rintro v ⟨rfl, _⟩
      refine x_panD hQ hmb rfl (by rw [hP]; kernel_rfl) (ks := [1, 0]) (ow := ofC be bo 0 _) rfl rfl (.inl (by intro k hk; omega)) (hP ▸ ofClo_catch be bo _ 0 290 (by omega) _) ?_
      rintro u' G' ow' _ ⟨hs', rfl⟩
      refine ⟨hs', _, ofRes hty rfl rfl rfl rfl, ?_⟩
      rw [hbad (.inl ht0)]
      rfl
    (refine go_gsplit rfl rfl (fun _ => ?_) (fun hc => absurd hc (by simp; omega)); refine st_ ?_; (refine rn_ ?_; intros))
    by_cases hs0 : l[k].st < last
    · refine go_callWP [] (ow := []) (by rw [hnt]; rfl) rfl (by rw [hP]; kernel_rfl) rfl rfl rfl (.inl (by intro k hk; cases hk)) (hP ▸ need_ok _ 290 G1) ?_ ?_
      · rintro v G' ow' _ ⟨h, _⟩
        rw [decide_eq_true_eq] at h; omega
      rintro v ⟨rfl, _⟩
      refine x_panD hQ hmb rfl (by rw [hP]; kernel_rfl) (ks := [1, 0]) (ow := ofC be bo 0 _) rfl rfl (.inl (by intro k hk; omega)) (hP ▸ ofClo_catch be bo _ 0 290 (by omega) _) ?_
      rintro u' G' ow' _ ⟨hs', rfl⟩
      refine ⟨hs', _, ofRes hty rfl rfl rfl rfl, ?_⟩
      rw [hbad (.inr hs0)]
      rfl
    refine go_callWP [] (ow := []) (by rw [hnt]; rfl) rfl (by rw [hP]; kernel_rfl) rfl rfl rfl (.inl (by intro k hk; cases hk)) (hP ▸ need_ok _ 290 G1) ?_ ?_
    rotate_left
    · rintro v ⟨_, h⟩
      rw [decide_eq_false_iff_not] at h; omega
    rintro v G2 ow' (hle2 : Le G1 G2) ⟨_, rfl⟩
    simp only [setO]
    refine go_keep [2, 3, 4, 5, 7, 14, 15, 16] [0, 1, 40, 41, 42] ?_
    refine st_ ?_
    clear v
    refine rn_ ?_; intros
    have hsn : ofStep last out l[k] = match sdP l[k].v with
        | none => some out
        | some (n, y) => if n % 2 = 1 then (match opn out l[k].th with
            | none => none
            | some j => match out[j]? with
              | none => none
              | some o => if o.kd = n / 2 then some (out.set j (retOp o y l[k].st)) else none) else (match opn out l[k].th with
            | none => some (out ++ [dntOp l[k] n y])
            | some _ => none) := by rw [ofStep, if_neg (by omega)]; try rfl
    have hnx : ∀ out', ofStep last out l[k] = some out' → ofP l 0 [] = ofP (l.drop (k + 1)) l[k].st out' := fun out' h => by rw [hof, h]
    have hbd : ofStep last out l[k] = none → ofP l 0 [] = none := fun h => by rw [hof, h]
    have hle02 := hle1.trans hle2
    refine go_call (by rw [hnt]; rfl) (by rw [hP]; kernel_rfl) rfl (hP ▸ denoted_ok l[k] _ G2 (VT.rep_mono hle02 hrv) hbv hst hth) ?_
    rintro v G3 (hle3 : Le G2 G3) hv
    rw [dnRet] at hv
    have hle03 := hle02.trans hle3
    have hL3 := Rp.L_mono (hle2.trans hle3) hL
    rcases hsd : sdP l[k].v with _ | ⟨n, y⟩
    · rw [hsd] at hv hsn
      simp only at hsn hv
      subst hv
      refine rn_ ?_; intros
      (refine x_split rfl rfl rfl (fun _ => ?_) (fun hc => absurd hc (by first | decide +kernel | (simp; first | done | fail))); refine st_ ?_; (refine ru_ ?_; intros))
      refine rn_ ?_; intros
      rw [wr (n := (k : Int) + 1) (by omega) (by omega)]
      refine go_keep [2, 3, 4, 5, 14, 15, 16] [0, 1, 40, 41] ?_
      refine st_ ?_
      exact ih (l.length - (k + 1)) _ (by omega) ⟨k + 1, G3, l[k].st, out, _, ado, capo, es, cm, by omega, rfl, hle03, hnx out hsn, by omega, hL3, hu, hmu, hmg, rfl⟩
    rw [hsd] at hv hsn
    simp only at hsn hv
    obtain ⟨sa, sr, rfl, hrd⟩ := hv
    obtain ⟨asa, csa, rfl⟩ := VT.rep_slice hrd.a
    obtain ⟨asr, csr, rfl⟩ := VT.rep_slice hrd.r
    have hmk : mget l[k].th es = (opn out l[k].th).map fun j : Nat => .int .i64 j := hmg _
    by_cases ho : n % 2 = 1
    rotate_left
    · have hdt : dntOp l[k] n y = ⟨l[k].th, n / 2, y, noneV, l[k].st, 0, false⟩ := by rw [dntOp, if_neg ho]
      have hpar : (n % 2 == 1) = false := by simpa using ho
      rw [if_neg ho] at hsn
      simp only [hdt, hpar] at hrd hsn ⊢
      simp only [opL, noneV, kEq, nEq, lEq, List.length_nil]
      refine rn_ ?_; intros
      (refine x_split rfl rfl rfl (fun hc => absurd hc (by first | decide +kernel | (simp; first | done | fail))) (fun _ => ?_); refine st_ ?_; (refine ru_ ?_; intros))
      refine rn_ ?_; intros
      rename_i b8
      rcases hop : opn out l[k].th with _ | j
      · rw [hop] at hsn hmk
        simp only [Option.map_none] at hsn hmk
        refine go_q (v := .tuple #[.int .i64 0, .bool false]) (by rw [hnt]; rfl) ((quiet_lookup 40 (ok := true) (z := .int .i64 0) (by rw [hty]; rfl) (by rw [hty]; rfl) (by rw [hP]; exact ⟨_, (by kernel_rfl : Try.prog.info? 3 = some Try.t3), rfl⟩) rfl rfl rfl).cast (by rw [hmk]; rfl)) ?_
        refine rn_ ?_; intros
        (refine x_split rfl rfl rfl (fun _ => ?_) (fun hc => absurd hc (by first | decide +kernel | (simp; first | done | fail))); refine st_ ?_; (refine ru_ ?_; intros))
        refine rn_ ?_; intros
        refine go_callWP [] (ow := []) (by rw [hnt]; rfl) rfl (by rw [hP]; kernel_rfl) rfl rfl rfl (.inl (by intro k hk; cases hk)) (hP ▸ need_ok true 290 G3) ?_ ?_
        rotate_left
        · rintro v ⟨_, h⟩
          cases h
        rintro v G4 ow' (hle4 : Le G3 G4) ⟨_, rfl⟩
        simp only [setO]
        refine go_keep [2, 3, 4, 5, 8, 14, 15, 16] [0, 1, 40, 41, 43] ?_
        refine st_ ?_
        clear v
        refine rn_ ?_; intros
        refine go_mupd 40 (.inl rfl) (by rw [hnt]; rfl) (by rw [hty]; rfl) (by rw [hty]; rfl) rfl rfl rfl rfl ?_
        refine st_ ?_
        refine rn_ ?_; intros
        refine go_append 41 (by rw [hnt]; rfl) (by rw [hty]; rfl) (by rw [hty]; rfl) (by decide) rfl rfl rfl (by omega) rfl (src_own 11 rfl rfl) rfl (by simp [dens, SV.den, Value.oneCell']) (by omega) (by simp only []; omega) ?_
        intro v'
        refine go_rowS 41 rfl ?_
        rintro ad4 cap4 rfl
        refine rn_ ?_; intros
        have hle04 := hle03.trans hle4
        have hL4 := Rp.L_append (Rp.L_mono hle4 hL3) (Rp.L_single ⟨_, _, rfl, hrd.mono hle4⟩)
        have hxo : (⟨l[k].th, n / 2, y, noneV, l[k].st, 0, false⟩ : Op).th = l[k].th := rfl
        have hu4 := uq_add (x := ⟨l[k].th, n / 2, y, noneV, l[k].st, 0, false⟩) hu hop
        rw [wr (n := (k : Int) + 1) (by omega) (by omega)]
        refine go_keep [2, 3, 4, 5, 14, 15, 16] [0, 1, 40, 41] ?_
        refine st_ ?_
        refine ih (l.length - (k + 1)) _ (by omega) ⟨k + 1, G4, l[k].st, out ++ [⟨l[k].th, n / 2, y, noneV, l[k].st, 0, false⟩], _, ad4, cap4, mput l[k].th (.int .i64 out.length) cm es, mclk l[k].th cm es, by omega, rfl, hle04, hnx _ hsn, by simp; omega, hL4, hu4, mUq_put hmu, fun th => ?_, ?_⟩
        · rw [mget_put, opn_add hu hop rfl, hmg]
          simp only
          split <;> rfl
        · rw [List.length_append]
          rfl
      · rw [hop] at hsn hmk
        simp only [Option.map_some] at hsn hmk
        refine go_q (v := .tuple #[.int .i64 (j : Nat), .bool true]) (by rw [hnt]; rfl) ((quiet_lookup 40 (ok := true) (z := .int .i64 0) (by rw [hty]; rfl) (by rw [hty]; rfl) (by rw [hP]; exact ⟨_, (by kernel_rfl : Try.prog.info? 3 = some Try.t3), rfl⟩) rfl rfl rfl).cast (by rw [hmk]; rfl)) ?_
        refine rn_ ?_; intros
        (refine x_split rfl rfl rfl (fun _ => ?_) (fun hc => absurd hc (by first | decide +kernel | (simp; first | done | fail))); refine st_ ?_; (refine ru_ ?_; intros))
        refine rn_ ?_; intros
        refine go_callWP [] (ow := []) (by rw [hnt]; rfl) rfl (by rw [hP]; kernel_rfl) rfl rfl rfl (.inl (by intro k hk; cases hk)) (hP ▸ need_ok false 290 G3) ?_ ?_
        · rintro v G' ow' _ ⟨h, _⟩
          cases h
        rintro v ⟨rfl, _⟩
        refine x_panD hQ hmb rfl (by rw [hP]; kernel_rfl) (ks := [1, 0]) (ow := ofC be bo 0 _) rfl rfl (.inl (by intro k hk; omega)) (hP ▸ ofClo_catch be bo _ 0 290 (by omega) _) ?_
        rintro u' G' ow' _ ⟨hs', rfl⟩
        refine ⟨hs', _, ofRes hty rfl rfl rfl rfl, ?_⟩
        rw [hbd hsn]
        rfl
    have hdt : dntOp l[k] n y = ⟨l[k].th, n / 2, noneV, y, 0, l[k].st, true⟩ := by rw [dntOp, if_pos ho]
    have hpar : (n % 2 == 1) = true := by simpa using ho
    rw [if_pos ho] at hsn
    simp only [hdt, hpar] at hrd hsn ⊢
    simp only [opL, noneV, kEq, nEq, lEq, List.length_nil]
    refine rn_ ?_; intros
    rename_i b8
    (refine x_split rfl rfl rfl (fun hc => absurd hc (by first | decide +kernel | (simp; first | done | fail))) (fun _ => ?_); refine st_ ?_; (refine ru_ ?_; intros))
    refine rn_ ?_; intros
    rcases hop : opn out l[k].th with _ | j
    · rw [hop] at hsn hmk
      simp only [Option.map_none] at hsn hmk
      refine go_q (v := .tuple #[.int .i64 0, .bool false]) (by rw [hnt]; rfl) ((quiet_lookup 40 (ok := true) (z := .int .i64 0) (by rw [hty]; rfl) (by rw [hty]; rfl) (by rw [hP]; exact ⟨_, (by kernel_rfl : Try.prog.info? 3 = some Try.t3), rfl⟩) rfl rfl rfl).cast (by rw [hmk]; rfl)) ?_
      refine rn_ ?_; intros
      (refine x_split rfl rfl rfl (fun hc => absurd hc (by first | decide +kernel | (simp; first | done | fail))) (fun _ => ?_); refine st_ ?_; (refine ru_ ?_; intros))
      refine rn_ ?_; intros
      refine go_keep [2, 3, 4, 5, 8, 10, 11, 14, 15, 16] [0, 1, 40, 41, 43] ?_
      refine st_ ?_
      refine rn_ ?_; intros
      refine x_held [ ] rfl (by rw [hP]; kernel_rfl) rfl rfl rfl ?_; refine st_ ?_
      refine h_takeD 0 rfl (by kernel_rfl) (by kernel_rfl) (by kernel_rfl) (hQD _ (by decide)) (by rw [hnt]; rfl) (allIn (by repeat (first | exact trivial | refine ⟨rfl, ?_⟩))) (by first | exact Le.refl _ | assumption) (quiet_op (by rw [hty]; first | rfl | (refine st_ ?_; rfl))) ?_; refine st_ ?_
      refine h_takeD 1 rfl (by kernel_rfl) (by kernel_rfl) (by kernel_rfl) (hQD _ (by decide)) (by rw [hnt]; rfl) (allIn (by repeat (first | exact trivial | refine ⟨rfl, ?_⟩))) (by first | exact Le.refl _ | assumption) (quiet_op (by rw [hty]; first | rfl | (refine st_ ?_; rfl))) ?_; refine st_ ?_
      refine go_slot 65 (.b false) rfl rfl ?_
      refine st_ ?_
      refine h_takeUD 2 rfl rfl rfl rfl (by kernel_rfl) (by kernel_rfl) (by kernel_rfl) (hQD _ (by decide)) (by rw [hnt]; rfl) (allIn (by repeat (first | exact trivial | refine ⟨rfl, ?_⟩))) (by first | exact Le.refl _ | assumption) ?_; refine st_ ?_
      refine h_takeUD 3 rfl rfl rfl rfl (by kernel_rfl) (by kernel_rfl) (by kernel_rfl) (hQD _ (by decide)) (by rw [hnt]; rfl) (allIn (by repeat (first | exact trivial | refine ⟨rfl, ?_⟩))) (by first | exact Le.refl _ | assumption) ?_; refine st_ ?_
      refine h_takeUD 4 rfl rfl rfl rfl (by kernel_rfl) (by kernel_rfl) (by kernel_rfl) (hQD _ (by decide)) (by rw [hnt]; rfl) (allIn (by repeat (first | exact trivial | refine ⟨rfl, ?_⟩))) (by first | exact Le.refl _ | assumption) ?_; refine st_ ?_
      refine h_takeUD 5 rfl rfl rfl rfl (by kernel_rfl) (by kernel_rfl) (by kernel_rfl) (hQD _ (by decide)) (by rw [hnt]; rfl) (allIn (by repeat (first | exact trivial | refine ⟨rfl, ?_⟩))) (by first | exact Le.refl _ | assumption) ?_; refine st_ ?_
      refine h_takeUD 6 rfl rfl rfl rfl (by kernel_rfl) (by kernel_rfl) (by kernel_rfl) (hQD _ (by decide)) (by rw [hnt]; rfl) (allIn (by repeat (first | exact trivial | refine ⟨rfl, ?_⟩))) (by first | exact Le.refl _ | assumption) ?_; refine st_ ?_
      refine h_takeUD 7 rfl rfl rfl rfl (by kernel_rfl) (by kernel_rfl) (by kernel_rfl) (hQD _ (by decide)) (by rw [hnt]; rfl) (allIn (by repeat (first | exact trivial | refine ⟨rfl, ?_⟩))) (by first | exact Le.refl _ | assumption) ?_; refine st_ ?_
      refine h_takeUD 8 rfl rfl rfl rfl (by kernel_rfl) (by kernel_rfl) (by kernel_rfl) (hQD _ (by decide)) (by rw [hnt]; rfl) (allIn (by repeat (first | exact trivial | refine ⟨rfl, ?_⟩))) (by first | exact Le.refl _ | assumption) ?_; refine st_ ?_
      refine h_takeUD 9 rfl rfl rfl rfl (by kernel_rfl) (by kernel_rfl) (by kernel_rfl) (hQD _ (by decide)) (by rw [hnt]; rfl) (allIn (by repeat (first | exact trivial | refine ⟨rfl, ?_⟩))) (by first | exact Le.refl _ | assumption) ?_; refine st_ ?_
      refine h_takeUD 10 rfl rfl rfl rfl (by kernel_rfl) (by kernel_rfl) (by kernel_rfl) (hQD _ (by decide)) (by rw [hnt]; rfl) (allIn (by repeat (first | exact trivial | refine ⟨rfl, ?_⟩))) (by first | exact Le.refl _ | assumption) ?_; refine st_ ?_
      refine h_takeD 11 rfl (by kernel_rfl) (by kernel_rfl) (by kernel_rfl) (hQD _ (by decide)) (by rw [hnt]; rfl) (allIn (by repeat (first | exact trivial | refine ⟨rfl, ?_⟩))) (by first | exact Le.refl _ | assumption) (quiet_op (by rw [hty]; first | rfl | (refine st_ ?_; rfl))) ?_; refine st_ ?_
      refine h_one 12 rfl (by kernel_rfl) ?_
      refine go_callWP [] (ow := []) (by rw [hnt]; rfl) rfl (by rw [hP]; kernel_rfl) rfl rfl rfl (.inl (by intro k hk; cases hk)) (hP ▸ need_ok false 290 G3) ?_ ?_
      · rintro v G' ow' _ ⟨h, _⟩
        cases h
      rintro v ⟨rfl, _⟩
      refine x_panD hQ hmb rfl (by rw [hP]; kernel_rfl) (ks := [1, 0]) (ow := ofC be bo 0 _) rfl rfl (.inl (by intro k hk; omega)) (hP ▸ ofClo_catch be bo _ 0 290 (by omega) _) ?_
      rintro u' G' ow' _ ⟨hs', rfl⟩
      refine ⟨hs', _, ofRes hty rfl rfl rfl rfl, ?_⟩
      rw [hbd hsn]
      rfl
    · rw [hop] at hsn hmk
      simp only [Option.map_some] at hsn hmk
      refine go_q (v := .tuple #[.int .i64 (j : Nat), .bool true]) (by rw [hnt]; rfl) ((quiet_lookup 40 (ok := true) (z := .int .i64 0) (by rw [hty]; rfl) (by rw [hty]; rfl) (by rw [hP]; exact ⟨_, (by kernel_rfl : Try.prog.info? 3 = some Try.t3), rfl⟩) rfl rfl rfl).cast (by rw [hmk]; rfl)) ?_
      refine rn_ ?_; intros
      (refine x_split rfl rfl rfl (fun hc => absurd hc (by first | decide +kernel | (simp; first | done | fail))) (fun _ => ?_); refine st_ ?_; (refine ru_ ?_; intros))
      refine rn_ ?_; intros
      obtain ⟨hjl, hjt, hjd⟩ := opn_some hop
      rw [List.getElem?_eq_getElem hjl] at hsn
      simp only at hsn
      refine go_rowE2 41 rfl ?_
      rintro adr capr hcc hcr hpos
      cases hcc
      obtain ⟨c, hc1, sa0, sr0, rfl, hor⟩ := Rp.L_get hL3 hjl
      have h11 : rO.size = 11 := rfl
      rw [h11] at hc1
      have hxl := Rp.L_len hL3
      rw [h11] at hxl
      obtain ⟨g, rfl⟩ : ∃ g, ado = some ⟨g, 0, none⟩ := by
        rcases hpos with ⟨h0, _⟩ | h0
        · rw [h0] at hxl; simp at hxl; omega
        · exact h0
      have hd1 := cut1 (i := 1) hc1 rfl (by omega)
      refine go_keep [2, 3, 4, 5, 8, 10, 11, 14, 15, 16] [0, 1, 40, 41, 43] ?_
      refine st_ ?_
      refine rn_ ?_; intros
      refine x_held [(0, bo, .c 31 [.v (.slice (some ⟨g, 0, none⟩) out.length capo)]), (41, 0, .row (.slice (some ⟨g, 0, none⟩) out.length capo) 40 11 out.length xs), (43, b8, .c 81 [.v (.int .i64 l[k].th), .v (.int .i64 (n / 2)), .v (.int .i64 0), .v (.int .i64 0), .v (.slice asa 0 csa), .v (.int .i64 y.k), .v (.int .i64 y.n), .v (.slice asr y.l.length csr), .v (.int .i64 0), .v (.int .i64 l[k].st), .v (.bool true), .v (.bool true)])] rfl (by rw [hP]; kernel_rfl) rfl rfl rfl ?_; refine st_ ?_
      refine h_takeD 0 rfl (by kernel_rfl) (by kernel_rfl) (by kernel_rfl) (hQD _ (by decide)) (by rw [hnt]; rfl) (allIn (by repeat (first | exact trivial | refine ⟨rfl, ?_⟩))) (by first | exact Le.refl _ | assumption) (quiet_op (by rw [hty]; first | rfl | (refine st_ ?_; rfl))) ?_; refine st_ ?_
      refine h_takeD 1 rfl (by kernel_rfl) (by kernel_rfl) (by kernel_rfl) (hQD _ (by decide)) (by rw [hnt]; rfl) (allIn (by repeat (first | exact trivial | refine ⟨rfl, ?_⟩))) (by first | exact Le.refl _ | assumption) (quiet_op (by rw [hty]; first | rfl | (refine st_ ?_; rfl))) ?_; refine st_ ?_
      refine go_slot 65 (.b true) rfl rfl ?_
      refine st_ ?_
      refine h_takeGD 2 rfl rfl rfl (by kernel_rfl) (by kernel_rfl) (by kernel_rfl) (hQD _ (by decide)) (by rw [hnt]; rfl) (allIn (by repeat (first | exact trivial | refine ⟨rfl, ?_⟩))) (by first | exact Le.refl _ | assumption) (quiet_op (by rw [hty]; first | rfl | (refine st_ ?_; rfl))) ?_; refine st_ ?_
      refine h_takeGD 3 rfl rfl rfl (by kernel_rfl) (by kernel_rfl) (by kernel_rfl) (hQD _ (by decide)) (by rw [hnt]; rfl) (allIn (by repeat (first | exact trivial | refine ⟨rfl, ?_⟩))) (by first | exact Le.refl _ | assumption) (quiet_op (by rw [hty]; first | rfl | (refine st_ ?_; rfl))) ?_; refine st_ ?_
      refine h_takeGD 4 rfl rfl rfl (by kernel_rfl) (by kernel_rfl) (by kernel_rfl) (hQD _ (by decide)) (by rw [hnt]; rfl) (allIn (by repeat (first | exact trivial | refine ⟨rfl, ?_⟩))) (by first | exact Le.refl _ | assumption) (x := .v (.pointer (some ⟨g, j * 11, none⟩))) ((quiet_index (by rw [hty]; rfl) (by rw [hty]; rfl) rfl rfl rfl (by omega) (by omega)).cast (by simp [SV.den])) ?_
      refine st_ ?_
      refine h_takeGD 5 rfl rfl rfl (by kernel_rfl) (by kernel_rfl) (by kernel_rfl) (hQD _ (by decide)) (by rw [hnt]; rfl) (allIn (by repeat (first | exact trivial | refine ⟨rfl, ?_⟩))) (by first | exact Le.refl _ | assumption) (quiet_op (by rw [hty]; first | rfl | (refine st_ ?_; rfl))) ?_; refine st_ ?_
      refine h_takeGD 6 rfl rfl rfl (by kernel_rfl) (by kernel_rfl) (by kernel_rfl) (hQD _ (by decide)) (by rw [hnt]; rfl) (allIn (by repeat (first | exact trivial | refine ⟨rfl, ?_⟩))) (by first | exact Le.refl _ | assumption) (x := .v (.int .i64 out[j].kd)) ((quiet_loadR (k := 41) (by rw [hty]; rfl) rfl (by simp [TK.agg]) rfl (by simp; omega)).cast (by simp only [ldV, SV.den]; rw [hd1]; rfl)) ?_
      refine st_ ?_
      refine h_takeGD 7 rfl rfl rfl (by kernel_rfl) (by kernel_rfl) (by kernel_rfl) (hQD _ (by decide)) (by rw [hnt]; rfl) (allIn (by repeat (first | exact trivial | refine ⟨rfl, ?_⟩))) (by first | exact Le.refl _ | assumption) (quiet_op (by rw [hty]; first | rfl | (refine st_ ?_; rfl))) ?_; refine st_ ?_
      refine h_takeGD 8 rfl rfl rfl (by kernel_rfl) (by kernel_rfl) (by kernel_rfl) (hQD _ (by decide)) (by rw [hnt]; rfl) (allIn (by repeat (first | exact trivial | refine ⟨rfl, ?_⟩))) (by first | exact Le.refl _ | assumption) (quiet_op (by rw [hty]; first | rfl | (refine st_ ?_; rfl))) ?_; refine st_ ?_
      refine h_takeGD 9 rfl rfl rfl (by kernel_rfl) (by kernel_rfl) (by kernel_rfl) (hQD _ (by decide)) (by rw [hnt]; rfl) (allIn (by repeat (first | exact trivial | refine ⟨rfl, ?_⟩))) (by first | exact Le.refl _ | assumption) (quiet_op (by rw [hty]; first | rfl | (refine st_ ?_; rfl))) ?_; refine st_ ?_
      refine h_takeGD 10 rfl rfl rfl (by kernel_rfl) (by kernel_rfl) (by kernel_rfl) (hQD _ (by decide)) (by rw [hnt]; rfl) (allIn (by repeat (first | exact trivial | refine ⟨rfl, ?_⟩))) (by first | exact Le.refl _ | assumption) (quiet_op (by rw [hty]; first | rfl | (refine st_ ?_; rfl))) ?_; refine st_ ?_
      refine h_takeD 11 rfl (by kernel_rfl) (by kernel_rfl) (by kernel_rfl) (hQD _ (by decide)) (by rw [hnt]; rfl) (allIn (by repeat (first | exact trivial | refine ⟨rfl, ?_⟩))) (by first | exact Le.refl _ | assumption) (quiet_op (by rw [hty]; first | rfl | (refine st_ ?_; rfl))) ?_; refine st_ ?_
      refine h_one 12 rfl (by kernel_rfl) ?_
      by_cases hkd : out[j].kd = n / 2
      rotate_left
      · rw [if_neg hkd] at hsn
        refine go_callWP [] (ow := []) (by rw [hnt]; rfl) rfl (by rw [hP]; kernel_rfl) rfl rfl rfl (.inl (by intro k hk; cases hk)) (hP ▸ need_ok _ 290 G3) ?_ ?_
        · rintro v G' ow' _ ⟨h, _⟩
          exact absurd (by simpa using h) hkd
        rintro v ⟨rfl, _⟩
        refine x_panD hQ hmb rfl (by rw [hP]; kernel_rfl) (ks := [1, 0]) (ow := ofC be bo 0 _) rfl rfl (.inl (by intro k hk; omega)) (hP ▸ ofClo_catch be bo _ 0 290 (by omega) _) ?_
        rintro u' G' ow' _ ⟨hs', rfl⟩
        refine ⟨hs', _, ofRes hty rfl rfl rfl rfl, ?_⟩
        rw [hbd hsn]
        rfl
      rw [if_pos hkd] at hsn
      refine go_callWP [] (ow := []) (by rw [hnt]; rfl) rfl (by rw [hP]; kernel_rfl) rfl rfl rfl (.inl (by intro k hk; cases hk)) (hP ▸ need_ok _ 290 G3) ?_ ?_
      rotate_left
      · rintro v ⟨_, h⟩
        exact absurd hkd (by simpa using h)
      rintro v G4 ow' (hle4 : Le G3 G4) ⟨_, rfl⟩
      simp only [setO]
      refine go_keep [2, 3, 4, 5, 8, 10, 14, 15, 16] [0, 1, 40, 41, 43] ?_
      refine st_ ?_
      clear v
      refine rn_ ?_; intros
      refine h_hs (allIn (by repeat (first | exact trivial | refine ⟨rfl, ?_⟩))) (by first | exact Le.refl _ | assumption) ?_
      refine h_end (by kernel_rfl) ?_
      refine rn_ ?_; intros
      have hL4 := Rp.L_mono hle4 hL3
      have hrd4 := hrd.mono hle4
      have hor4 := hor.mono hle4
      refine x_held [(0, bo, .c 31 [.v (.slice (some ⟨g, 0, none⟩) out.length capo)]), (43, b8, .c 81 [.v (.int .i64 l[k].th), .v (.int .i64 (n / 2)), .v (.int .i64 0), .v (.int .i64 0), .v (.slice asa 0 csa), .v (.int .i64 y.k), .v (.int .i64 y.n), .v (.slice asr y.l.length csr), .v (.int .i64 0), .v (.int .i64 l[k].st), .v (.bool true), .v (.bool true)])] rfl (by rw [hP]; kernel_rfl) rfl rfl rfl ?_; refine st_ ?_
      refine h_takeD 0 rfl (by kernel_rfl) (by kernel_rfl) (by kernel_rfl) (hQD _ (by decide)) (by rw [hnt]; rfl) (allIn (by repeat (first | exact trivial | refine ⟨rfl, ?_⟩))) (by first | exact Le.refl _ | assumption) (quiet_op (by rw [hty]; first | rfl | (refine st_ ?_; rfl))) ?_; refine st_ ?_
      refine h_takeD 1 rfl (by kernel_rfl) (by kernel_rfl) (by kernel_rfl) (hQD _ (by decide)) (by rw [hnt]; rfl) (allIn (by repeat (first | exact trivial | refine ⟨rfl, ?_⟩))) (by first | exact Le.refl _ | assumption) (quiet_op (by rw [hty]; first | rfl | (refine st_ ?_; rfl))) ?_; refine st_ ?_
      refine h_takeD 2 rfl (by kernel_rfl) (by kernel_rfl) (by kernel_rfl) (hQD _ (by decide)) (by rw [hnt]; rfl) (allIn (by repeat (first | exact trivial | refine ⟨rfl, ?_⟩))) (by first | exact Le.refl _ | assumption) (quiet_op (by rw [hty]; first | rfl | (refine st_ ?_; rfl))) ?_; refine st_ ?_
      refine h_takeD 3 rfl (by kernel_rfl) (by kernel_rfl) (by kernel_rfl) (hQD _ (by decide)) (by rw [hnt]; rfl) (allIn (by repeat (first | exact trivial | refine ⟨rfl, ?_⟩))) (by first | exact Le.refl _ | assumption) (quiet_op (by rw [hty]; first | rfl | (refine st_ ?_; rfl))) ?_; refine st_ ?_
      refine h_takeD 4 rfl (by kernel_rfl) (by kernel_rfl) (by kernel_rfl) (hQD _ (by decide)) (by rw [hnt]; rfl) (allIn (by repeat (first | exact trivial | refine ⟨rfl, ?_⟩))) (by first | exact Le.refl _ | assumption) (quiet_op (by rw [hty]; first | rfl | (refine st_ ?_; rfl))) ?_; refine st_ ?_
      refine h_takeD 5 rfl (by kernel_rfl) (by kernel_rfl) (by kernel_rfl) (hQD _ (by decide)) (by rw [hnt]; rfl) (allIn (by repeat (first | exact trivial | refine ⟨rfl, ?_⟩))) (by first | exact Le.refl _ | assumption) (quiet_op (by rw [hty]; first | rfl | (refine st_ ?_; rfl))) ?_; refine st_ ?_
      refine h_takeD 6 rfl (by kernel_rfl) (by kernel_rfl) (by kernel_rfl) (hQD _ (by decide)) (by rw [hnt]; rfl) (allIn (by repeat (first | exact trivial | refine ⟨rfl, ?_⟩))) (by first | exact Le.refl _ | assumption) (quiet_op (by rw [hty]; first | rfl | (refine st_ ?_; rfl))) ?_; refine st_ ?_
      refine h_takeD 7 rfl (by kernel_rfl) (by kernel_rfl) (by kernel_rfl) (hQD _ (by decide)) (by rw [hnt]; rfl) (allIn (by repeat (first | exact trivial | refine ⟨rfl, ?_⟩))) (by first | exact Le.refl _ | assumption) (quiet_op (by rw [hty]; first | rfl | (refine st_ ?_; rfl))) ?_; refine st_ ?_
      refine h_takeD 8 rfl (by kernel_rfl) (by kernel_rfl) (by kernel_rfl) (hQD _ (by decide)) (by rw [hnt]; rfl) (allIn (by repeat (first | exact trivial | refine ⟨rfl, ?_⟩))) (by first | exact Le.refl _ | assumption) (quiet_op (by rw [hty]; first | rfl | (refine st_ ?_; rfl))) ?_; refine st_ ?_
      refine h_takeD 9 rfl (by kernel_rfl) (by kernel_rfl) (by kernel_rfl) (hQD _ (by decide)) (by rw [hnt]; rfl) (allIn (by repeat (first | exact trivial | refine ⟨rfl, ?_⟩))) (by first | exact Le.refl _ | assumption) (quiet_op (by rw [hty]; first | rfl | (refine st_ ?_; rfl))) ?_; refine st_ ?_
      refine h_takeD 10 rfl (by kernel_rfl) (by kernel_rfl) (by kernel_rfl) (hQD _ (by decide)) (by rw [hnt]; rfl) (allIn (by repeat (first | exact trivial | refine ⟨rfl, ?_⟩))) (by first | exact Le.refl _ | assumption) (quiet_op (by rw [hty]; first | rfl | (refine st_ ?_; rfl))) ?_; refine st_ ?_
      refine h_takeD 11 rfl (by kernel_rfl) (by kernel_rfl) (by kernel_rfl) (hQD _ (by decide)) (by rw [hnt]; rfl) (allIn (by repeat (first | exact trivial | refine ⟨rfl, ?_⟩))) (by first | exact Le.refl _ | assumption) (quiet_op (by rw [hty]; first | rfl | (refine st_ ?_; rfl))) ?_; refine st_ ?_
      refine h_takeD 12 rfl (by kernel_rfl) (by kernel_rfl) (by kernel_rfl) (hQD _ (by decide)) (by rw [hnt]; rfl) (allIn (by repeat (first | exact trivial | refine ⟨rfl, ?_⟩))) (by first | exact Le.refl _ | assumption) (x := .v (.pointer (some ⟨g, j * 11, none⟩))) ((quiet_index (by rw [hty]; rfl) (by rw [hty]; rfl) rfl rfl rfl (by omega) (by omega)).cast (by simp [SV.den])) ?_
      refine st_ ?_
      refine h_takeD 13 rfl (by kernel_rfl) (by kernel_rfl) (by kernel_rfl) (hQD _ (by decide)) (by rw [hnt]; rfl) (allIn (by repeat (first | exact trivial | refine ⟨rfl, ?_⟩))) (by first | exact Le.refl _ | assumption) (quiet_op (by rw [hty]; first | rfl | (refine st_ ?_; rfl))) ?_; refine st_ ?_
      simp only [isI64] at hst hth
      have hrt : (retOp out[j] y l[k].st).rep G4 sa0 (.slice asr y.l.length csr) :=
        ⟨⟨hor.ok.th, hor.ok.kd, hor.ok.fr, by simp only [retOp, isI64]; omega, hor.ok.ba, hrd.ok.br⟩, hor4.a, hrd4.r⟩
      have hLs := Rp.L_set (r := rO) (c := opL (retOp out[j] y l[k].st) sa0 (.slice asr y.l.length csr)) hL4 ⟨_, _, rfl, hrt⟩ hjl
      rw [h11] at hLs
      have hAl : (xs.take (j * 11)).length = j * 11 := by simp; omega
      have hxs : xs = xs.take (j * 11) ++ opL out[j] sa0 sr0 ++ xs.drop (j * 11 + 11) := by
        rw [← hc1, List.append_assoc, ← List.drop_drop, List.take_append_drop, List.take_append_drop]
      generalize xs.take (j * 11) = A at hLs hAl hxs
      generalize xs.drop (j * 11 + 11) = B at hLs hxs
      subst hxs
      simp only [opL, retOp] at hLs ⊢
      refine h_one 14 rfl (by kernel_rfl) ?_
      refine go_storeR 41 (by rw [hnt]; rfl) (by rw [hty]; rfl) rfl rfl rfl rfl rfl rfl (by rw [← hAl]; exact layA A B _ _ _ _ _ _ _ _ _ _ _ _ _ _) ?_
      refine rn_ ?_; intros
      refine h_hs (allIn (by repeat (first | exact trivial | refine ⟨rfl, ?_⟩))) (by first | exact Le.refl _ | assumption) ?_
      refine h_takeD 15 rfl (by kernel_rfl) (by kernel_rfl) (by kernel_rfl) (hQD _ (by decide)) (by rw [hnt]; rfl) (allIn (by repeat (first | exact trivial | refine ⟨rfl, ?_⟩))) (by first | exact Le.refl _ | assumption) (x := .v (.pointer (some ⟨g, j * 11, none⟩))) ((quiet_index (by rw [hty]; rfl) (by rw [hty]; rfl) rfl rfl rfl (by omega) (by omega)).cast (by simp [SV.den])) ?_
      refine st_ ?_
      refine h_takeD 16 rfl (by kernel_rfl) (by kernel_rfl) (by kernel_rfl) (hQD _ (by decide)) (by rw [hnt]; rfl) (allIn (by repeat (first | exact trivial | refine ⟨rfl, ?_⟩))) (by first | exact Le.refl _ | assumption) (quiet_op (by rw [hty]; first | rfl | (refine st_ ?_; rfl))) ?_; refine st_ ?_
      refine h_one 17 rfl (by kernel_rfl) ?_
      refine go_storeR 41 (by rw [hnt]; rfl) (by rw [hty]; rfl) rfl rfl rfl rfl rfl rfl (by rw [← hAl]; exact layB A B _ _ _ _ _ _ _ _ _ _ _ _) ?_
      refine rn_ ?_; intros
      refine h_hs (allIn (by repeat (first | exact trivial | refine ⟨rfl, ?_⟩))) (by first | exact Le.refl _ | assumption) ?_
      refine h_takeD 18 rfl (by kernel_rfl) (by kernel_rfl) (by kernel_rfl) (hQD _ (by decide)) (by rw [hnt]; rfl) (allIn (by repeat (first | exact trivial | refine ⟨rfl, ?_⟩))) (by first | exact Le.refl _ | assumption) (x := .v (.pointer (some ⟨g, j * 11, none⟩))) ((quiet_index (by rw [hty]; rfl) (by rw [hty]; rfl) rfl rfl rfl (by omega) (by omega)).cast (by simp [SV.den])) ?_
      refine st_ ?_
      refine h_takeD 19 rfl (by kernel_rfl) (by kernel_rfl) (by kernel_rfl) (hQD _ (by decide)) (by rw [hnt]; rfl) (allIn (by repeat (first | exact trivial | refine ⟨rfl, ?_⟩))) (by first | exact Le.refl _ | assumption) (quiet_op (by rw [hty]; first | rfl | (refine st_ ?_; rfl))) ?_; refine st_ ?_
      refine h_one 20 rfl (by kernel_rfl) ?_
      refine go_storeR 41 (by rw [hnt]; rfl) (by rw [hty]; rfl) rfl rfl rfl rfl rfl rfl (by rw [← hAl]; exact layC A B _ _ _ _ _ _ _ _ _ _ _ _) ?_
      refine rn_ ?_; intros
      refine h_hs (allIn (by repeat (first | exact trivial | refine ⟨rfl, ?_⟩))) (by first | exact Le.refl _ | assumption) ?_
      refine h_end (by kernel_rfl) ?_
      refine rn_ ?_; intros
      refine go_mdel 40 (by rw [hnt]; rfl) (by rw [hty]; rfl) (by rw [hty]; rfl) rfl rfl rfl ?_
      refine st_ ?_
      refine rn_ ?_; intros
      rw [wr (n := (k : Int) + 1) (by omega) (by omega)]
      refine go_keep [2, 3, 4, 5, 14, 15, 16] [0, 1, 40, 41] ?_
      refine st_ ?_
      refine ih (l.length - (k + 1)) _ (by omega) ⟨k + 1, G4, l[k].st, out.set j (retOp out[j] y l[k].st), _, some ⟨g, 0, none⟩, capo, mdel l[k].th es, cm, by omega, rfl, hle03.trans hle4, hnx _ hsn, by simp; omega, hLs, uq_set hu rfl, mUq_del hmu, fun th => ?_, ?_⟩
      · rw [mget_del hmu, opn_set hu rfl hop, hmg]
        split <;> rfl
      · rw [List.length_set]
        rfl
  · have hge : k = l.length := by simp at hjl; omega
    subst hge
    rw [List.drop_length, ofP] at hof
    rw [hof] at hQ
    refine go_pubL rO 41 rfl (by omega) rfl (by omega) hL ?_
    intro G6 ad6 cap6 (hle6 : Le G1 G6) he6 hS6
    rw [← he6] at hS6
    refine st_ ?_
    refine rn_ ?_; intros
    refine x_retD rfl hQ hmb rfl (by rw [hP]; kernel_rfl) (ks := [1, 0]) (ow := ofC be bo 0 _) rfl rfl (.inl (by intro k hk; omega)) (hP ▸ ofClo_idle be bo _ _) ?_
    rintro u' G' ow' (hle9 : Le G6 G') ⟨hs', rfl⟩
    refine ⟨hs', _, ofRes hty rfl rfl rfl rfl, ?_⟩
    exact ⟨_, rfl, Rp.S_mono hle9 hS6⟩
end Go.Proofs.Ytpmmbjcgabnloaa
namespace Go.Sx
set_option linter.unusedSimpArgs false
set_option linter.unusedVariables false
def msk (p : Nat → Bool) : Nat → Nat
  | 0 => 0
  | n + 1 => msk p n + if p n then 2 ^ n else 0
theorem msk_lt (p : Nat → Bool) : ∀ n, msk p n < 2 ^ n
  | 0 => by simp [msk]
  | n + 1 => by
    have := msk_lt p n
    rw [msk, Nat.pow_succ]
    split <;> omega
theorem msk_bit (p : Nat → Bool) : ∀ n i, (msk p n).testBit i = (decide (i < n) && p i)
  | 0, i => by simp [msk]
  | n + 1, i => by
    have h := msk_lt p n
    have ih := msk_bit p n
    rw [msk]
    by_cases hp : p n = true
    · have e : msk p n + 2 ^ n = 2 ^ n ||| msk p n := by
        have := Nat.two_pow_add_eq_or_of_lt h 1
        rw [Nat.mul_one] at this
        omega
      rw [if_pos hp, e, Nat.testBit_or, Nat.testBit_two_pow, ih]
      by_cases hi : i = n
      · subst hi; simp [hp]
      · by_cases h2 : i < n
        · simp [h2, show i < n + 1 by omega]; omega
        · simp [h2, show ¬ i < n + 1 by omega]; omega
    · rw [if_neg hp, Nat.add_zero, ih]
      by_cases hi : i = n
      · subst hi; simp at hp; simp [hp]
      · by_cases h2 : i < n
        · simp [h2, show i < n + 1 by omega]
        · simp [h2, show ¬ i < n + 1 by omega]
theorem msk_eq {p q : Nat → Bool} {n : Nat} : msk p n = msk q n ↔ ∀ i, i < n → p i = q i := by
  constructor
  · intro h i hi
    have := congrArg (fun x => Nat.testBit x i) h
    simpa [msk_bit, hi] using this
  · intro h
    apply Nat.eq_of_testBit_eq
    intro i
    rw [msk_bit, msk_bit]
    by_cases hi : i < n
    · rw [h i hi]
    · simp [hi]
theorem msk_and (p q : Nat → Bool) (n : Nat) : msk p n &&& msk q n = msk (fun i => p i && q i) n := by
  apply Nat.eq_of_testBit_eq
  intro i
  rw [Nat.testBit_and, msk_bit, msk_bit, msk_bit]
  cases decide (i < n) <;> simp
theorem msk_or (p q : Nat → Bool) (n : Nat) : msk p n ||| msk q n = msk (fun i => p i || q i) n := by
  apply Nat.eq_of_testBit_eq
  intro i
  rw [Nat.testBit_or, msk_bit, msk_bit, msk_bit]
  cases decide (i < n) <;> simp
theorem msk_one {j n : Nat} (h : j < n) : msk (fun i => i == j) n = 2 ^ j := by
  apply Nat.eq_of_testBit_eq
  intro i
  rw [msk_bit, Nat.testBit_two_pow]
  by_cases hi : i = j
  · subst hi; simp [h]
  · simp [hi, Ne.symm hi]
theorem msk_no (n : Nat) : msk (fun _ => false) n = 0 := by
  apply Nat.eq_of_testBit_eq
  intro i
  simp [msk_bit]
theorem msk_zero {p : Nat → Bool} {n : Nat} : msk p n = 0 ↔ ∀ i, i < n → p i = false := by
  rw [← msk_no n, msk_eq]
theorem u64w (a : Nat) (h : a < 2 ^ 64) : IntKind.u64.wrap (a : Int) = (a : Int) := by
  have e : ∀ n : Int, IntKind.u64.wrap n = n % 18446744073709551616 := by
    intro n
    simp [IntKind.wrap, IntKind.signed, IntKind.bits]
  rw [e]; omega
theorem u64or (a b : Nat) (ha : a < 2 ^ 64) (hb : b < 2 ^ 64) : IntKind.u64.wrap ((BitVec.ofInt IntKind.u64.bits (a : Int) ||| BitVec.ofInt IntKind.u64.bits (b : Int)).toNat : Int) = ((a ||| b : Nat) : Int) := by
  show IntKind.u64.wrap ((BitVec.ofInt 64 (a : Int) ||| BitVec.ofInt 64 (b : Int)).toNat : Int) = _
  have e : (BitVec.ofInt 64 (a : Int) ||| BitVec.ofInt 64 (b : Int)).toNat = a ||| b := by
    simp only [BitVec.toNat_or, BitVec.ofInt_natCast, BitVec.toNat_ofNat]
    rw [Nat.mod_eq_of_lt ha, Nat.mod_eq_of_lt hb]
  rw [e, u64w _ (Nat.or_lt_two_pow ha hb)]
theorem u64and (a b : Nat) (ha : a < 2 ^ 64) (hb : b < 2 ^ 64) : IntKind.u64.wrap ((BitVec.ofInt IntKind.u64.bits (a : Int) &&& BitVec.ofInt IntKind.u64.bits (b : Int)).toNat : Int) = ((a &&& b : Nat) : Int) := by
  show IntKind.u64.wrap ((BitVec.ofInt 64 (a : Int) &&& BitVec.ofInt 64 (b : Int)).toNat : Int) = _
  have e : (BitVec.ofInt 64 (a : Int) &&& BitVec.ofInt 64 (b : Int)).toNat = a &&& b := by
    simp only [BitVec.toNat_and, BitVec.ofInt_natCast, BitVec.toNat_ofNat]
    rw [Nat.mod_eq_of_lt ha, Nat.mod_eq_of_lt hb]
  rw [e, u64w _ (Nat.and_lt_two_pow _ hb)]
theorem u64shl (i : Nat) (h : i < 64) : IntKind.u64.wrap ((1 : Int) * 2 ^ (min (i : Int).toNat IntKind.u64.bits)) = ((2 ^ i : Nat) : Int) := by
  have e : min (i : Int).toNat IntKind.u64.bits = i := by
    show min (i : Int).toNat 64 = i
    omega
  rw [e, Int.one_mul]
  have e2 : ((2 : Int) ^ i) = ((2 ^ i : Nat) : Int) := by simp
  rw [e2, u64w _ (Nat.pow_lt_pow_right (by omega) h)]
theorem lt64 {a n : Nat} (h : a < 2 ^ n) (hn : n ≤ 64) : a < 2 ^ 64 := Nat.lt_of_lt_of_le h (Nat.pow_le_pow_right (by omega) hn)
end Go.Sx
namespace Go.Proofs.Ytpmmbjcgabnloaa
set_option linter.unusedSimpArgs false
set_option linter.unusedVariables false
open Go.Sx
def dnA (l : List Op) (i : Nat) : Bool := match l[i]? with
  | some o => o.dn
  | none => false
def ahA (l : List Op) (i k : Nat) : Bool := match l[k]?, l[i]? with
  | some a, some b => ahd a b
  | _, _ => false
def endsP (l : List Op) (S : List Nat) : Bool := (List.range l.length).all fun i => !dnA l i || S.contains i
def mayP (l : List Op) (S : List Nat) (i : Nat) : Bool := !S.contains i && (List.range l.length).all fun k => !ahA l i k || S.contains k
def tellP (m : Int) (s : MS) (o : Op) : Option MS := if (doP m s o).2.2 && (!o.dn || vsm (doP m s o).2.1 o.res) then some (doP m s o).1 else none
def nextP (m : Int) (l : List Op) (s : MS) (S : List Nat) (i : Nat) : Option MS := if mayP l S i then (match l[i]? with
  | some o => tellP m s o
  | none => none) else none
def srch (m : Int) (l : List Op) : Nat → MS → List Nat → Option (List Nat)
  | 0, _, S => if endsP l S then some [] else none
  | f + 1, s, S => if endsP l S then some [] else (List.range l.length).findSome? fun i => match nextP m l s S i with
    | none => none
    | some t => (srch m l f t (S ++ [i])).map (i :: ·)
def freeP (n : Nat) (S : List Nat) : Nat := (List.range n).countP fun i => !S.contains i
theorem countP_lt {α : Type} (p q : α → Bool) : ∀ (l : List α) (x : α), x ∈ l → (∀ y, q y = true → p y = true) → p x = true → q x = false → l.countP q < l.countP p
  | [], _, h, _, _, _ => by cases h
  | y :: l, x, h, hs, hp, hq => by
    have hle : ∀ l : List α, l.countP q ≤ l.countP p := fun l => List.countP_mono_left fun y _ => hs y
    rw [List.countP_cons, List.countP_cons]
    rcases List.mem_cons.1 h with rfl | h
    · have := hle l
      rw [hp, hq]; simp; omega
    · have := countP_lt p q l x h hs hp hq
      by_cases hy : q y = true
      · rw [hy, hs y hy]; omega
      · simp only [Bool.not_eq_true] at hy; rw [hy]; simp; omega
theorem free_lt {n i : Nat} {S : List Nat} (hi : i < n) (h : S.contains i = false) : freeP n (S ++ [i]) < freeP n S := by
  refine countP_lt _ _ _ i (by simp; exact hi) (fun y hy => ?_) (by simpa using h) (by simp)
  simp at hy ⊢
  exact hy.1
theorem free_zero {n : Nat} {S : List Nat} (h : freeP n S = 0) : ∀ i, i < n → S.contains i = true := by
  intro i hi
  have := List.countP_eq_zero.1 h i (by simp; exact hi)
  simpa using this
theorem ends_free {l : List Op} {S : List Nat} (h : freeP l.length S = 0) : endsP l S = true := by
  rw [endsP, List.all_eq_true]
  intro i hi
  rw [free_zero h i (by simpa using hi), Bool.or_true]
theorem may_not {l : List Op} {S : List Nat} {i : Nat} (h : mayP l S i = true) : S.contains i = false := by
  simp only [mayP, Bool.and_eq_true, Bool.not_eq_true'] at h
  exact h.1
theorem next_not {m : Int} {l : List Op} {s t : MS} {S : List Nat} {i : Nat} (h : nextP m l s S i = some t) : S.contains i = false := by
  rw [nextP] at h
  split at h
  · rename_i hm; exact may_not hm
  · cases h
theorem srch_step (m : Int) (l : List Op) {f : Nat} {s : MS} {S : List Nat} (hf : freeP l.length S ≤ f) : srch m l f s S = if endsP l S then some [] else (List.range l.length).findSome? fun i => match nextP m l s S i with
    | none => none
    | some t => (srch m l (f - 1) t (S ++ [i])).map (i :: ·) := by
  cases f with
  | zero => rw [srch, ends_free (by omega)]; simp
  | succ f => rw [srch]; simp
theorem ends_msk (l : List Op) (S : List Nat) : ((msk S.contains l.length &&& msk (dnA l) l.length) == msk (dnA l) l.length) = endsP l S := by
  rw [Bool.eq_iff_iff, beq_iff_eq, msk_and, msk_eq, endsP, List.all_eq_true]
  constructor
  · intro h i hi
    have := h i (by simpa using hi)
    cases hd : dnA l i
    · rfl
    · rw [hd] at this; simpa using this
  · intro h i hi
    have := h i (by simpa using hi)
    cases hd : dnA l i
    · simp
    · rw [hd] at this; simpa using this
theorem may_msk (l : List Op) (S : List Nat) (i : Nat) (hi : i < l.length) : (((msk S.contains l.length &&& 2 ^ i) != 0) || ((msk S.contains l.length &&& msk (ahA l i) l.length) != msk (ahA l i) l.length)) = !mayP l S i := by
  have h1 : ((msk S.contains l.length &&& 2 ^ i) != 0) = S.contains i := by
    rw [← msk_one hi, msk_and]
    cases hc : S.contains i
    · rw [bne_eq_false_iff_eq, msk_zero]
      intro j _
      by_cases hj : j = i
      · subst hj; rw [hc]; rfl
      · simp [hj]
    · rw [bne_iff_ne]
      intro h0
      have := msk_zero.1 h0 i hi
      rw [hc] at this; simp at this
  have h2 : ((msk S.contains l.length &&& msk (ahA l i) l.length) != msk (ahA l i) l.length) = !((List.range l.length).all fun k => !ahA l i k || S.contains k) := by
    rw [bne, Bool.not_eq_eq_eq_not, Bool.not_not, Bool.eq_iff_iff, beq_iff_eq, msk_and, msk_eq, List.all_eq_true]
    constructor
    · intro h k hk
      have := h k (by simpa using hk)
      cases hd : ahA l i k
      · rfl
      · rw [hd] at this; simpa using this
    · intro h k hk
      have := h k (by simpa using hk)
      cases hd : ahA l i k
      · simp
      · rw [hd] at this; simpa using this
  rw [h1, h2, mayP, Bool.not_and, Bool.not_not]
theorem msk_add (l : List Op) (S : List Nat) (i : Nat) (hi : i < l.length) : msk S.contains l.length ||| 2 ^ i = msk (S ++ [i]).contains l.length := by
  rw [← msk_one hi, msk_or, msk_eq]
  intro j _
  rw [Bool.eq_iff_iff]
  simp
end Go.Proofs.Ytpmmbjcgabnloaa
namespace Go.Proofs.Ytpmmbjcgabnloaa
set_option linter.unusedSimpArgs false
set_option linter.unusedVariables false
open Go.Sx
set_option maxHeartbeats 8000000
set_option maxRecDepth 20000
def lnC (be bo bi : Nat) (e : Int) (ov : Value) (is : Bool) : Lds := [eC be e, (bo, .c 57 [.v ov]), (bi, .c 4 [.v (.bool is)])]
def lnCap (be bo bi : Nat) : List Value := [.pointer (some ⟨be, 0, none⟩), .pointer (some ⟨bo, 0, none⟩), .pointer (some ⟨bi, 0, none⟩)]
theorem lnClo_idle (be bo bi : Nat) (ov : Value) (is : Bool) (G : Hp) : CloD Try.prog 49 (lnCap be bo bi) G (lnC be bo bi 0 ov is) .returning (fun u' _ ow => settle u' = .returning ∧ ow = lnC be bo bi 0 ov is) := by
  refine enterClo2 ty tyok Try.func49 rfl Try.ntmps49 (by omega) [.p 0 be 0, .p 1 bo 0, .p 2 bi 0] (by simp) (mh := 3) rfl (.inl ⟨rfl, rfl, rfl⟩) ?_
  intro C hP hQ hnt hty hmb hmh hro hG0 hmub; have hQp := qp_body hQ; refine st_ ?_
  simp only [enumO, lnC, eC]
  refine go_callW [0] (by rw [hnt]; rfl) (by rw [hP]; kernel_rfl) rfl rfl rfl (.inr (by rw [hmh]; decide)) (by rw [hP]; exact catch_nil be _ _) ?_
  rintro v G1 ow1 (hle1 : Le G G1) rfl
  simp only [setO]
  refine st_ ?_
  refine rn_ ?_; intros
  (refine x_split rfl rfl rfl (fun hc => absurd hc (by first | decide +kernel | (simp; first | done | fail))) (fun _ => ?_); refine st_ ?_; (refine ru_ ?_; intros))
  refine rn_ ?_; intros
  refine x_endW hQ hmb hmh hG0 hmub rfl rfl rfl rfl (by simp only [enumO]; exact (by repeat (first | exact plain_nil | refine plain_cons (fun _ h => h) ?_))) ?_
  intro _
  exact ⟨rfl, rfl⟩
theorem lnClo_catch (be bo bi : Nat) (ov : Value) (is : Bool) (e0 e : Int) (he : e ≠ 0) (G : Hp) : CloD Try.prog 49 (lnCap be bo bi) G (lnC be bo bi e0 ov is) (.panicking [pE (faultV e)]) (fun u' _ ow => settle u' = .returning ∧ ow = lnC be bo bi e (.slice none 0 0) false) := by
  refine enterClo2 ty tyok Try.func49 rfl Try.ntmps49 (by omega) [.p 0 be 0, .p 1 bo 0, .p 2 bi 0] (by simp) (mh := 3) rfl (.inr ⟨rfl, rfl⟩) ?_
  intro C hP hQ hnt hty hmb hmh hro hG0 hmub; have hQp := qp_body hQ; refine st_ ?_
  simp only [enumO, lnC, eC]
  refine go_callW [0] (by rw [hnt]; rfl) (by rw [hP]; kernel_rfl) rfl rfl rfl (.inr (by rw [hmh]; decide)) (by rw [hP]; exact catch_f be _ _ _) ?_
  rintro v G1 ow1 (hle1 : Le G G1) rfl
  simp only [setO]
  refine st_ ?_
  refine rn_ ?_; intros
  (refine x_split rfl rfl rfl (fun _ => ?_) (fun hc => absurd hc (by simpa using he)); refine st_ ?_; (refine ru_ ?_; intros))
  refine rn_ ?_; intros
  refine go_see 2 [.v (.bool false)] rfl rfl ?_
  refine st_ ?_
  refine x_endW hQ hmb hmh hG0 hmub rfl rfl rfl rfl (by simp only [enumO]; exact (by repeat (first | exact plain_nil | refine plain_cons (fun _ h => h) ?_))) ?_
  intro _
  exact ⟨rfl, rfl⟩
def plV (sv sp : Value) (set : Nat) : Value := .agg #[sv, sp, .int .u64 (set : Int)]
theorem after_ok (s : MS) (sv sp : Value) (set : Nat) (G : Hp) (hs : s.rep G sv sp) (hc : CapOk sv) (hlp : s.ps.length ≤ 100000) :
    PureR Try.prog 53 [plV sv sp set] G (fun v G' r e size n xs => ∃ ad, e = 55 ∧ size = 4 ∧ n = s.ps.length ∧ v = .agg #[.slice ad s.vals.length s.vals.length, r] ∧ rV.S G' s.vals (.slice ad s.vals.length s.vals.length) ∧ rPo.L G' s.ps xs) := by
  obtain ⟨ad1, cap1, rfl⟩ := Rp.S_slice hs.v
  obtain ⟨ad2, cap2, rfl⟩ := Rp.S_slice hs.p
  have hcap := hc _ _ _ rfl
  obtain ⟨cs, hcs, hsrc⟩ := Rp.srcS hs.p
  refine enterR ty tyok Try.func53 rfl Try.ntmps53 [.a [.v (.slice ad1 s.vals.length cap1), .v (.slice ad2 s.ps.length cap2), .v (.int .u64 set)]] (by simp) ?_
  intro C hP hQ hnt hty hmb hmh hro; have hQp := qp_body hQ; refine st_ ?_
  refine rn_ ?_; intros
  rename_i b0 b1
  refine x_held [(0, b0, .c 107 [.v (.slice ad1 s.vals.length cap1), .v (.slice ad2 s.ps.length cap2), .v (.int .u64 set)])] rfl (by rw [hP]; kernel_rfl) rfl rfl rfl ?_; refine st_ ?_
  refine h_take 0 rfl (by kernel_rfl) (by kernel_rfl) (by kernel_rfl) hQp (by rw [hnt]; rfl) (allIn (by repeat (first | exact trivial | refine ⟨rfl, ?_⟩))) (by first | exact Le.refl _ | assumption) (quiet_op (by rw [hty]; first | rfl | (refine st_ ?_; rfl))) ?_; refine st_ ?_
  refine h_take 1 rfl (by kernel_rfl) (by kernel_rfl) (by kernel_rfl) hQp (by rw [hnt]; rfl) (allIn (by repeat (first | exact trivial | refine ⟨rfl, ?_⟩))) (by first | exact Le.refl _ | assumption) (quiet_op (by rw [hty]; first | rfl | (refine st_ ?_; rfl))) ?_; refine st_ ?_
  refine h_take 2 rfl (by kernel_rfl) (by kernel_rfl) (by kernel_rfl) hQp (by rw [hnt]; rfl) (allIn (by repeat (first | exact trivial | refine ⟨rfl, ?_⟩))) (by first | exact Le.refl _ | assumption) (quiet_op (by rw [hty]; first | rfl | (refine st_ ?_; rfl))) ?_; refine st_ ?_
  refine h_take 3 rfl (by kernel_rfl) (by kernel_rfl) (by kernel_rfl) hQp (by rw [hnt]; rfl) (allIn (by repeat (first | exact trivial | refine ⟨rfl, ?_⟩))) (by first | exact Le.refl _ | assumption) (quiet_op (by rw [hty]; first | rfl | (refine st_ ?_; rfl))) ?_; refine st_ ?_
  refine h_take 4 rfl (by kernel_rfl) (by kernel_rfl) (by kernel_rfl) hQp (by rw [hnt]; rfl) (allIn (by repeat (first | exact trivial | refine ⟨rfl, ?_⟩))) (by first | exact Le.refl _ | assumption) (quiet_op (by rw [hty]; first | rfl | (refine st_ ?_; rfl))) ?_; refine st_ ?_
  refine h_take 5 rfl (by kernel_rfl) (by kernel_rfl) (by kernel_rfl) hQp (by rw [hnt]; rfl) (allIn (by repeat (first | exact trivial | refine ⟨rfl, ?_⟩))) (by first | exact Le.refl _ | assumption) (quiet_op (by rw [hty]; first | rfl | (refine st_ ?_; rfl))) ?_; refine st_ ?_
  refine h_take 6 rfl (by kernel_rfl) (by kernel_rfl) (by kernel_rfl) hQp (by rw [hnt]; rfl) (allIn (by repeat (first | exact trivial | refine ⟨rfl, ?_⟩))) (by first | exact Le.refl _ | assumption) (quiet_op (by rw [hty]; first | rfl | (refine st_ ?_; rfl))) ?_; refine st_ ?_
  refine h_take 7 rfl (by kernel_rfl) (by kernel_rfl) (by kernel_rfl) hQp (by rw [hnt]; rfl) (allIn (by repeat (first | exact trivial | refine ⟨rfl, ?_⟩))) (by first | exact Le.refl _ | assumption) (quiet_op (by rw [hty]; first | rfl | (refine st_ ?_; rfl))) ?_; refine st_ ?_
  refine h_take 8 rfl (by kernel_rfl) (by kernel_rfl) (by kernel_rfl) hQp (by rw [hnt]; rfl) (allIn (by repeat (first | exact trivial | refine ⟨rfl, ?_⟩))) (by first | exact Le.refl _ | assumption) (quiet_op (by rw [hty]; first | rfl | (refine st_ ?_; rfl))) ?_; refine st_ ?_
  refine h_take 9 rfl (by kernel_rfl) (by kernel_rfl) (by kernel_rfl) hQp (by rw [hnt]; rfl) (allIn (by repeat (first | exact trivial | refine ⟨rfl, ?_⟩))) (by first | exact Le.refl _ | assumption) (quiet_op (by rw [hty]; first | rfl | (refine st_ ?_; rfl))) ?_; refine st_ ?_
  refine h_take 10 rfl (by kernel_rfl) (by kernel_rfl) (by kernel_rfl) hQp (by rw [hnt]; rfl) (allIn (by repeat (first | exact trivial | refine ⟨rfl, ?_⟩))) (by first | exact Le.refl _ | assumption) (quiet_op (by rw [hty]; first | rfl | (refine st_ ?_; rfl))) ?_; refine st_ ?_
  refine h_take 11 rfl (by kernel_rfl) (by kernel_rfl) (by kernel_rfl) hQp (by rw [hnt]; rfl) (allIn (by repeat (first | exact trivial | refine ⟨rfl, ?_⟩))) (by first | exact Le.refl _ | assumption) (x := .v (.slice ad1 s.vals.length s.vals.length)) ((quiet_slice3 (by rw [hty]; rfl) (by rw [hty]; rfl) rfl rfl rfl rfl (by omega) (by omega)).cast (by
    have e2 : ad1.map (fun x => x.add 0) = ad1 := by cases ad1 <;> simp [Addr.add]
    simp only [Sx.sliced, SV.den, Int.toNat_natCast, Nat.sub_zero, Nat.zero_mul, e2, ite_self])) ?_
  refine st_ ?_
  refine h_take 12 rfl (by kernel_rfl) (by kernel_rfl) (by kernel_rfl) hQp (by rw [hnt]; rfl) (allIn (by repeat (first | exact trivial | refine ⟨rfl, ?_⟩))) (by first | exact Le.refl _ | assumption) (quiet_op (by rw [hty]; first | rfl | (refine st_ ?_; rfl))) ?_; refine st_ ?_
  refine h_take 13 rfl (by kernel_rfl) (by kernel_rfl) (by kernel_rfl) hQp (by rw [hnt]; rfl) (allIn (by repeat (first | exact trivial | refine ⟨rfl, ?_⟩))) (by first | exact Le.refl _ | assumption) (quiet_op (by rw [hty]; first | rfl | (refine st_ ?_; rfl))) ?_; refine st_ ?_
  refine h_take 14 rfl (by kernel_rfl) (by kernel_rfl) (by kernel_rfl) hQp (by rw [hnt]; rfl) (allIn (by repeat (first | exact trivial | refine ⟨rfl, ?_⟩))) (by first | exact Le.refl _ | assumption) (quiet_op (by rw [hty]; first | rfl | (refine st_ ?_; rfl))) ?_; refine st_ ?_
  refine h_one 15 rfl (by kernel_rfl) ?_
  refine go_nilrow 41 55 4 rfl (by omega) ?_
  refine go_append_any 41 (by rw [hnt]; rfl) (by rw [hty]; rfl) (by rw [hty]; rfl) (by decide) rfl rfl rfl (by omega) rfl (hsrc.imp id fun f => f _ _ rfl) (Rp.L_len hcs) (Rp.L_one hcs) (by omega) (by simp only []; omega) ?_
  intro v1
  refine go_rowS 41 rfl ?_
  rintro a3 c3 rfl
  refine rn_ ?_; intros
  refine h_hs (allIn (by repeat (first | exact trivial | refine ⟨rfl, ?_⟩))) (by first | exact Le.refl _ | assumption) ?_
  refine h_take 16 rfl (by kernel_rfl) (by kernel_rfl) (by kernel_rfl) hQp (by rw [hnt]; rfl) (allIn (by repeat (first | exact trivial | refine ⟨rfl, ?_⟩))) (by first | exact Le.refl _ | assumption) (quiet_op (by rw [hty]; first | rfl | (refine st_ ?_; rfl))) ?_; refine st_ ?_
  refine h_one 17 rfl (by kernel_rfl) ?_
  refine rn_ ?_; intros
  refine h_hs (allIn (by repeat (first | exact trivial | refine ⟨rfl, ?_⟩))) (by first | exact Le.refl _ | assumption) ?_
  refine h_end (by kernel_rfl) ?_
  refine rn_ ?_; intros
  refine x_retr 41 rfl hQ hmb hmh rfl (by rw [hty]; simp only [so, sq, zy, zz, tyE, SO', SQ', opQ, opStore, opAlloc, ev, putS, dOk, cv, SV.cs, SV.one, SV.bool?, eqB, Value.oneCell', ldOwn, binInt, binConst, binBool, binStr, isC, TK.agg, rv, rv1, ldV, resOne, resV, Nat.reduceAdd, Nat.reduceMul, Nat.reduceSub, Nat.reduceLT, Nat.reduceLeDiff, Nat.reduceEqDiff, Nat.reduceBEq, reduceIte, reduceCtorEq, eq_self]; try rfl) rfl rfl ?_
  refine ⟨ad1, rfl, rfl, by simp, by simp [resV, SV.den, dens], ?_, by simpa using hcs⟩
  obtain ⟨h1, ad, cap, h2, h3⟩ := hs.v
  cases h2
  exact ⟨h1, _, _, rfl, h3⟩
theorem ends_ok (l : List Op) (S : List Nat) (a1 a2 : Option Addr) (n1 c1 n2 c2 : Nat) (ba : Nat) (G : Hp) (hn : l.length ≤ 8) (hat : At G ba 0 [.int .u64 (msk (dnA l) l.length : Nat)]) :
    Pure Try.prog 51 [plV (.slice a1 n1 c1) (.slice a2 n2 c2) (msk S.contains l.length), .pointer (some ⟨ba, 0, none⟩)] G (fun v _ => v = .bool (endsP l S)) := by
  have h1 : msk S.contains l.length < 2 ^ 64 := lt64 (msk_lt _ _) (by omega)
  have h2 : msk (dnA l) l.length < 2 ^ 64 := lt64 (msk_lt _ _) (by omega)
  rw [← ends_msk]
  generalize msk S.contains l.length = x at *
  generalize msk (dnA l) l.length = y at *
  refine enterX ty tyok Try.func51 rfl Try.ntmps51 [.a [.v (.slice a1 n1 c1), .v (.slice a2 n2 c2), .v (.int .u64 (x : Nat))], .v (.pointer (some ⟨ba, 0, none⟩))] (by simp) ?_
  intro C hP hQ hnt hty hmb hmh hro; have hQp := qp_body hQ; refine st_ ?_
  refine rn_ ?_; intros
  refine go_q (v := .int .u64 (y : Nat)) (by rw [hnt]; rfl) ((quiet_load (by rw [hty]; rfl) rfl (by simp [TK.agg]) hat rfl).cast rfl) ?_
  refine rn_ ?_; intros
  refine go_q (v := .int .u64 (y : Nat)) (by rw [hnt]; rfl) ((quiet_load (by rw [hty]; rfl) rfl (by simp [TK.agg]) hat rfl).cast rfl) ?_
  refine rn_ ?_; intros
  refine x_retc rfl hQ hmb rfl (by rw [hty]; simp only [so, sq, zy, zz, tyE, SO', SQ', opQ, opStore, opAlloc, ev, putS, dOk, cv, SV.cs, SV.one, SV.bool?, eqB, Value.oneCell', ldOwn, binInt, binConst, binBool, binStr, isC, TK.agg, rv, rv1, ldV, resOne, resV, Nat.reduceAdd, Nat.reduceMul, Nat.reduceSub, Nat.reduceLT, Nat.reduceLeDiff, Nat.reduceEqDiff, Nat.reduceBEq, reduceIte, reduceCtorEq, eq_self]; try rfl) rfl ?_; simp only [SV.den, resV, dens]
  rw [u64and x y h1 h2]
  congr 1
  rw [Bool.eq_iff_iff, beq_iff_eq, beq_iff_eq]
  omega
end Go.Proofs.Ytpmmbjcgabnloaa
namespace Go.Proofs.Ytpmmbjcgabnloaa
set_option linter.unusedSimpArgs false
set_option linter.unusedVariables false
open Go.Sx
set_option maxHeartbeats 8000000
set_option maxRecDepth 20000
def nxRet (n : Nat) (S : List Nat) (i : Nat) (r : Option MS) (v : Value) (G : Hp) : Prop := match r with
  | none => v = .tuple #[.agg #[.slice none 0 0, .slice none 0 0, .int .u64 0], .bool false]
  | some t => ∃ v1 v2, v = .tuple #[plV v1 v2 (msk (S ++ [i]).contains n), .bool true] ∧ t.rep G v1 v2 ∧ CapOk v1
def ahRow (l : List Op) : List Value := (List.range 8).map fun i => .int .u64 (msk (ahA l i) l.length : Nat)
theorem next_ok (m : Int) (K mo : Int) (pt : Bool) (f : Nat) (he : EffOk m K mo pt f) (l : List Op) (sl : Value) (S : List Nat) (s : MS) (i : Nat) (sv sp : Value) (bh bf bl : Nat) (G : Hp) (hn : l.length ≤ 8) (hi : i < l.length)
    (hs : s.rep G sv sp) (hc : CapOk sv) (hl : s.vals.length ≤ 100) (hlp : s.ps.length ≤ 100) (hwf : s.wf) (hvd : s.vd) (hlr : rO.S G l sl) (hrg : ∀ o ∈ l, rgtO K o = true)
    (hah : At G bh 0 (ahRow l)) (hef : At G bf 0 [.int .i64 K, .int .i64 mo, .bool pt, .func (.func f) #[] #[]]) (hbl : At G bl 0 [sl]) :
    Pure Try.prog 52 [plV sv sp (msk S.contains l.length), .int .i64 i, .pointer (some ⟨bh, 0, none⟩), .pointer (some ⟨bf, 0, none⟩), .pointer (some ⟨bl, 0, none⟩)] G (nxRet l.length S i (nextP m l s S i)) := by
  obtain ⟨ad1, cap1, rfl⟩ := Rp.S_slice hs.v
  obtain ⟨ad2, cap2, rfl⟩ := Rp.S_slice hs.p
  have h1 : msk S.contains l.length < 2 ^ 64 := lt64 (msk_lt _ _) (by omega)
  have h2 : msk (ahA l i) l.length < 2 ^ 64 := lt64 (msk_lt _ _) (by omega)
  have h3 : 2 ^ i < 2 ^ 64 := Nat.pow_lt_pow_right (by omega) (by omega)
  obtain ⟨bl1, ol1, sa, sr, hsl, hato, hor⟩ : ∃ bl1 ol1 sa sr, (∃ cap, sl = .slice (some ⟨bl1, ol1, none⟩) l.length cap) ∧ At G bl1 (ol1 + i * 11) (opL l[i] sa sr) ∧ l[i].rep G sa sr := by
    obtain ⟨ad, cap, rfl⟩ := Rp.S_slice hlr
    obtain ⟨b, off, sa, sr, rfl, q1, q2⟩ := rO_at hlr hi
    exact ⟨b, off, sa, sr, ⟨cap, rfl⟩, q1, q2⟩
  obtain ⟨capl, rfl⟩ := hsl
  have hmay := may_msk l S i hi
  have hadd := msk_add l S i hi
  have hrow : At G bh i [.int .u64 (msk (ahA l i) l.length : Nat)] := by
    have := hah.sub i 1 (by simp [ahRow]; omega)
    rw [Nat.zero_add] at this
    have e : ((ahRow l).drop i).take 1 = [.int .u64 (msk (ahA l i) l.length : Nat)] := by
      rw [List.drop_eq_getElem_cons (by simp [ahRow]; omega)]
      simp [ahRow]
    rw [e] at this
    exact this
  refine enterX ty tyok Try.func52 rfl Try.ntmps52 [.a [.v (.slice ad1 s.vals.length cap1), .v (.slice ad2 s.ps.length cap2), .v (.int .u64 (msk S.contains l.length : Nat))], .v (.int .i64 i), .v (.pointer (some ⟨bh, 0, none⟩)), .v (.pointer (some ⟨bf, 0, none⟩)), .v (.pointer (some ⟨bl, 0, none⟩))] (by simp) ?_
  intro C hP hQ hnt hty hmb hmh hro; have hQp := qp_body hQ; refine st_ ?_
  refine rn_ ?_; intros
  rename_i b0 b1
  refine x_draw rfl (by rw [hP]; kernel_rfl) rfl (by kernel_rfl) ?_
  refine runq 400 hty hnt ?_; refine st_ ?_
  refine q_q (v := .int .u64 ((2 ^ i : Nat) : Int)) (by rw [hnt]; rfl) ((quiet_bin rfl rfl rfl rfl (shl_ok (by omega))).cast (by rw [u64shl i (by omega)])) ?_
  refine runq 400 hty hnt ?_; refine st_ ?_
  have hno : mayP l S i = false → nextP m l s S i = none := fun h => by rw [nextP, h]; rfl
  rw [u64and _ _ h1 h3]
  have hq1 : (((msk S.contains l.length &&& 2 ^ i : Nat) : Int) != 0) = ((msk S.contains l.length &&& 2 ^ i) != 0) := by
    rw [Bool.eq_iff_iff, bne_iff_ne, bne_iff_ne]
    omega
  rw [hq1]
  refine go_qsplit rfl rfl (fun hb1 => ?_) (fun hb1 => ?_) <;> (refine st_ ?_; (try (refine runq 400 hty hnt ?_; refine st_ ?_)))
  · rw [hb1, Bool.true_or] at hmay
    have e := hno (by simpa using hmay.symm)
    repeat (refine q_gundef rfl (by rw [hnt]; rfl) rfl ?_; (refine st_ ?_; (try (refine runq 400 hty hnt ?_; refine st_ ?_))))
    refine q_end ?_; refine rn_ ?_; intros
    refine rn_ ?_; intros
    refine x_retc rfl hQ hmb rfl (by rw [hty]; simp only [so, sq, zy, zz, tyE, SO', SQ', opQ, opStore, opAlloc, ev, putS, dOk, cv, SV.cs, SV.one, SV.bool?, eqB, Value.oneCell', ldOwn, binInt, binConst, binBool, binStr, isC, TK.agg, rv, rv1, ldV, resOne, resV, Nat.reduceAdd, Nat.reduceMul, Nat.reduceSub, Nat.reduceLT, Nat.reduceLeDiff, Nat.reduceEqDiff, Nat.reduceBEq, reduceIte, reduceCtorEq, eq_self]; try rfl) rfl ?_; simp only [SV.den, resV, dens]
    rw [e]
    rfl
  rw [hb1, Bool.false_or] at hmay
  refine q_q (v := .pointer (some ⟨bh, i, none⟩)) (by rw [hnt]; rfl) ((quiet_indexA (by rw [hty]; rfl) (by rw [hty]; rfl) rfl rfl rfl (by omega) (by omega)).cast (by simp)) ?_
  refine runq 400 hty hnt ?_; refine st_ ?_
  refine q_q (v := .int .u64 (msk (ahA l i) l.length : Nat)) (by rw [hnt]; rfl) ((quiet_load (vs := [.int .u64 (msk (ahA l i) l.length : Nat)]) (by rw [hty]; rfl) rfl (by simp [TK.agg]) hrow rfl).cast (by rfl)) ?_
  refine runq 400 hty hnt ?_; refine st_ ?_
  rw [u64and _ _ h1 h2]
  refine q_q (v := .pointer (some ⟨bh, i, none⟩)) (by rw [hnt]; rfl) ((quiet_indexA (by rw [hty]; rfl) (by rw [hty]; rfl) rfl rfl rfl (by omega) (by omega)).cast (by simp)) ?_
  refine runq 400 hty hnt ?_; refine st_ ?_
  refine q_q (v := .int .u64 (msk (ahA l i) l.length : Nat)) (by rw [hnt]; rfl) ((quiet_load (vs := [.int .u64 (msk (ahA l i) l.length : Nat)]) (by rw [hty]; rfl) rfl (by simp [TK.agg]) hrow rfl).cast (by rfl)) ?_
  refine runq 400 hty hnt ?_; refine st_ ?_
  have hq2 : (((msk S.contains l.length &&& msk (ahA l i) l.length : Nat) : Int) != ((msk (ahA l i) l.length : Nat) : Int)) = !mayP l S i := by
    rw [← hmay, Bool.eq_iff_iff, bne_iff_ne, bne_iff_ne]
    omega
  rw [hq2]
  refine q_end ?_; refine rn_ ?_; intros
  refine x_split rfl rfl rfl (fun hb2 => ?_) (fun hb2 => ?_) <;> (refine st_ ?_; (refine ru_ ?_; intros))
  · have e := hno (by simpa using hb2)
    refine rn_ ?_; intros
    refine x_retc rfl hQ hmb rfl (by rw [hty]; simp only [so, sq, zy, zz, tyE, SO', SQ', opQ, opStore, opAlloc, ev, putS, dOk, cv, SV.cs, SV.one, SV.bool?, eqB, Value.oneCell', ldOwn, binInt, binConst, binBool, binStr, isC, TK.agg, rv, rv1, ldV, resOne, resV, Nat.reduceAdd, Nat.reduceMul, Nat.reduceSub, Nat.reduceLT, Nat.reduceLeDiff, Nat.reduceEqDiff, Nat.reduceBEq, reduceIte, reduceCtorEq, eq_self]; try rfl) rfl ?_; simp only [SV.den, resV, dens]
    rw [e]
    rfl
  have hm : mayP l S i = true := by simpa using hb2
  have hnx : nextP m l s S i = tellP m s l[i] := by rw [nextP, if_pos hm, List.getElem?_eq_getElem hi]
  rw [hnx] at hQ
  refine go_keep [1, 3, 4, 5, 7, 8, 31] [0, 1] ?_
  refine st_ ?_
  refine rn_ ?_; intros
  refine go_callr 60 (by rw [hnt]; rfl) (by rw [hP]; kernel_rfl) rfl rfl (by omega) (hP ▸ after_ok s _ _ _ G hs hc (by omega)) ?_
  rintro v G1 r e size n xs (hle1 : Le G G1) ⟨ad, rfl, rfl, rfl, rfl, hSv, hL⟩
  refine go_rowS 60 rfl ?_
  rintro a2 c2 rfl
  refine rn_ ?_; intros
  rename_i b2
  refine go_qnew 70 rV (e := 28) (xs := s.vals) rfl (by omega) rfl hSv ?_
  intro Zv bz cs hcs
  refine go_keep [1, 3, 4, 5, 7, 8, 9] [0, 1, 60, 61, 70] ?_
  refine st_ ?_
  refine x_held [ ] rfl (by rw [hP]; kernel_rfl) rfl rfl rfl ?_; refine st_ ?_
  refine h_take 0 rfl (by kernel_rfl) (by kernel_rfl) (by kernel_rfl) hQp (by rw [hnt]; rfl) (allIn (by repeat (first | exact trivial | refine ⟨rfl, ?_⟩))) (by first | exact Le.refl _ | assumption) (quiet_op (by rw [hty]; first | rfl | (refine st_ ?_; rfl))) ?_; refine st_ ?_
  refine h_take 1 rfl (by kernel_rfl) (by kernel_rfl) (by kernel_rfl) hQp (by rw [hnt]; rfl) (allIn (by repeat (first | exact trivial | refine ⟨rfl, ?_⟩))) (by first | exact Le.refl _ | assumption) (x := .v (.func (.func f) #[] #[])) ((quiet_load (vs := [.func (.func f) #[] #[]]) (by rw [hty]; rfl) rfl (by simp [TK.agg]) ((hef.mono hle1).sub 3 1 (by simp)) rfl).cast (by rfl)) ?_
  refine st_ ?_
  refine h_take 2 rfl (by kernel_rfl) (by kernel_rfl) (by kernel_rfl) hQp (by rw [hnt]; rfl) (allIn (by repeat (first | exact trivial | refine ⟨rfl, ?_⟩))) (by first | exact Le.refl _ | assumption) (x := .v (.slice (some ⟨bl1, ol1, none⟩) l.length capl)) ((quiet_load (vs := [.slice (some ⟨bl1, ol1, none⟩) l.length capl]) (by rw [hty]; rfl) rfl (by simp [TK.agg]) (hbl.mono hle1) rfl).cast (by rfl)) ?_
  refine st_ ?_
  refine h_take 3 rfl (by kernel_rfl) (by kernel_rfl) (by kernel_rfl) hQp (by rw [hnt]; rfl) (allIn (by repeat (first | exact trivial | refine ⟨rfl, ?_⟩))) (by first | exact Le.refl _ | assumption) (quiet_op (by rw [hty]; first | rfl | (refine st_ ?_; rfl))) ?_; refine st_ ?_
  refine h_take 4 rfl (by kernel_rfl) (by kernel_rfl) (by kernel_rfl) hQp (by rw [hnt]; rfl) (allIn (by repeat (first | exact trivial | refine ⟨rfl, ?_⟩))) (by first | exact Le.refl _ | assumption) (x := .v (.pointer (some ⟨bl1, ol1 + i * 11, none⟩))) ((quiet_index (by rw [hty]; rfl) (by rw [hty]; rfl) rfl rfl rfl (by omega) (by omega)).cast (by simp [SV.den])) ?_
  refine st_ ?_
  refine h_take 5 rfl (by kernel_rfl) (by kernel_rfl) (by kernel_rfl) hQp (by rw [hnt]; rfl) (allIn (by repeat (first | exact trivial | refine ⟨rfl, ?_⟩))) (by first | exact Le.refl _ | assumption) (x := .a (opC l[i] sa sr)) ((quiet_load (by rw [hty]; rfl) rfl (fun q => by cases q) (hato.mono hle1) rfl).cast (by simp only [ldV, SV.den, dens]; rfl)) ?_
  simp only [opC]
  refine st_ ?_
  refine h_two 6 10 rfl rfl (by kernel_rfl) ?_ ?_
  · refine go_callWv [61, 70, 60] (f := f) (cap := []) (by rw [hnt]; rfl) (hP ▸ he.can) rfl rfl rfl rfl rfl (.inl (by intro k hk; omega)) (hP ▸ he.run s l[i] sa sr b2 _ G1 G1 (Le.refl _) ⟨_, _, bz, Zv, 0, cs, xs, rfl, hcs, hL, by omega, by omega⟩ (hor.mono hle1) (by omega) (by omega) hwf) ?_
    rintro v G2 ow' (hle2 : Le G1 G2) ⟨slr, rfl, hrr, hrb, vv, pv, bz2, Z2, bp2, xs2, ys2, rfl, hL2, hM2, hn1, hn2⟩
    simp only [setO]
    refine st_ ?_
    refine go_qval 70 rfl ?_
    rintro a3 c3 rfl hc3 _ _
    refine go_rowS 60 rfl ?_
    rintro a4 c4 rfl
    obtain ⟨asr, csr, rfl⟩ := VT.rep_slice hrr
    refine rn_ ?_; intros
    refine h_hs (allIn (by repeat (first | exact trivial | refine ⟨rfl, ?_⟩))) (by first | exact Le.refl _ | assumption) ?_
    refine h_take 7 rfl (by kernel_rfl) (by kernel_rfl) (by kernel_rfl) hQp (by rw [hnt]; rfl) (allIn (by repeat (first | exact trivial | refine ⟨rfl, ?_⟩))) (by first | exact Le.refl _ | assumption) (quiet_op (by rw [hty]; first | rfl | (refine st_ ?_; rfl))) ?_; refine st_ ?_
    refine h_take 8 rfl (by kernel_rfl) (by kernel_rfl) (by kernel_rfl) hQp (by rw [hnt]; rfl) (allIn (by repeat (first | exact trivial | refine ⟨rfl, ?_⟩))) (by first | exact Le.refl _ | assumption) (quiet_op (by rw [hty]; first | rfl | (refine st_ ?_; rfl))) ?_; refine st_ ?_
    refine h_take 9 rfl (by kernel_rfl) (by kernel_rfl) (by kernel_rfl) hQp (by rw [hnt]; rfl) (allIn (by repeat (first | exact trivial | refine ⟨rfl, ?_⟩))) (by first | exact Le.refl _ | assumption) (quiet_op (by rw [hty]; first | rfl | (refine st_ ?_; rfl))) ?_; refine st_ ?_
    refine h_one 10 rfl (by kernel_rfl) ?_
    refine rn_ ?_; intros
    refine h_hs (allIn (by repeat (first | exact trivial | refine ⟨rfl, ?_⟩))) (by first | exact Le.refl _ | assumption) ?_
    refine h_one 11 rfl (by kernel_rfl) ?_
    refine rn_ ?_; intros
    refine h_hs (allIn (by repeat (first | exact trivial | refine ⟨rfl, ?_⟩))) (by first | exact Le.refl _ | assumption) ?_
    refine h_one 12 rfl (by kernel_rfl) ?_
    refine rn_ ?_; intros
    refine h_hs (allIn (by repeat (first | exact trivial | refine ⟨rfl, ?_⟩))) (by first | exact Le.refl _ | assumption) ?_
    refine h_end (by kernel_rfl) ?_
    refine go_keep [1, 4, 5, 7, 8, 9, 10, 11] [0, 1, 60, 61, 70, 71] ?_
    refine st_ ?_
    generalize hrr0 : doP m s l[i] = r at *
    refine go_qpub rV 70 rfl hle2 (by omega) rfl (by omega) hL2 ?_
    intro G3 (hle3 : Le G2 G3) hS3
    refine st_ ?_
    refine go_pubL rPo 60 rfl (by omega) rfl (by omega) (Rp.L_mono hle3 hM2) ?_
    intro G4 ad4 cap4 (hle4 : Le G3 G4) he4 hS4
    rw [← he4] at hS4
    refine st_ ?_
    have hle04 : Le G G4 := hle1.trans (hle2.trans (hle3.trans hle4))
    rename_i bv
    refine rn_ ?_; intros
    refine x_draw rfl (by rw [hP]; kernel_rfl) rfl (by kernel_rfl) ?_
    refine runq 400 hty hnt ?_; refine st_ ?_
    have hT : tellP m s l[i] = if r.2.2 && (!l[i].dn || vsm r.2.1 l[i].res) then some r.1 else none := by rw [tellP, hrr0]
    rw [hT] at hQ
    cases hcan : r.2.2
    · rw [hcan] at hQ
      (refine go_qsplit rfl rfl (fun _ => ?_) (fun hc => absurd hc (by simp)); refine st_ ?_; (try (refine runq 400 hty hnt ?_; refine st_ ?_)))
      repeat (refine q_gundef rfl (by rw [hnt]; rfl) rfl ?_; (refine st_ ?_; (try (refine runq 400 hty hnt ?_; refine st_ ?_))))
      refine q_end ?_; refine rn_ ?_; intros
      refine rn_ ?_; intros
      refine x_retc rfl hQ hmb rfl (by rw [hty]; simp only [so, sq, zy, zz, tyE, SO', SQ', opQ, opStore, opAlloc, ev, putS, dOk, cv, SV.cs, SV.one, SV.bool?, eqB, Value.oneCell', ldOwn, binInt, binConst, binBool, binStr, isC, TK.agg, rv, rv1, ldV, resOne, resV, Nat.reduceAdd, Nat.reduceMul, Nat.reduceSub, Nat.reduceLT, Nat.reduceLeDiff, Nat.reduceEqDiff, Nat.reduceBEq, reduceIte, reduceCtorEq, eq_self]; try rfl) rfl ?_; simp only [SV.den, resV, dens]
      rfl
    rw [hcan, Bool.true_and] at hQ
    (refine go_qsplit rfl rfl (fun hc => absurd hc (by simp)) (fun _ => ?_); refine st_ ?_; (try (refine runq 400 hty hnt ?_; refine st_ ?_)))
    refine q_q (v := .slice (some ⟨bl1, ol1, none⟩) l.length capl) (by rw [hnt]; rfl) ((quiet_load (vs := [.slice (some ⟨bl1, ol1, none⟩) l.length capl]) (by rw [hty]; rfl) rfl (by simp [TK.agg]) (hbl.mono hle04) rfl).cast (by rfl)) ?_
    refine runq 400 hty hnt ?_; refine st_ ?_
    refine q_q (by rw [hnt]; rfl) (quiet_index (by rw [hty]; rfl) (by rw [hty]; rfl) rfl rfl rfl (by omega) (by omega)) ?_; refine runq 400 hty hnt ?_; refine st_ ?_
    refine q_q (v := .bool l[i].dn) (by rw [hnt]; rfl) ((quiet_load (vs := [.bool l[i].dn]) (by rw [hty]; rfl) rfl (by simp [TK.agg]) (by simpa [opL] using (hato.mono hle04).sub 10 1 (by simp [opL])) rfl).cast (by rfl)) ?_
    refine runq 400 hty hnt ?_; refine st_ ?_
    cases hdn : l[i].dn
    · rw [hdn, Bool.not_false, Bool.true_or, if_pos rfl] at hQ
      (refine go_qsplit rfl rfl (fun hc => absurd hc (by simp)) (fun _ => ?_); refine st_ ?_; (try (refine runq 400 hty hnt ?_; refine st_ ?_)))
      repeat (refine q_gundef rfl (by rw [hnt]; rfl) rfl ?_; (refine st_ ?_; (try (refine runq 400 hty hnt ?_; refine st_ ?_))))
      refine q_end ?_; refine rn_ ?_; intros
      refine go_keep [1, 5, 7, 8, 9, 61] [0, 1, 61] ?_
      refine st_ ?_
      refine rn_ ?_; intros
      refine x_held [(61, b2, .c 44 [.v (.slice a3 r.1.vals.length c3), .v (.slice a4 r.1.ps.length c4)]), (0, b0, .c 107 [.v (.slice ad1 s.vals.length cap1), .v (.slice ad2 s.ps.length cap2), .v (.int .u64 (msk S.contains l.length : Nat))])] rfl (by rw [hP]; kernel_rfl) rfl rfl rfl ?_; refine st_ ?_
      refine h_take 0 rfl (by kernel_rfl) (by kernel_rfl) (by kernel_rfl) hQp (by rw [hnt]; rfl) (allIn (by repeat (first | exact trivial | refine ⟨rfl, ?_⟩))) (by first | exact Le.refl _ | assumption) (quiet_op (by rw [hty]; first | rfl | (refine st_ ?_; rfl))) ?_; refine st_ ?_
      refine h_take 1 rfl (by kernel_rfl) (by kernel_rfl) (by kernel_rfl) hQp (by rw [hnt]; rfl) (allIn (by repeat (first | exact trivial | refine ⟨rfl, ?_⟩))) (by first | exact Le.refl _ | assumption) (quiet_op (by rw [hty]; first | rfl | (refine st_ ?_; rfl))) ?_; refine st_ ?_
      refine h_take 2 rfl (by kernel_rfl) (by kernel_rfl) (by kernel_rfl) hQp (by rw [hnt]; rfl) (allIn (by repeat (first | exact trivial | refine ⟨rfl, ?_⟩))) (by first | exact Le.refl _ | assumption) (quiet_op (by rw [hty]; first | rfl | (refine st_ ?_; rfl))) ?_; refine st_ ?_
      refine h_take 3 rfl (by kernel_rfl) (by kernel_rfl) (by kernel_rfl) hQp (by rw [hnt]; rfl) (allIn (by repeat (first | exact trivial | refine ⟨rfl, ?_⟩))) (by first | exact Le.refl _ | assumption) (quiet_op (by rw [hty]; first | rfl | (refine st_ ?_; rfl))) ?_; refine st_ ?_
      refine h_take 4 rfl (by kernel_rfl) (by kernel_rfl) (by kernel_rfl) hQp (by rw [hnt]; rfl) (allIn (by repeat (first | exact trivial | refine ⟨rfl, ?_⟩))) (by first | exact Le.refl _ | assumption) (x := .v (.int .u64 ((2 ^ i : Nat) : Int))) ((quiet_bin rfl rfl rfl rfl (shl_ok (by omega))).cast (by rw [u64shl i (by omega)]; rfl)) ?_
      refine st_ ?_
      refine h_take 5 rfl (by kernel_rfl) (by kernel_rfl) (by kernel_rfl) hQp (by rw [hnt]; rfl) (allIn (by repeat (first | exact trivial | refine ⟨rfl, ?_⟩))) (by first | exact Le.refl _ | assumption) (x := .v (.int .u64 (msk (S ++ [i]).contains l.length : Nat))) ((quiet_bin rfl rfl rfl rfl rfl).cast (by rw [u64or _ _ h1 h3, hadd]; rfl)) ?_
      refine st_ ?_
      refine h_take 6 rfl (by kernel_rfl) (by kernel_rfl) (by kernel_rfl) hQp (by rw [hnt]; rfl) (allIn (by repeat (first | exact trivial | refine ⟨rfl, ?_⟩))) (by first | exact Le.refl _ | assumption) (quiet_op (by rw [hty]; first | rfl | (refine st_ ?_; rfl))) ?_; refine st_ ?_
      refine h_one 7 rfl (by kernel_rfl) ?_
      refine rn_ ?_; intros
      refine h_hs (allIn (by repeat (first | exact trivial | refine ⟨rfl, ?_⟩))) (by first | exact Le.refl _ | assumption) ?_
      refine h_one 8 rfl (by kernel_rfl) ?_
      refine rn_ ?_; intros
      refine h_hs (allIn (by repeat (first | exact trivial | refine ⟨rfl, ?_⟩))) (by first | exact Le.refl _ | assumption) ?_
      refine h_end (by kernel_rfl) ?_
      refine rn_ ?_; intros
      refine x_retc rfl hQ hmb rfl (by rw [hty]; simp only [so, sq, zy, zz, tyE, SO', SQ', opQ, opStore, opAlloc, ev, putS, dOk, cv, SV.cs, SV.one, SV.bool?, eqB, Value.oneCell', ldOwn, binInt, binConst, binBool, binStr, isC, TK.agg, rv, rv1, ldV, resOne, resV, Nat.reduceAdd, Nat.reduceMul, Nat.reduceSub, Nat.reduceLT, Nat.reduceLeDiff, Nat.reduceEqDiff, Nat.reduceBEq, reduceIte, reduceCtorEq, eq_self]; try rfl) rfl ?_; simp only [SV.den, resV, dens]
      exact ⟨_, _, rfl, ⟨Rp.S_mono hle4 hS3, hS4⟩, fun ad n c h => by cases h; exact hc3⟩
    rw [hdn, Bool.not_true, Bool.false_or] at hQ
    (refine go_qsplit rfl rfl (fun _ => ?_) (fun hc => absurd hc (by simp)); refine st_ ?_; (try (refine runq 400 hty hnt ?_; refine st_ ?_)))
    refine q_q (v := .slice (some ⟨bl1, ol1, none⟩) l.length capl) (by rw [hnt]; rfl) ((quiet_load (vs := [.slice (some ⟨bl1, ol1, none⟩) l.length capl]) (by rw [hty]; rfl) rfl (by simp [TK.agg]) (hbl.mono hle04) rfl).cast (by rfl)) ?_
    refine runq 400 hty hnt ?_; refine st_ ?_
    refine q_q (by rw [hnt]; rfl) (quiet_index (by rw [hty]; rfl) (by rw [hty]; rfl) rfl rfl rfl (by omega) (by omega)) ?_; refine runq 400 hty hnt ?_; refine st_ ?_
    obtain ⟨asx, csx, rfl⟩ := VT.rep_slice hor.r
    refine q_q (v := .agg #[.int .i64 l[i].res.k, .int .i64 l[i].res.n, .slice asx l[i].res.l.length csx]) (by rw [hnt]; rfl) ((quiet_load (by rw [hty]; rfl) rfl (fun q => by cases q) (by simpa using opAt5 (hato.mono hle04)) rfl).cast (by simp only [ldV]; rfl)) ?_
    refine runq 400 hty hnt ?_; refine st_ ?_
    refine q_callf (by rw [hnt]; rfl) (by rw [hP]; kernel_rfl) rfl (hP ▸ same_ok r.2.1 l[i].res _ _ _ (VT.rep_mono (hle3.trans hle4) hrr) (VT.rep_mono hle04 hor.r)) ?_; refine runq 400 hty hnt ?_; refine st_ ?_
    refine q_end ?_; refine rn_ ?_; intros
    rw [show (sml r.2.1 && sml l[i].res && veq r.2.1 l[i].res) = vsm r.2.1 l[i].res from rfl]
    cases hsm : vsm r.2.1 l[i].res
    · rw [hsm] at hQ
      (refine x_split rfl rfl rfl (fun _ => ?_) (fun hc => absurd hc (by first | decide +kernel | (simp; first | done | fail))); refine st_ ?_; (refine ru_ ?_; intros))
      refine rn_ ?_; intros
      refine x_retc rfl hQ hmb rfl (by rw [hty]; simp only [so, sq, zy, zz, tyE, SO', SQ', opQ, opStore, opAlloc, ev, putS, dOk, cv, SV.cs, SV.one, SV.bool?, eqB, Value.oneCell', ldOwn, binInt, binConst, binBool, binStr, isC, TK.agg, rv, rv1, ldV, resOne, resV, Nat.reduceAdd, Nat.reduceMul, Nat.reduceSub, Nat.reduceLT, Nat.reduceLeDiff, Nat.reduceEqDiff, Nat.reduceBEq, reduceIte, reduceCtorEq, eq_self]; try rfl) rfl ?_; simp only [SV.den, resV, dens]
      rfl
    rw [hsm, if_pos rfl] at hQ
    (refine x_split rfl rfl rfl (fun hc => absurd hc (by first | decide +kernel | (simp; first | done | fail))) (fun _ => ?_); refine st_ ?_; (refine ru_ ?_; intros))
    refine go_keep [1, 5, 7, 8, 9, 61] [0, 1, 61] ?_
    refine st_ ?_
    refine rn_ ?_; intros
    refine x_held [(61, b2, .c 44 [.v (.slice a3 r.1.vals.length c3), .v (.slice a4 r.1.ps.length c4)]), (0, b0, .c 107 [.v (.slice ad1 s.vals.length cap1), .v (.slice ad2 s.ps.length cap2), .v (.int .u64 (msk S.contains l.length : Nat))])] rfl (by rw [hP]; kernel_rfl) rfl rfl rfl ?_; refine st_ ?_
    refine h_take 0 rfl (by kernel_rfl) (by kernel_rfl) (by kernel_rfl) hQp (by rw [hnt]; rfl) (allIn (by repeat (first | exact trivial | refine ⟨rfl, ?_⟩))) (by first | exact Le.refl _ | assumption) (quiet_op (by rw [hty]; first | rfl | (refine st_ ?_; rfl))) ?_; refine st_ ?_
    refine h_take 1 rfl (by kernel_rfl) (by kernel_rfl) (by kernel_rfl) hQp (by rw [hnt]; rfl) (allIn (by repeat (first | exact trivial | refine ⟨rfl, ?_⟩))) (by first | exact Le.refl _ | assumption) (quiet_op (by rw [hty]; first | rfl | (refine st_ ?_; rfl))) ?_; refine st_ ?_
    refine h_take 2 rfl (by kernel_rfl) (by kernel_rfl) (by kernel_rfl) hQp (by rw [hnt]; rfl) (allIn (by repeat (first | exact trivial | refine ⟨rfl, ?_⟩))) (by first | exact Le.refl _ | assumption) (quiet_op (by rw [hty]; first | rfl | (refine st_ ?_; rfl))) ?_; refine st_ ?_
    refine h_take 3 rfl (by kernel_rfl) (by kernel_rfl) (by kernel_rfl) hQp (by rw [hnt]; rfl) (allIn (by repeat (first | exact trivial | refine ⟨rfl, ?_⟩))) (by first | exact Le.refl _ | assumption) (quiet_op (by rw [hty]; first | rfl | (refine st_ ?_; rfl))) ?_; refine st_ ?_
    refine h_take 4 rfl (by kernel_rfl) (by kernel_rfl) (by kernel_rfl) hQp (by rw [hnt]; rfl) (allIn (by repeat (first | exact trivial | refine ⟨rfl, ?_⟩))) (by first | exact Le.refl _ | assumption) (x := .v (.int .u64 ((2 ^ i : Nat) : Int))) ((quiet_bin rfl rfl rfl rfl (shl_ok (by omega))).cast (by rw [u64shl i (by omega)]; rfl)) ?_
    refine st_ ?_
    refine h_take 5 rfl (by kernel_rfl) (by kernel_rfl) (by kernel_rfl) hQp (by rw [hnt]; rfl) (allIn (by repeat (first | exact trivial | refine ⟨rfl, ?_⟩))) (by first | exact Le.refl _ | assumption) (x := .v (.int .u64 (msk (S ++ [i]).contains l.length : Nat))) ((quiet_bin rfl rfl rfl rfl rfl).cast (by rw [u64or _ _ h1 h3, hadd]; rfl)) ?_
    refine st_ ?_
    refine h_take 6 rfl (by kernel_rfl) (by kernel_rfl) (by kernel_rfl) hQp (by rw [hnt]; rfl) (allIn (by repeat (first | exact trivial | refine ⟨rfl, ?_⟩))) (by first | exact Le.refl _ | assumption) (quiet_op (by rw [hty]; first | rfl | (refine st_ ?_; rfl))) ?_; refine st_ ?_
    refine h_one 7 rfl (by kernel_rfl) ?_
    refine rn_ ?_; intros
    refine h_hs (allIn (by repeat (first | exact trivial | refine ⟨rfl, ?_⟩))) (by first | exact Le.refl _ | assumption) ?_
    refine h_one 8 rfl (by kernel_rfl) ?_
    refine rn_ ?_; intros
    refine h_hs (allIn (by repeat (first | exact trivial | refine ⟨rfl, ?_⟩))) (by first | exact Le.refl _ | assumption) ?_
    refine h_end (by kernel_rfl) ?_
    refine rn_ ?_; intros
    refine x_retc rfl hQ hmb rfl (by rw [hty]; simp only [so, sq, zy, zz, tyE, SO', SQ', opQ, opStore, opAlloc, ev, putS, dOk, cv, SV.cs, SV.one, SV.bool?, eqB, Value.oneCell', ldOwn, binInt, binConst, binBool, binStr, isC, TK.agg, rv, rv1, ldV, resOne, resV, Nat.reduceAdd, Nat.reduceMul, Nat.reduceSub, Nat.reduceLT, Nat.reduceLeDiff, Nat.reduceEqDiff, Nat.reduceBEq, reduceIte, reduceCtorEq, eq_self]; try rfl) rfl ?_; simp only [SV.den, resV, dens]
    exact ⟨_, _, rfl, ⟨Rp.S_mono hle4 hS3, hS4⟩, fun ad n c h => by cases h; exact hc3⟩
  · refine rn_ ?_; intros
    refine h_hs (allIn (by repeat (first | exact trivial | refine ⟨rfl, ?_⟩))) (by first | exact Le.refl _ | assumption) ?_
    refine h_one 6 rfl (by kernel_rfl) ?_
    refine go_callWv [61, 70, 60] (f := f) (cap := []) (by rw [hnt]; rfl) (hP ▸ he.can) rfl rfl rfl rfl rfl (.inl (by intro k hk; omega)) (hP ▸ he.run s l[i] sa sr b2 _ G1 G1 (Le.refl _) ⟨_, _, bz, Zv, 0, cs, xs, rfl, hcs, hL, by omega, by omega⟩ (hor.mono hle1) (by omega) (by omega) hwf) ?_
    rintro v G2 ow' (hle2 : Le G1 G2) ⟨slr, rfl, hrr, hrb, vv, pv, bz2, Z2, bp2, xs2, ys2, rfl, hL2, hM2, hn1, hn2⟩
    simp only [setO]
    refine st_ ?_
    refine go_qval 70 rfl ?_
    rintro a3 c3 rfl hc3 _ _
    refine go_rowS 60 rfl ?_
    rintro a4 c4 rfl
    obtain ⟨asr, csr, rfl⟩ := VT.rep_slice hrr
    refine rn_ ?_; intros
    refine h_hs (allIn (by repeat (first | exact trivial | refine ⟨rfl, ?_⟩))) (by first | exact Le.refl _ | assumption) ?_
    refine h_take 7 rfl (by kernel_rfl) (by kernel_rfl) (by kernel_rfl) hQp (by rw [hnt]; rfl) (allIn (by repeat (first | exact trivial | refine ⟨rfl, ?_⟩))) (by first | exact Le.refl _ | assumption) (quiet_op (by rw [hty]; first | rfl | (refine st_ ?_; rfl))) ?_; refine st_ ?_
    refine h_take 8 rfl (by kernel_rfl) (by kernel_rfl) (by kernel_rfl) hQp (by rw [hnt]; rfl) (allIn (by repeat (first | exact trivial | refine ⟨rfl, ?_⟩))) (by first | exact Le.refl _ | assumption) (quiet_op (by rw [hty]; first | rfl | (refine st_ ?_; rfl))) ?_; refine st_ ?_
    refine h_take 9 rfl (by kernel_rfl) (by kernel_rfl) (by kernel_rfl) hQp (by rw [hnt]; rfl) (allIn (by repeat (first | exact trivial | refine ⟨rfl, ?_⟩))) (by first | exact Le.refl _ | assumption) (quiet_op (by rw [hty]; first | rfl | (refine st_ ?_; rfl))) ?_; refine st_ ?_
    refine h_one 11 rfl (by kernel_rfl) ?_
    refine rn_ ?_; intros
    refine h_hs (allIn (by repeat (first | exact trivial | refine ⟨rfl, ?_⟩))) (by first | exact Le.refl _ | assumption) ?_
    refine h_one 12 rfl (by kernel_rfl) ?_
    refine rn_ ?_; intros
    refine h_hs (allIn (by repeat (first | exact trivial | refine ⟨rfl, ?_⟩))) (by first | exact Le.refl _ | assumption) ?_
    refine h_end (by kernel_rfl) ?_
    refine go_keep [1, 4, 5, 7, 8, 9, 10, 11] [0, 1, 60, 61, 70, 71] ?_
    refine st_ ?_
    generalize hrr0 : doP m s l[i] = r at *
    refine go_qpub rV 70 rfl hle2 (by omega) rfl (by omega) hL2 ?_
    intro G3 (hle3 : Le G2 G3) hS3
    refine st_ ?_
    refine go_pubL rPo 60 rfl (by omega) rfl (by omega) (Rp.L_mono hle3 hM2) ?_
    intro G4 ad4 cap4 (hle4 : Le G3 G4) he4 hS4
    rw [← he4] at hS4
    refine st_ ?_
    have hle04 : Le G G4 := hle1.trans (hle2.trans (hle3.trans hle4))
    rename_i bv
    refine rn_ ?_; intros
    refine x_draw rfl (by rw [hP]; kernel_rfl) rfl (by kernel_rfl) ?_
    refine runq 400 hty hnt ?_; refine st_ ?_
    have hT : tellP m s l[i] = if r.2.2 && (!l[i].dn || vsm r.2.1 l[i].res) then some r.1 else none := by rw [tellP, hrr0]
    rw [hT] at hQ
    cases hcan : r.2.2
    · rw [hcan] at hQ
      (refine go_qsplit rfl rfl (fun _ => ?_) (fun hc => absurd hc (by simp)); refine st_ ?_; (try (refine runq 400 hty hnt ?_; refine st_ ?_)))
      repeat (refine q_gundef rfl (by rw [hnt]; rfl) rfl ?_; (refine st_ ?_; (try (refine runq 400 hty hnt ?_; refine st_ ?_))))
      refine q_end ?_; refine rn_ ?_; intros
      refine rn_ ?_; intros
      refine x_retc rfl hQ hmb rfl (by rw [hty]; simp only [so, sq, zy, zz, tyE, SO', SQ', opQ, opStore, opAlloc, ev, putS, dOk, cv, SV.cs, SV.one, SV.bool?, eqB, Value.oneCell', ldOwn, binInt, binConst, binBool, binStr, isC, TK.agg, rv, rv1, ldV, resOne, resV, Nat.reduceAdd, Nat.reduceMul, Nat.reduceSub, Nat.reduceLT, Nat.reduceLeDiff, Nat.reduceEqDiff, Nat.reduceBEq, reduceIte, reduceCtorEq, eq_self]; try rfl) rfl ?_; simp only [SV.den, resV, dens]
      rfl
    rw [hcan, Bool.true_and] at hQ
    (refine go_qsplit rfl rfl (fun hc => absurd hc (by simp)) (fun _ => ?_); refine st_ ?_; (try (refine runq 400 hty hnt ?_; refine st_ ?_)))
    refine q_q (v := .slice (some ⟨bl1, ol1, none⟩) l.length capl) (by rw [hnt]; rfl) ((quiet_load (vs := [.slice (some ⟨bl1, ol1, none⟩) l.length capl]) (by rw [hty]; rfl) rfl (by simp [TK.agg]) (hbl.mono hle04) rfl).cast (by rfl)) ?_
    refine runq 400 hty hnt ?_; refine st_ ?_
    refine q_q (by rw [hnt]; rfl) (quiet_index (by rw [hty]; rfl) (by rw [hty]; rfl) rfl rfl rfl (by omega) (by omega)) ?_; refine runq 400 hty hnt ?_; refine st_ ?_
    refine q_q (v := .bool l[i].dn) (by rw [hnt]; rfl) ((quiet_load (vs := [.bool l[i].dn]) (by rw [hty]; rfl) rfl (by simp [TK.agg]) (by simpa [opL] using (hato.mono hle04).sub 10 1 (by simp [opL])) rfl).cast (by rfl)) ?_
    refine runq 400 hty hnt ?_; refine st_ ?_
    cases hdn : l[i].dn
    · rw [hdn, Bool.not_false, Bool.true_or, if_pos rfl] at hQ
      (refine go_qsplit rfl rfl (fun hc => absurd hc (by simp)) (fun _ => ?_); refine st_ ?_; (try (refine runq 400 hty hnt ?_; refine st_ ?_)))
      repeat (refine q_gundef rfl (by rw [hnt]; rfl) rfl ?_; (refine st_ ?_; (try (refine runq 400 hty hnt ?_; refine st_ ?_))))
      refine q_end ?_; refine rn_ ?_; intros
      refine go_keep [1, 5, 7, 8, 9, 61] [0, 1, 61] ?_
      refine st_ ?_
      refine rn_ ?_; intros
      refine x_held [(61, b2, .c 44 [.v (.slice a3 r.1.vals.length c3), .v (.slice a4 r.1.ps.length c4)]), (0, b0, .c 107 [.v (.slice ad1 s.vals.length cap1), .v (.slice ad2 s.ps.length cap2), .v (.int .u64 (msk S.contains l.length : Nat))])] rfl (by rw [hP]; kernel_rfl) rfl rfl rfl ?_; refine st_ ?_
      refine h_take 0 rfl (by kernel_rfl) (by kernel_rfl) (by kernel_rfl) hQp (by rw [hnt]; rfl) (allIn (by repeat (first | exact trivial | refine ⟨rfl, ?_⟩))) (by first | exact Le.refl _ | assumption) (quiet_op (by rw [hty]; first | rfl | (refine st_ ?_; rfl))) ?_; refine st_ ?_
      refine h_take 1 rfl (by kernel_rfl) (by kernel_rfl) (by kernel_rfl) hQp (by rw [hnt]; rfl) (allIn (by repeat (first | exact trivial | refine ⟨rfl, ?_⟩))) (by first | exact Le.refl _ | assumption) (quiet_op (by rw [hty]; first | rfl | (refine st_ ?_; rfl))) ?_; refine st_ ?_
      refine h_take 2 rfl (by kernel_rfl) (by kernel_rfl) (by kernel_rfl) hQp (by rw [hnt]; rfl) (allIn (by repeat (first | exact trivial | refine ⟨rfl, ?_⟩))) (by first | exact Le.refl _ | assumption) (quiet_op (by rw [hty]; first | rfl | (refine st_ ?_; rfl))) ?_; refine st_ ?_
      refine h_take 3 rfl (by kernel_rfl) (by kernel_rfl) (by kernel_rfl) hQp (by rw [hnt]; rfl) (allIn (by repeat (first | exact trivial | refine ⟨rfl, ?_⟩))) (by first | exact Le.refl _ | assumption) (quiet_op (by rw [hty]; first | rfl | (refine st_ ?_; rfl))) ?_; refine st_ ?_
      refine h_take 4 rfl (by kernel_rfl) (by kernel_rfl) (by kernel_rfl) hQp (by rw [hnt]; rfl) (allIn (by repeat (first | exact trivial | refine ⟨rfl, ?_⟩))) (by first | exact Le.refl _ | assumption) (x := .v (.int .u64 ((2 ^ i : Nat) : Int))) ((quiet_bin rfl rfl rfl rfl (shl_ok (by omega))).cast (by rw [u64shl i (by omega)]; rfl)) ?_
      refine st_ ?_
      refine h_take 5 rfl (by kernel_rfl) (by kernel_rfl) (by kernel_rfl) hQp (by rw [hnt]; rfl) (allIn (by repeat (first | exact trivial | refine ⟨rfl, ?_⟩))) (by first | exact Le.refl _ | assumption) (x := .v (.int .u64 (msk (S ++ [i]).contains l.length : Nat))) ((quiet_bin rfl rfl rfl rfl rfl).cast (by rw [u64or _ _ h1 h3, hadd]; rfl)) ?_
      refine st_ ?_
      refine h_take 6 rfl (by kernel_rfl) (by kernel_rfl) (by kernel_rfl) hQp (by rw [hnt]; rfl) (allIn (by repeat (first | exact trivial | refine ⟨rfl, ?_⟩))) (by first | exact Le.refl _ | assumption) (quiet_op (by rw [hty]; first | rfl | (refine st_ ?_; rfl))) ?_; refine st_ ?_
      refine h_one 7 rfl (by kernel_rfl) ?_
      refine rn_ ?_; intros
      refine h_hs (allIn (by repeat (first | exact trivial | refine ⟨rfl, ?_⟩))) (by first | exact Le.refl _ | assumption) ?_
      refine h_one 8 rfl (by kernel_rfl) ?_
      refine rn_ ?_; intros
      refine h_hs (allIn (by repeat (first | exact trivial | refine ⟨rfl, ?_⟩))) (by first | exact Le.refl _ | assumption) ?_
      refine h_end (by kernel_rfl) ?_
      refine rn_ ?_; intros
      refine x_retc rfl hQ hmb rfl (by rw [hty]; simp only [so, sq, zy, zz, tyE, SO', SQ', opQ, opStore, opAlloc, ev, putS, dOk, cv, SV.cs, SV.one, SV.bool?, eqB, Value.oneCell', ldOwn, binInt, binConst, binBool, binStr, isC, TK.agg, rv, rv1, ldV, resOne, resV, Nat.reduceAdd, Nat.reduceMul, Nat.reduceSub, Nat.reduceLT, Nat.reduceLeDiff, Nat.reduceEqDiff, Nat.reduceBEq, reduceIte, reduceCtorEq, eq_self]; try rfl) rfl ?_; simp only [SV.den, resV, dens]
      exact ⟨_, _, rfl, ⟨Rp.S_mono hle4 hS3, hS4⟩, fun ad n c h => by cases h; exact hc3⟩
    rw [hdn, Bool.not_true, Bool.false_or] at hQ
    (refine go_qsplit rfl rfl (fun _ => ?_) (fun hc => absurd hc (by simp)); refine st_ ?_; (try (refine runq 400 hty hnt ?_; refine st_ ?_)))
    refine q_q (v := .slice (some ⟨bl1, ol1, none⟩) l.length capl) (by rw [hnt]; rfl) ((quiet_load (vs := [.slice (some ⟨bl1, ol1, none⟩) l.length capl]) (by rw [hty]; rfl) rfl (by simp [TK.agg]) (hbl.mono hle04) rfl).cast (by rfl)) ?_
    refine runq 400 hty hnt ?_; refine st_ ?_
    refine q_q (by rw [hnt]; rfl) (quiet_index (by rw [hty]; rfl) (by rw [hty]; rfl) rfl rfl rfl (by omega) (by omega)) ?_; refine runq 400 hty hnt ?_; refine st_ ?_
    obtain ⟨asx, csx, rfl⟩ := VT.rep_slice hor.r
    refine q_q (v := .agg #[.int .i64 l[i].res.k, .int .i64 l[i].res.n, .slice asx l[i].res.l.length csx]) (by rw [hnt]; rfl) ((quiet_load (by rw [hty]; rfl) rfl (fun q => by cases q) (by simpa using opAt5 (hato.mono hle04)) rfl).cast (by simp only [ldV]; rfl)) ?_
    refine runq 400 hty hnt ?_; refine st_ ?_
    refine q_callf (by rw [hnt]; rfl) (by rw [hP]; kernel_rfl) rfl (hP ▸ same_ok r.2.1 l[i].res _ _ _ (VT.rep_mono (hle3.trans hle4) hrr) (VT.rep_mono hle04 hor.r)) ?_; refine runq 400 hty hnt ?_; refine st_ ?_
    refine q_end ?_; refine rn_ ?_; intros
    rw [show (sml r.2.1 && sml l[i].res && veq r.2.1 l[i].res) = vsm r.2.1 l[i].res from rfl]
    cases hsm : vsm r.2.1 l[i].res
    · rw [hsm] at hQ
      (refine x_split rfl rfl rfl (fun _ => ?_) (fun hc => absurd hc (by first | decide +kernel | (simp; first | done | fail))); refine st_ ?_; (refine ru_ ?_; intros))
      refine rn_ ?_; intros
      refine x_retc rfl hQ hmb rfl (by rw [hty]; simp only [so, sq, zy, zz, tyE, SO', SQ', opQ, opStore, opAlloc, ev, putS, dOk, cv, SV.cs, SV.one, SV.bool?, eqB, Value.oneCell', ldOwn, binInt, binConst, binBool, binStr, isC, TK.agg, rv, rv1, ldV, resOne, resV, Nat.reduceAdd, Nat.reduceMul, Nat.reduceSub, Nat.reduceLT, Nat.reduceLeDiff, Nat.reduceEqDiff, Nat.reduceBEq, reduceIte, reduceCtorEq, eq_self]; try rfl) rfl ?_; simp only [SV.den, resV, dens]
      rfl
    rw [hsm, if_pos rfl] at hQ
    (refine x_split rfl rfl rfl (fun hc => absurd hc (by first | decide +kernel | (simp; first | done | fail))) (fun _ => ?_); refine st_ ?_; (refine ru_ ?_; intros))
    refine go_keep [1, 5, 7, 8, 9, 61] [0, 1, 61] ?_
    refine st_ ?_
    refine rn_ ?_; intros
    refine x_held [(61, b2, .c 44 [.v (.slice a3 r.1.vals.length c3), .v (.slice a4 r.1.ps.length c4)]), (0, b0, .c 107 [.v (.slice ad1 s.vals.length cap1), .v (.slice ad2 s.ps.length cap2), .v (.int .u64 (msk S.contains l.length : Nat))])] rfl (by rw [hP]; kernel_rfl) rfl rfl rfl ?_; refine st_ ?_
    refine h_take 0 rfl (by kernel_rfl) (by kernel_rfl) (by kernel_rfl) hQp (by rw [hnt]; rfl) (allIn (by repeat (first | exact trivial | refine ⟨rfl, ?_⟩))) (by first | exact Le.refl _ | assumption) (quiet_op (by rw [hty]; first | rfl | (refine st_ ?_; rfl))) ?_; refine st_ ?_
    refine h_take 1 rfl (by kernel_rfl) (by kernel_rfl) (by kernel_rfl) hQp (by rw [hnt]; rfl) (allIn (by repeat (first | exact trivial | refine ⟨rfl, ?_⟩))) (by first | exact Le.refl _ | assumption) (quiet_op (by rw [hty]; first | rfl | (refine st_ ?_; rfl))) ?_; refine st_ ?_
    refine h_take 2 rfl (by kernel_rfl) (by kernel_rfl) (by kernel_rfl) hQp (by rw [hnt]; rfl) (allIn (by repeat (first | exact trivial | refine ⟨rfl, ?_⟩))) (by first | exact Le.refl _ | assumption) (quiet_op (by rw [hty]; first | rfl | (refine st_ ?_; rfl))) ?_; refine st_ ?_
    refine h_take 3 rfl (by kernel_rfl) (by kernel_rfl) (by kernel_rfl) hQp (by rw [hnt]; rfl) (allIn (by repeat (first | exact trivial | refine ⟨rfl, ?_⟩))) (by first | exact Le.refl _ | assumption) (quiet_op (by rw [hty]; first | rfl | (refine st_ ?_; rfl))) ?_; refine st_ ?_
    refine h_take 4 rfl (by kernel_rfl) (by kernel_rfl) (by kernel_rfl) hQp (by rw [hnt]; rfl) (allIn (by repeat (first | exact trivial | refine ⟨rfl, ?_⟩))) (by first | exact Le.refl _ | assumption) (x := .v (.int .u64 ((2 ^ i : Nat) : Int))) ((quiet_bin rfl rfl rfl rfl (shl_ok (by omega))).cast (by rw [u64shl i (by omega)]; rfl)) ?_
    refine st_ ?_
    refine h_take 5 rfl (by kernel_rfl) (by kernel_rfl) (by kernel_rfl) hQp (by rw [hnt]; rfl) (allIn (by repeat (first | exact trivial | refine ⟨rfl, ?_⟩))) (by first | exact Le.refl _ | assumption) (x := .v (.int .u64 (msk (S ++ [i]).contains l.length : Nat))) ((quiet_bin rfl rfl rfl rfl rfl).cast (by rw [u64or _ _ h1 h3, hadd]; rfl)) ?_
    refine st_ ?_
    refine h_take 6 rfl (by kernel_rfl) (by kernel_rfl) (by kernel_rfl) hQp (by rw [hnt]; rfl) (allIn (by repeat (first | exact trivial | refine ⟨rfl, ?_⟩))) (by first | exact Le.refl _ | assumption) (quiet_op (by rw [hty]; first | rfl | (refine st_ ?_; rfl))) ?_; refine st_ ?_
    refine h_one 7 rfl (by kernel_rfl) ?_
    refine rn_ ?_; intros
    refine h_hs (allIn (by repeat (first | exact trivial | refine ⟨rfl, ?_⟩))) (by first | exact Le.refl _ | assumption) ?_
    refine h_one 8 rfl (by kernel_rfl) ?_
    refine rn_ ?_; intros
    refine h_hs (allIn (by repeat (first | exact trivial | refine ⟨rfl, ?_⟩))) (by first | exact Le.refl _ | assumption) ?_
    refine h_end (by kernel_rfl) ?_
    refine rn_ ?_; intros
    refine x_retc rfl hQ hmb rfl (by rw [hty]; simp only [so, sq, zy, zz, tyE, SO', SQ', opQ, opStore, opAlloc, ev, putS, dOk, cv, SV.cs, SV.one, SV.bool?, eqB, Value.oneCell', ldOwn, binInt, binConst, binBool, binStr, isC, TK.agg, rv, rv1, ldV, resOne, resV, Nat.reduceAdd, Nat.reduceMul, Nat.reduceSub, Nat.reduceLT, Nat.reduceLeDiff, Nat.reduceEqDiff, Nat.reduceBEq, reduceIte, reduceCtorEq, eq_self]; try rfl) rfl ?_; simp only [SV.den, resV, dens]
    exact ⟨_, _, rfl, ⟨Rp.S_mono hle4 hS3, hS4⟩, fun ad n c h => by cases h; exact hc3⟩
end Go.Proofs.Ytpmmbjcgabnloaa
namespace Go.Proofs.Ytpmmbjcgabnloaa
set_option linter.unusedSimpArgs false
set_option linter.unusedVariables false
open Go.Sx
set_option maxHeartbeats 8000000
set_option maxRecDepth 20000
structure MS.inv (m : Int) (s : MS) : Prop where
  vd : s.vd
  wf : s.wf
  np : m ≠ 4 → s.ps = []
theorem inv_do {m : Int} {s : MS} {o : Op} (h : s.inv m) (hr : rgtO (kns m) o = true) : (doP m s o).1.inv m := by
  obtain ⟨ha, hb⟩ := rgt_vld hr
  refine ⟨(do_vd h.vd ha hb).vd, ?_, ?_⟩
  · by_cases h4 : m = 4
    · subst h4
      show (castP s o).1.wf
      rw [castP]
      split
      · split
        · exact h.wf
        · intro p hp
          rcases List.mem_append.1 hp with hp | hp
          · exact h.wf p hp
          · simp at hp; subst hp; simp
      · split
        · intro p hp
          have := h.wf p hp
          simp; omega
        · split
          · exact h.wf
          · rename_i i hi
            have hil := (pix_lt hi).2
            have hg : s.ps.getD i ⟨noneV, 0⟩ = s.ps[i]'(by omega) := by rw [List.getD_eq_getElem?_getD, List.getElem?_eq_getElem (by omega)]; rfl
            split
            · exact h.wf
            · rename_i hlt
              intro p hp
              rcases List.mem_or_eq_of_mem_set hp with hp | hp
              · exact h.wf p hp
              · subst hp
                rw [hg] at hlt ⊢
                have := h.wf s.ps[i] (List.getElem_mem _)
                simp; omega
    · have hps : (doP m s o).1.ps = [] := by
        have h0 := h.np h4
        have hbx : (boxP s o).1.ps = [] := by
          rw [boxP]
          split
          · exact h0
          · split <;> exact h0
        rw [doP]
        split
        · rw [varP]; split <;> split <;> exact h0
        split
        · rw [slotP]; split
          · exact h0
          · exact hbx
        split
        · exact hbx
        · rename_i h1 h2 h3
          rcases rgt_cases hr with q | q | q | q <;> omega
      intro p hp
      rw [hps] at hp; cases hp
  · intro h4
    have h0 := h.np h4
    have hbx : (boxP s o).1.ps = [] := by
      rw [boxP]
      split
      · exact h0
      · split <;> exact h0
    rw [doP]
    split
    · rw [varP]; split <;> split <;> exact h0
    split
    · rw [slotP]; split
      · exact h0
      · exact hbx
    split
    · exact hbx
    · rename_i h1 h2 h3
      rcases rgt_cases hr with q | q | q | q <;> omega
theorem next_some {m : Int} {l : List Op} {s t : MS} {S : List Nat} {i : Nat} (h : nextP m l s S i = some t) : ∃ hi : i < l.length, S.contains i = false ∧ t = (doP m s l[i]).1 := by
  have hn := next_not h
  rw [nextP] at h
  split at h
  · split at h
    · rename_i o ho
      obtain ⟨hi, rfl⟩ := List.getElem?_eq_some_iff.1 ho
      rw [tellP] at h
      split at h
      · cases h; exact ⟨hi, hn, rfl⟩
      · cases h
    · cases h
  · cases h
def srRet (r : Option (List Nat)) (v : Value) (G : Hp) : Prop := match r with
  | none => v = .tuple #[.slice none 0 0, .bool false]
  | some p => ∃ sl, v = .tuple #[sl, .bool true] ∧ rI.S G (p.map fun i : Nat => (i : Int)) sl
theorem srch_len {m : Int} {l : List Op} : ∀ {f : Nat} {s : MS} {S p : List Nat}, srch m l f s S = some p → p.length ≤ f ∧ ∀ i ∈ p, i < l.length
  | 0, s, S, p, h => by
    rw [srch] at h
    split at h
    · cases h; exact ⟨by simp, fun i hi => by cases hi⟩
    · cases h
  | f + 1, s, S, p, h => by
    rw [srch] at h
    split at h
    · cases h; exact ⟨by simp, fun i hi => by cases hi⟩
    · obtain ⟨i, hi, he⟩ := List.exists_of_findSome?_eq_some h
      split at he
      · cases he
      · obtain ⟨q, hq, rfl⟩ := Option.map_eq_some_iff.1 he
        obtain ⟨h1, h2⟩ := srch_len hq
        refine ⟨by simp; omega, fun j hj => ?_⟩
        rcases List.mem_cons.1 hj with rfl | hj
        · simpa using hi
        · exact h2 j hj
structure LineOk (m K mo : Int) (pt : Bool) (f : Nat) (l : List Op) (sl : Value) (ba bh bf bl : Nat) (G : Hp) : Prop where
  n8 : l.length ≤ 8
  lr : rO.S G l sl
  rg : ∀ o ∈ l, rgtO K o = true
  al : At G ba 0 [.int .u64 (msk (dnA l) l.length : Nat)]
  ah : At G bh 0 (ahRow l)
  ef : At G bf 0 [.int .i64 K, .int .i64 mo, .bool pt, .func (.func f) #[] #[]]
  bl : At G bl 0 [sl]
theorem LineOk.mono {m K mo : Int} {pt : Bool} {f : Nat} {l : List Op} {sl : Value} {ba bh bf bl : Nat} {G G' : Hp} (h : LineOk m K mo pt f l sl ba bh bf bl G) (hl : Le G G') : LineOk m K mo pt f l sl ba bh bf bl G' :=
  ⟨h.n8, Rp.S_mono hl h.lr, h.rg, h.al.mono hl, h.ah.mono hl, h.ef.mono hl, h.bl.mono hl⟩
def endV (ba : Nat) : Value := .func (.func 51) #[] #[.pointer (some ⟨ba, 0, none⟩)]
def nextV (bh bf bl : Nat) : Value := .func (.func 52) #[] #[.pointer (some ⟨bh, 0, none⟩), .pointer (some ⟨bf, 0, none⟩), .pointer (some ⟨bl, 0, none⟩)]
theorem search_ok (m K mo : Int) (pt : Bool) (f : Nat) (he : EffOk m K mo pt f) (l : List Op) (sl : Value) (ba bh bf bl : Nat) : ∀ (fu : Nat) (s : MS) (S : List Nat) (sv sp : Value) (G : Hp), LineOk m K mo pt f l sl ba bh bf bl G → s.rep G sv sp → CapOk sv → s.inv m → s.vals.length + freeP l.length S ≤ 100 → s.ps.length + freeP l.length S ≤ 100 → freeP l.length S ≤ fu → fu ≤ 100 →
    Pure Try.prog 50 [plV sv sp (msk S.contains l.length), .int .i64 l.length, endV ba, nextV bh bf bl] G (srRet (srch m l fu s S)) := by
  intro fu
  induction fu using Nat.strongRecOn with
  | _ fu IH =>
  intro s S sv sp G hL hs hc hinv hb1 hb2 hfu hf2
  obtain ⟨ad1, cap1, rfl⟩ := Rp.S_slice hs.v
  obtain ⟨ad2, cap2, rfl⟩ := Rp.S_slice hs.p
  have hn8 := hL.n8
  have hst := srch_step m l (s := s) hfu
  refine enterX ty tyok Try.func50 rfl Try.ntmps50 [.a [.v (.slice ad1 s.vals.length cap1), .v (.slice ad2 s.ps.length cap2), .v (.int .u64 (msk S.contains l.length : Nat))], .v (.int .i64 l.length), .v (endV ba), .v (nextV bh bf bl)] (by simp) ?_
  intro C hP hQ hnt hty hmb hmh hro; have hQp := qp_body hQ; refine st_ ?_
  refine rn_ ?_; intros
  rename_i b0
  refine go_callw (cap := [.pointer (some ⟨ba, 0, none⟩)]) (by rw [hnt]; rfl) (by rw [hP]; kernel_rfl : canCall C.P 51 = true) rfl rfl rfl (hP ▸ ends_ok l S ad1 ad2 _ _ _ _ ba G hn8 hL.al) ?_
  rintro v G1 (hle1 : Le G G1) rfl
  refine rn_ ?_; intros
  refine x_if rfl rfl rfl rfl (fun hend => ?_) (fun hend => ?_)
  · rw [hend, if_pos rfl] at hst
    rw [hst] at hQ
    refine rn_ ?_; intros
    refine x_retc rfl hQ hmb rfl (by rw [hty]; simp only [so, sq, zy, zz, tyE, SO', SQ', opQ, opStore, opAlloc, ev, putS, dOk, cv, SV.cs, SV.one, SV.bool?, eqB, Value.oneCell', ldOwn, binInt, binConst, binBool, binStr, isC, TK.agg, rv, rv1, ldV, resOne, resV, Nat.reduceAdd, Nat.reduceMul, Nat.reduceSub, Nat.reduceLT, Nat.reduceLeDiff, Nat.reduceEqDiff, Nat.reduceBEq, reduceIte, reduceCtorEq, eq_self]; try rfl) rfl ?_; simp only [SV.den, resV, dens]
    exact ⟨_, rfl, Rp.S_nil _ _⟩
  rw [hend, if_neg (by decide)] at hst
  refine rn_ ?_; intros
  obtain ⟨g, hg⟩ : ∃ g : Nat → Option (List Nat), g = fun i => match nextP m l s S i with
      | none => none
      | some t => (srch m l (fu - 1) t (S ++ [i])).map (i :: ·) := ⟨_, rfl⟩
  have hst2 : srch m l fu s S = ((List.range l.length).drop 0).findSome? g := by rw [hst, hg, List.drop_zero]; try rfl
  clear hst
  refine go_keep [1, 2, 3, 4, 18, 19] [0] ?_
  refine st_ ?_
  refine x_loop rfl (fun q st => ∃ (k : Nat) (G' : Hp), k ≤ l.length ∧ q = l.length - k ∧ Le G G' ∧ srch m l fu s S = ((List.range l.length).drop k).findSome? g ∧
    st = ⟨[(1, .v (.int .i64 l.length)), (2, .v (endV ba)), (3, .v (nextV bh bf bl)), (4, .p 0 b0 0), (18, .v (.int .i64 l.length)), (19, .v (.int .i64 k))],
      [(0, b0, .c 107 [.v (.slice ad1 s.vals.length cap1), .v (.slice ad2 s.ps.length cap2), .v (.int .u64 (msk S.contains l.length : Nat))])], G', []⟩) ⟨0, G1, by omega, rfl, hle1, hst2, rfl⟩ ?_
  clear hst2
  rintro q st ⟨k, G2, hk, hq, hle2, hsr, rfl⟩ ih
  refine rn_ ?_; intros
  refine x_if rfl rfl rfl rfl (fun hjl => ?_) (fun hjl => ?_)
  · have hlt : k < l.length := by simp at hjl; omega
    have hd : (List.range l.length).drop k = k :: (List.range l.length).drop (k + 1) := by
      rw [List.drop_eq_getElem_cons (by simpa using hlt)]; simp
    rw [hd, List.findSome?_cons] at hsr
    refine rn_ ?_; intros
    refine go_callw (cap := [.pointer (some ⟨bh, 0, none⟩), .pointer (some ⟨bf, 0, none⟩), .pointer (some ⟨bl, 0, none⟩)]) (by rw [hnt]; rfl) (by rw [hP]; kernel_rfl : canCall C.P 52 = true) rfl rfl rfl (hP ▸ next_ok m K mo pt f he l sl S s k _ _ bh bf bl G2 hn8 hlt (hs.mono hle2) hc (by omega) (by omega) hinv.wf hinv.vd (hL.mono hle2).lr hL.rg (hL.mono hle2).ah (hL.mono hle2).ef (hL.mono hle2).bl) ?_
    rintro v G3 (hle3 : Le G2 G3) hv
    rcases hnx : nextP m l s S k with _ | t
    · rw [hnx] at hv
      have hgk : g k = none := by rw [hg]; simp only [hnx]
      rw [hgk] at hsr
      simp only at hsr
      subst hv
      refine rn_ ?_; intros
      (refine x_split rfl rfl rfl (fun _ => ?_) (fun hc => absurd hc (by first | decide +kernel | (simp; first | done | fail))); refine st_ ?_; (refine ru_ ?_; intros))
      refine rn_ ?_; intros
      rw [wr (n := (k : Int) + 1) (by omega) (by omega)]
      refine go_keep [1, 2, 3, 4, 18, 19] [0] ?_
      refine st_ ?_
      exact ih (l.length - (k + 1)) _ (by omega) ⟨k + 1, G3, by omega, rfl, hle2.trans hle3, hsr, rfl⟩
    · rw [hnx] at hv
      obtain ⟨v1, v2, rfl, htr, htc⟩ := hv
      have hgk : g k = (srch m l (fu - 1) t (S ++ [k])).map (k :: ·) := by rw [hg]; simp only [hnx]
      obtain ⟨hkl, hnc, rfl⟩ := next_some hnx
      obtain ⟨a3, c3, e3⟩ := Rp.S_slice htr.v
      subst e3
      obtain ⟨a4, c4, e4⟩ := Rp.S_slice htr.p
      subst e4
      have hfl := free_lt hkl hnc
      have hdo := do_vd (m := m) (o := l[k]) hinv.vd (rgt_vld (hL.rg _ (List.getElem_mem hkl))).1 (rgt_vld (hL.rg _ (List.getElem_mem hkl))).2
      have hd1 := hdo.lv
      have hd2 := hdo.lp
      have hL3 := (hL.mono hle2).mono hle3
      simp only [plV]
      refine rn_ ?_; intros
      (refine x_split rfl rfl rfl (fun hc => absurd hc (by first | decide +kernel | (simp; first | done | fail))) (fun _ => ?_); refine st_ ?_; (refine ru_ ?_; intros))
      refine rn_ ?_; intros
      refine go_call (by rw [hnt]; rfl) (by rw [hP]; kernel_rfl) rfl (hP ▸ IH (fu - 1) (by omega) _ (S ++ [k]) _ _ G3 hL3 htr htc (inv_do hinv (by rw [← he.kn]; exact hL.rg _ (List.getElem_mem hkl))) (by omega) (by omega) (by omega) (by omega)) ?_
      rintro v G4 (hle4 : Le G3 G4) hv
      rcases hsrk : srch m l (fu - 1) (doP m s l[k]).1 (S ++ [k]) with _ | p
      · rw [hsrk] at hv hgk
        rw [hgk] at hsr
        simp only [Option.map_none] at hsr
        subst hv
        refine rn_ ?_; intros
        (refine x_split rfl rfl rfl (fun hc => absurd hc (by first | decide +kernel | (simp; first | done | fail))) (fun _ => ?_); refine st_ ?_; (refine ru_ ?_; intros))
        refine rn_ ?_; intros
        rw [wr (n := (k : Int) + 1) (by omega) (by omega)]
        refine go_keep [1, 2, 3, 4, 18, 19] [0] ?_
        refine st_ ?_
        exact ih (l.length - (k + 1)) _ (by omega) ⟨k + 1, G4, by omega, rfl, hle2.trans (hle3.trans hle4), hsr, rfl⟩
      · rw [hsrk] at hv hgk
        rw [hgk] at hsr
        simp only [Option.map_some] at hsr
        obtain ⟨slp, rfl, hpS⟩ := hv
        obtain ⟨hpl, hpi⟩ := srch_len hsrk
        rw [hsr] at hQ
        obtain ⟨ap, cp, e5⟩ := Rp.S_slice hpS
        rw [List.length_map] at e5
        subst e5
        obtain ⟨cs, hcs, hsrc⟩ := Rp.srcS hpS
        have hcl := Rp.L_len hcs
        have hco := Rp.L_one hcs
        have h1s : rI.size = 1 := rfl
        rw [h1s] at hcl
        simp only [List.length_map] at hcl hsrc
        have hp100 : p.length ≤ 100 := by omega
        refine rn_ ?_; intros
        (refine x_split rfl rfl rfl (fun _ => ?_) (fun hc => absurd hc (by first | decide +kernel | (simp; first | done | fail))); refine st_ ?_; (refine ru_ ?_; intros))
        refine rn_ ?_; intros
        refine go_litrow 2 (n := 1) (size := 1) rfl (by omega) rfl (by omega) ?_
        refine st_ ?_
        refine go_append_any 2 (by rw [hnt]; rfl) (by rw [hty]; rfl) (by rw [hty]; rfl) (by decide) rfl rfl rfl (by omega) rfl (hsrc.imp id fun f => f _ _ rfl) (by simpa using hcl) hco (by omega) (by simp only []; omega) ?_
        intro v1
        refine go_rowS 2 rfl ?_
        rintro a5 c5 rfl
        refine go_keep [43] [2] ?_
        refine st_ ?_
        refine go_pubL rI 2 rfl (by omega) (ts := (k :: p).map fun i : Nat => (i : Int)) (by simp; omega) (by omega) (by
          rw [List.map_cons]
          exact Rp.L_append (l := [(k : Int)]) (cs := [.int .i64 (k : Int)]) (by rw [rI_L]; exact ⟨rfl, fun n hn => by simp at hn; subst hn; simp only [isI64]; omega⟩) hcs) ?_
        intro G6 ad6 cap6 (hle6 : Le G4 G6) he6 hS6
        rw [← he6] at hS6
        refine st_ ?_
        refine rn_ ?_; intros
        refine x_retc rfl hQ hmb rfl (by rw [hty]; simp only [so, sq, zy, zz, tyE, SO', SQ', opQ, opStore, opAlloc, ev, putS, dOk, cv, SV.cs, SV.one, SV.bool?, eqB, Value.oneCell', ldOwn, binInt, binConst, binBool, binStr, isC, TK.agg, rv, rv1, ldV, resOne, resV, Nat.reduceAdd, Nat.reduceMul, Nat.reduceSub, Nat.reduceLT, Nat.reduceLeDiff, Nat.reduceEqDiff, Nat.reduceBEq, reduceIte, reduceCtorEq, eq_self]; try rfl) rfl ?_; simp only [SV.den, resV, dens]
        exact ⟨_, rfl, hS6⟩
  · have hge : k = l.length := by simp at hjl; omega
    subst hge
    rw [List.drop_eq_nil_of_le (by simp)] at hsr
    simp only [List.findSome?_nil] at hsr
    rw [hsr] at hQ
    refine rn_ ?_; intros
    refine x_retc rfl hQ hmb rfl (by rw [hty]; simp only [so, sq, zy, zz, tyE, SO', SQ', opQ, opStore, opAlloc, ev, putS, dOk, cv, SV.cs, SV.one, SV.bool?, eqB, Value.oneCell', ldOwn, binInt, binConst, binBool, binStr, isC, TK.agg, rv, rv1, ldV, resOne, resV, Nat.reduceAdd, Nat.reduceMul, Nat.reduceSub, Nat.reduceLT, Nat.reduceLeDiff, Nat.reduceEqDiff, Nat.reduceBEq, reduceIte, reduceCtorEq, eq_self]; try rfl) rfl ?_; simp only [SV.den, resV, dens]
    rfl
end Go.Proofs.Ytpmmbjcgabnloaa
namespace Go.Proofs.Ytpmmbjcgabnloaa
set_option linter.unusedSimpArgs false
set_option linter.unusedVariables false
open Go.Sx
def alM (l : List Op) (i : Nat) : Nat := msk (fun t => decide (t < i) && dnA l t) l.length
def rwN (l : List Op) (i j t : Nat) : Nat := if t < i then msk (ahA l t) l.length else if t = i then msk (fun k => decide (k < j) && ahA l i k) l.length else 0
def rwM (l : List Op) (i j : Nat) : List Value := (List.range 8).map fun t => .int .u64 (rwN l i j t : Nat)
theorem alM_zero (l : List Op) : alM l 0 = 0 := by rw [alM, msk_zero]; intro i _; simp
theorem alM_all (l : List Op) : alM l l.length = msk (dnA l) l.length := by rw [alM, msk_eq]; intro i hi; simp [hi]
theorem alM_step (l : List Op) (i : Nat) (hi : i < l.length) : alM l (i + 1) = if dnA l i then alM l i ||| 2 ^ i else alM l i := by
  split
  · rename_i h
    rw [alM, alM, ← msk_one hi, msk_or, msk_eq]
    intro t _
    by_cases ht : t = i
    · subst ht; simp [h]
    · by_cases h2 : t < i
      · simp [h2, show t < i + 1 by omega, ht]
      · simp [h2, show ¬ t < i + 1 by omega, ht]
  · rename_i h
    simp only [Bool.not_eq_true] at h
    rw [alM, alM, msk_eq]
    intro t _
    by_cases ht : t = i
    · subst ht; simp [h]
    · by_cases h2 : t < i
      · simp [h2, show t < i + 1 by omega]
      · simp [h2, show ¬ t < i + 1 by omega]
theorem rwN_zero (l : List Op) (t : Nat) : rwN l 0 0 t = 0 := by
  rw [rwN, if_neg (by omega)]
  split
  · rw [msk_zero]; intro i _; simp
  · rfl
theorem rwM_zero (l : List Op) : rwM l 0 0 = [.int .u64 0, .int .u64 0, .int .u64 0, .int .u64 0, .int .u64 0, .int .u64 0, .int .u64 0, .int .u64 0] := by
  rw [rwM]
  simp only [rwN_zero]
  rfl
theorem rwM_next (l : List Op) (i : Nat) : rwM l i l.length = rwM l (i + 1) 0 := by
  rw [rwM, rwM]
  apply List.map_congr_left
  intro t _
  congr 2
  rw [rwN, rwN]
  by_cases h1 : t < i
  · rw [if_pos h1, if_pos (by omega)]
  · rw [if_neg h1]
    by_cases h2 : t = i
    · subst h2
      rw [if_pos rfl, if_pos (by omega), msk_eq]
      intro k hk; simp [hk]
    · rw [if_neg h2, if_neg (by omega)]
      split
      · symm; rw [msk_zero]; intro k _; simp
      · rfl
theorem rwM_all (l : List Op) : rwM l l.length 0 = ahRow l := by
  rw [rwM, ahRow]
  apply List.map_congr_left
  intro t _
  congr 2
  rw [rwN]
  split
  · rfl
  · rename_i h
    have h0 : msk (ahA l t) l.length = 0 := by
      rw [msk_zero]
      intro k _
      rw [ahA, List.getElem?_eq_none (show l.length ≤ t by omega)]
      cases l[k]? <;> rfl
    rw [h0]
    split
    · rw [msk_zero]; intro k _; simp
    · rfl
theorem rwM_len (l : List Op) (i j : Nat) : (rwM l i j).length = 8 := by simp [rwM]
theorem rwM_get (l : List Op) (i j : Nat) (hi : i < 8) : (rwM l i j)[i]? = some (.int .u64 (msk (fun k => decide (k < j) && ahA l i k) l.length : Nat)) := by
  simp [rwM, rwN, hi]
theorem rw_step (l : List Op) (i j : Nat) (hj : j < l.length) : msk (fun k => decide (k < j + 1) && ahA l i k) l.length = if ahA l i j then msk (fun k => decide (k < j) && ahA l i k) l.length ||| 2 ^ j else msk (fun k => decide (k < j) && ahA l i k) l.length := by
  split
  · rename_i h
    rw [← msk_one hj, msk_or, msk_eq]
    intro t _
    by_cases ht : t = j
    · subst ht; simp [h]
    · by_cases h2 : t < j
      · simp [h2, show t < j + 1 by omega, ht]
      · simp [h2, show ¬ t < j + 1 by omega, ht]
  · rename_i h
    simp only [Bool.not_eq_true] at h
    rw [msk_eq]
    intro t _
    by_cases ht : t = j
    · subst ht; simp [h]
    · by_cases h2 : t < j
      · simp [h2, show t < j + 1 by omega]
      · simp [h2, show ¬ t < j + 1 by omega]
theorem rwM_put (l : List Op) (i j : Nat) (hi : i < 8) : (rwM l i j).take i ++ [.int .u64 (msk (fun k => decide (k < j + 1) && ahA l i k) l.length : Nat)] ++ (rwM l i j).drop (i + 1) = rwM l i (j + 1) := by
  have h8 := rwM_len l i j
  apply List.ext_getElem?
  intro t
  have hlen : ((rwM l i j).take i).length = i := by simp; omega
  have g : ∀ j : Nat, (rwM l i j)[t]? = if t < 8 then some (.int .u64 (rwN l i j t : Nat)) else none := fun j => by
    by_cases ht : t < 8
    · simp [rwM, ht]
    · simp [rwM, ht]
  rw [g (j + 1), List.append_assoc]
  by_cases h1 : t < i
  · rw [List.getElem?_append_left (by omega), List.getElem?_take, if_pos h1, g j, if_pos (by omega), if_pos (by omega), rwN, rwN, if_pos h1, if_pos h1]
  · rw [List.getElem?_append_right (by omega), hlen]
    by_cases h2 : t = i
    · subst h2
      rw [if_pos hi, rwN, if_neg (by omega), if_pos rfl]
      simp
    · rw [List.getElem?_append_right (by simp; omega)]
      simp only [List.length_singleton, List.getElem?_drop]
      rw [show i + 1 + (t - i - 1) = t by omega, g j, rwN, rwN, if_neg h1, if_neg h2, if_neg h1, if_neg h2]
theorem rwM_same (l : List Op) (i j : Nat) (hj : j < l.length) (h : ahA l i j = false) : rwM l i (j + 1) = rwM l i j := by
  rw [rwM, rwM]
  apply List.map_congr_left
  intro t _
  congr 2
  rw [rwN, rwN]
  split
  · rfl
  · split
    · rw [rw_step l i j hj, h]; rfl
    · rfl
end Go.Proofs.Ytpmmbjcgabnloaa
namespace Go.Sx
set_option linter.unusedSimpArgs false
set_option linter.unusedVariables false
open Go.RowKit
section
variable {C : Ctx} {K : List KI} {s : St}
theorem go_asO (k : Nat) {b : Nat} {e : TypeId} {cells : List SV} (hk : lk k s.own = some (b, .c e cells)) (h : SGo C K ⟨s.sl, stk k (b, .o (.cells (dens cells).toArray e)) s.own, s.G, s.df⟩) : SGo C K s := by
  intro a w hS
  refine h a w ⟨hS.sl, hS.nt, hS.df, ?_⟩
  obtain ⟨f1, f2⟩ := hS.mem.own _ _ _ hk
  simp only [OO.holds] at f1
  exact hS.mem.put hk rfl rfl rfl (Nat.le_refl _) (fun _ _ _ => rfl) f1 (fun g => ⟨fun hg => .inl hg, fun hg => .inl hg⟩)
theorem qsz_all (l : List Value) : QSz l.toArray 0 l.length 1 l := ⟨by simp, by simp, fun i hi => by simp⟩
theorem QSz.get {cur : Array Value} {cap size : Nat} {xs : List Value} {i : Nat} {v : Value} (h : QSz cur 0 cap size xs) (hi : xs[i]? = some v) : cur[i]? = some v := by
  have := h.2.2 i (List.getElem?_eq_some_iff.1 hi).1
  rw [Nat.zero_add] at this
  rw [this, hi]
end
end Go.Sx
namespace Go.Proofs.Ytpmmbjcgabnloaa
set_option linter.unusedSimpArgs false
set_option linter.unusedVariables false
open Go.Sx
set_option maxHeartbeats 8000000
set_option maxRecDepth 20000
def lnR (m : Int) (l : List Op) : List Nat × Bool × Int :=
  if kns m = 0 ∨ (l.all fun o => rgtO (kns m) o) = false then ([], false, 2) else
  if 8 < l.length then ([], false, 3) else
  match srch m l l.length ⟨[], []⟩ [] with
  | none => ([], false, 0)
  | some p => (p, true, 0)
def lnRet (r : List Nat × Bool × Int) (v : Value) (G : Hp) : Prop := ∃ sl, v = .tuple #[sl, .bool r.2.1, .int .i64 r.2.2] ∧ rI.S G (r.1.map fun i : Nat => (i : Int)) sl
theorem lnRes {sl : List (Nat × SV)} {own : List (Nat × Nat × OO)} {be bo bi : Nat} {ov : Value} {is : Bool} {e : Int} {T : TypeId → Option TI} (hT : T = ty) (h4 : lk 4 sl = some (.p 1 bo 0)) (h5 : lk 5 sl = some (.p 2 bi 0)) (h6 : lk 6 sl = some (.p 3 be 0))
    (o0 : lk 3 own = some (be, .c 32 [.v (.int .i64 e)])) (o1 : lk 1 own = some (bo, .c 57 [.v ov])) (o2 : lk 2 own = some (bi, .c 4 [.v (.bool is)])) :
    resAll sl T own Try.f21.results.toList = some [.v ov, .v (.bool is), .v (.int .i64 e)] := by
  have e : Try.f21.results.toList = [.cell 4 57, .cell 5 4, .cell 6 32] := rfl
  subst hT
  rw [e]
  simp only [resAll, resOne, h4, h5, h6, o0, o1, o2, if_true]
  refine st_ ?_
  simp only [o0, o1, o2, if_true]
  rfl
theorem lnRes3 (tmps : Array Value) (v : Value) (d : Nat) (h : d < 4 ∨ 6 < d) : results Try.f21 (tmps.setIfInBounds d v) = results Try.f21 tmps := by
  have e : Try.f21.results = #[.cell 4 57, .cell 5 4, .cell 6 32] := rfl
  simp only [results, e]
  have h4 : d ≠ 4 := by omega
  have h5 : d ≠ 5 := by omega
  have h6 : d ≠ 6 := by omega
  simp [Array.getElem?_setIfInBounds, h4, h5, h6]
theorem hLine_ok (m : Int) (l : List Op) (sl : Value) (G : Hp) (hl : rO.S G l sl) : Pure Try.prog 21 [.int .i64 m, sl] G (lnRet (lnR m l)) := by
  have hl63 := Rp.S_len hl
  obtain ⟨adl, capl, rfl⟩ := Rp.S_slice hl
  refine enterDf ty tyok Try.func21 rfl Try.ntmps21 [.v (.int .i64 m), .v (.slice adl l.length capl)] (by simp) ?_
  intro C hP hQ hnt hty hmb hmh hro; refine st_ ?_
  refine rn_ ?_; intros
  refine go_defer hro (by rw [hnt]; rfl) rfl rfl ?_
  refine rn_ ?_; intros
  rename_i bl bo bi be
  have hQD : ∀ d, d < 4 ∨ 6 < d → QPd C (some d) := fun d h => qpd_bodyD hQ fun tmps v => lnRes3 tmps v d h
  refine go_call (by rw [hnt]; rfl) (by rw [hP]; kernel_rfl) rfl (hP ▸ effects_ok G) ?_
  rintro v G1 (hle1 : Le G G1) ⟨mp, rfl, hmp⟩
  refine rn_ ?_; intros
  rcases eff_of m with ⟨hk0, hg0⟩ | ⟨K, mo, pt, f, he⟩
  · refine go_q (v := .tuple #[.agg #[.int .i64 0, .int .i64 0, .bool false, .nilFunc], .bool false]) (by rw [hnt]; rfl) ((quiet_lookupG (ok := true) (z := .agg #[.int .i64 0, .int .i64 0, .bool false, .nilFunc]) (by rw [hty]; rfl) (by rw [hty]; rfl) (by rw [hP]; exact ⟨_, (by kernel_rfl : Try.prog.info? 89 = some Try.t89), rfl⟩) rfl rfl hmp).cast (by rw [hg0]; rfl)) ?_
    refine rn_ ?_; intros
    refine go_callWP [] (ow := []) (by rw [hnt]; rfl) rfl (by rw [hP]; kernel_rfl) rfl rfl rfl (.inl (by intro k hk; cases hk)) (hP ▸ need_ok false 2 G1) ?_ ?_
    · rintro v G' ow' _ ⟨h, _⟩
      cases h
    rintro v ⟨rfl, _⟩
    have e : lnR m l = ([], false, 2) := by rw [lnR, if_pos (.inl hk0)]
    refine x_panD hQ hmb rfl (by rw [hP]; kernel_rfl) (ks := [3, 1, 2]) (ow := lnC be bo bi 0 _ _) rfl rfl (.inl (by intro k hk; omega)) (hP ▸ lnClo_catch be bo bi _ _ 0 2 (by omega) _) ?_
    rintro u' G' ow' _ ⟨hs', rfl⟩
    refine ⟨hs', _, lnRes hty rfl rfl rfl rfl rfl rfl, ?_⟩
    rw [e]
    exact ⟨_, rfl, Rp.S_nil _ _⟩
  · have hK := he.kn
    have hk0 : kns m ≠ 0 := by
      intro h0
      rcases he.fit with ⟨_, _, h | h⟩ | ⟨_, _, h⟩ | ⟨_, _, h⟩ <;> subst h <;> simp [kns] at h0
    refine go_q (v := .tuple #[effV K mo pt f, .bool true]) (by rw [hnt]; rfl) ((quiet_lookupG (ok := true) (z := .agg #[.int .i64 0, .int .i64 0, .bool false, .nilFunc]) (by rw [hty]; rfl) (by rw [hty]; rfl) (by rw [hP]; exact ⟨_, (by kernel_rfl : Try.prog.info? 89 = some Try.t89), rfl⟩) rfl rfl hmp).cast (by rw [he.get]; rfl)) ?_
    simp only [effV]
    refine rn_ ?_; intros
    refine go_callWP [] (ow := []) (by rw [hnt]; rfl) rfl (by rw [hP]; kernel_rfl) rfl rfl rfl (.inl (by intro k hk; cases hk)) (hP ▸ need_ok true 2 G1) ?_ ?_
    rotate_left
    · rintro v ⟨_, h⟩
      cases h
    rintro v G2 ow' (hle2 : Le G1 G2) ⟨_, rfl⟩
    simp only [setO]
    rename_i bf _
    refine go_keep [3, 4, 5, 6, 7] [0, 1, 2, 3, 4] ?_
    refine st_ ?_
    clear v
    refine rn_ ?_; intros
    refine x_loop rfl (fun q st => ∃ (k : Nat) (G' : Hp), k ≤ l.length ∧ q = l.length - k ∧ Le G G' ∧ (∀ o ∈ l.take k, rgtO K o = true) ∧
      st = ⟨[(3, .p 0 bl 0), (4, .p 1 bo 0), (5, .p 2 bi 0), (6, .p 3 be 0), (7, .p 4 bf 0), (25, .v (.slice adl l.length capl)), (26, .v (.int .i64 l.length)), (27, .v (.int .i64 k))],
        [(0, bl, .c 31 [.v (.slice adl l.length capl)]), (1, bo, .c 57 [.v (.slice none 0 0)]), (2, bi, .c 4 [.v (.bool true)]), (3, be, .c 32 [.v (.int .i64 0)]),
         (4, bf, .c 89 [.v (.int .i64 K), .v (.int .i64 mo), .v (.bool pt), .v (.func (.func f) #[] #[])])], G', [dfn 49 (lnCap be bo bi)]⟩) ⟨0, G2, by omega, rfl, hle1.trans hle2, fun o ho => by simp at ho, rfl⟩ ?_
    rintro q st ⟨k, G3, hk, hq, hle3, hrg, rfl⟩ ih
    refine rn_ ?_; intros
    refine x_if rfl rfl rfl rfl (fun hjl => ?_) (fun hjl => ?_)
    · have hlt : k < l.length := by simp at hjl; omega
      obtain ⟨c1, o1, sa, sr, rfl, hat, hor⟩ := rO_at hl hlt
      obtain ⟨asa, csa, rfl⟩ := VT.rep_slice hor.a
      obtain ⟨asr, csr, rfl⟩ := VT.rep_slice hor.r
      refine rn_ ?_; intros
      refine go_q (by rw [hnt]; rfl) (quiet_index (by rw [hty]; rfl) (by rw [hty]; rfl) rfl rfl rfl (by omega) (by omega)) ?_
      refine rn_ ?_; intros
      refine go_q (v := .agg (opL l[k] (.slice asa l[k].arg.l.length csa) (.slice asr l[k].res.l.length csr)).toArray) (by rw [hnt]; rfl) ((quiet_load (by rw [hty]; rfl) rfl (fun q => by cases q) (by simpa only [Int.toNat_natCast] using hat.mono hle3) rfl).cast (by simp only [ldV]; rfl)) ?_
      simp only [opL]
      refine rn_ ?_; intros
      refine go_callf (by rw [hnt]; rfl) (by rw [hP]; kernel_rfl) rfl (hP ▸ valid_ok2 K mo pt _ l[k] _ _ G3 rfl (hor.mono hle3)) ?_; refine rn_ ?_; intros
      cases hv : rgtO K l[k]
      · refine go_callWP [] (ow := []) (by rw [hnt]; rfl) rfl (by rw [hP]; kernel_rfl) rfl rfl rfl (.inl (by intro k hk; cases hk)) (hP ▸ need_ok _ 2 G3) ?_ ?_
        · rintro v G' ow' _ ⟨h, _⟩
          cases h
        rintro v ⟨rfl, _⟩
        have e : lnR m l = ([], false, 2) := by
          rw [lnR, if_pos]
          right
          rw [← hK, List.all_eq_false]
          exact ⟨l[k], List.getElem_mem _, by rw [hv]; decide⟩
        refine x_panD hQ hmb rfl (by rw [hP]; kernel_rfl) (ks := [3, 1, 2]) (ow := lnC be bo bi 0 _ _) rfl rfl (.inl (by intro k hk; omega)) (hP ▸ lnClo_catch be bo bi _ _ 0 2 (by omega) _) ?_
        rintro u' G' ow' _ ⟨hs', rfl⟩
        refine ⟨hs', _, lnRes hty rfl rfl rfl rfl rfl rfl, ?_⟩
        rw [e]
        exact ⟨_, rfl, Rp.S_nil _ _⟩
      refine go_callWP [] (ow := []) (by rw [hnt]; rfl) rfl (by rw [hP]; kernel_rfl) rfl rfl rfl (.inl (by intro k hk; cases hk)) (hP ▸ need_ok true 2 G3) ?_ ?_
      rotate_left
      · rintro v ⟨_, h⟩
        cases h
      rintro v G4 ow' (hle4 : Le G3 G4) ⟨_, rfl⟩
      simp only [setO]
      refine go_keep [3, 4, 5, 6, 7, 25, 26, 27] [0, 1, 2, 3, 4] ?_
      refine st_ ?_
      clear v
      refine rn_ ?_; intros
      rw [wr (n := (k : Int) + 1) (by omega) (by omega)]
      refine go_keep [3, 4, 5, 6, 7, 25, 26, 27] [0, 1, 2, 3, 4] ?_
      refine st_ ?_
      refine ih (l.length - (k + 1)) _ (by omega) ⟨k + 1, G4, by omega, rfl, hle3.trans hle4, fun o ho => ?_, rfl⟩
      rw [← List.take_append_getElem hlt] at ho
      rcases List.mem_append.1 ho with ho | ho
      · exact hrg o ho
      · simp at ho; subst ho; exact hv
    have hge : k = l.length := by simp at hjl; omega
    subst hge
    rw [List.take_length] at hrg
    have hall : (l.all fun o => rgtO (kns m) o) = true := by rw [List.all_eq_true, ← hK]; exact hrg
    have hr0 : lnR m l = if 8 < l.length then (([], false, 3) : List Nat × Bool × Int) else match srch m l l.length ⟨[], []⟩ [] with
      | none => ([], false, 0)
      | some p => (p, true, 0) := by rw [lnR, if_neg (by rw [hall]; simp [hk0])]
    clear ih hjl hq hk
    refine rn_ ?_; intros
    by_cases h8 : 8 < l.length
    · rw [if_pos h8] at hr0
      refine go_callWP [] (ow := []) (by rw [hnt]; rfl) rfl (by rw [hP]; kernel_rfl) rfl rfl rfl (.inl (by intro k hk; cases hk)) (hP ▸ need_ok _ 3 G3) ?_ ?_
      · rintro v G' ow' _ ⟨h, _⟩
        rw [decide_eq_true_eq] at h; omega
      rintro v ⟨rfl, _⟩
      refine x_panD hQ hmb rfl (by rw [hP]; kernel_rfl) (ks := [3, 1, 2]) (ow := lnC be bo bi 0 _ _) rfl rfl (.inl (by intro k hk; omega)) (hP ▸ lnClo_catch be bo bi _ _ 0 3 (by omega) _) ?_
      rintro u' G' ow' _ ⟨hs', rfl⟩
      refine ⟨hs', _, lnRes hty rfl rfl rfl rfl rfl rfl, ?_⟩
      rw [hr0]
      exact ⟨_, rfl, Rp.S_nil _ _⟩
    rw [if_neg h8] at hr0
    refine go_callWP [] (ow := []) (by rw [hnt]; rfl) rfl (by rw [hP]; kernel_rfl) rfl rfl rfl (.inl (by intro k hk; cases hk)) (hP ▸ need_ok _ 3 G3) ?_ ?_
    rotate_left
    · rintro v ⟨_, h⟩
      rw [decide_eq_false_iff_not] at h; omega
    rintro v G4 ow' (hle4 : Le G3 G4) ⟨_, rfl⟩
    simp only [setO]
    refine go_keep [3, 4, 5, 6, 7] [0, 1, 2, 3, 4] ?_
    refine st_ ?_
    clear v
    refine rn_ ?_; intros
    rename_i ba bh
    refine go_asO 6 rfl ?_
    refine st_ ?_
    have hn8 : l.length ≤ 8 := by omega
    have hn8' : l.length ≤ 64 := by omega
    have hle04 : Le G G4 := hle3.trans hle4
    refine x_loop rfl (fun q st => ∃ (i : Nat) (G' : Hp) (cur : Array Value), i ≤ l.length ∧ q = l.length - i ∧ Le G G' ∧ QSz cur 0 8 1 (rwM l i 0) ∧
      st = ⟨[(3, .p 0 bl 0), (4, .p 1 bo 0), (5, .p 2 bi 0), (6, .p 3 be 0), (7, .p 4 bf 0), (10, .p 5 ba 0), (11, .p 6 bh 0), (40, .v (.slice adl l.length capl)), (41, .v (.int .i64 l.length)), (42, .v (.int .i64 i))], [(0, bl, .c 31 [.v (.slice adl l.length capl)]), (1, bo, .c 57 [.v (.slice none 0 0)]), (2, bi, .c 4 [.v (.bool true)]), (3, be, .c 32 [.v (.int .i64 0)]), (4, bf, .c 89 [.v (.int .i64 K), .v (.int .i64 mo), .v (.bool pt), .v (.func (.func f) #[] #[])]), (5, ba, .c 102 [.v (.int .u64 (alM l i : Nat))]), (6, bh, .o (.cells cur 103))], G', [dfn 49 (lnCap be bo bi)]⟩) ⟨0, G4, _, by omega, rfl, hle04, by rw [rwM_zero]; exact qsz_all [.int .u64 0, .int .u64 0, .int .u64 0, .int .u64 0, .int .u64 0, .int .u64 0, .int .u64 0, .int .u64 0], by rw [alM_zero]; rfl⟩ ?_
    rintro q st ⟨i, G5, cur, hi, hq, hle5, hqs, rfl⟩ ih
    refine rn_ ?_; intros
    refine x_if rfl rfl rfl rfl (fun hjl => ?_) (fun hjl => ?_)
    · have hlt : i < l.length := by simp at hjl; omega
      obtain ⟨c1, o1, sa, sr, rfl, hat, hor⟩ := rO_at hl hlt
      obtain ⟨asa, csa, rfl⟩ := VT.rep_slice hor.a
      obtain ⟨asr, csr, rfl⟩ := VT.rep_slice hor.r
      refine rn_ ?_; intros
      refine go_q (by rw [hnt]; rfl) (quiet_index (by rw [hty]; rfl) (by rw [hty]; rfl) rfl rfl rfl (by omega) (by omega)) ?_
      refine rn_ ?_; intros
      refine go_q (v := .agg (opL l[i] (.slice asa l[i].arg.l.length csa) (.slice asr l[i].res.l.length csr)).toArray) (by rw [hnt]; rfl) ((quiet_load (by rw [hty]; rfl) rfl (fun q => by cases q) (by simpa only [Int.toNat_natCast] using hat.mono hle5) rfl).cast (by simp only [ldV]; rfl)) ?_
      simp only [opL]
      refine rn_ ?_; intros
      rename_i bx
      have hdA : dnA l i = l[i].dn := by rw [dnA, List.getElem?_eq_getElem hlt]
      have hst := alM_step l i hlt
      have hb1 : alM l i < 2 ^ 64 := lt64 (msk_lt _ _) hn8'
      have hb2 : 2 ^ i < 2 ^ 64 := Nat.pow_lt_pow_right (by omega) (by omega)
      refine cut_tail 1 (fun s' => s' = ⟨[(3, .p 0 bl 0), (4, .p 1 bo 0), (5, .p 2 bi 0), (6, .p 3 be 0), (7, .p 4 bf 0), (10, .p 5 ba 0), (11, .p 6 bh 0), (40, .v (.slice (some ⟨c1, o1, none⟩) l.length capl)), (41, .v (.int .i64 l.length)), (42, .v (.int .i64 i)), (13, .p 7 bx 0), (12, .v (.int .i64 i))], [(0, bl, .c 31 [.v (.slice (some ⟨c1, o1, none⟩) l.length capl)]), (1, bo, .c 57 [.v (.slice none 0 0)]), (2, bi, .c 4 [.v (.bool true)]), (3, be, .c 32 [.v (.int .i64 0)]), (4, bf, .c 89 [.v (.int .i64 K), .v (.int .i64 mo), .v (.bool pt), .v (.func (.func f) #[] #[])]), (5, ba, .c 102 [.v (.int .u64 (alM l (i + 1) : Nat))]), (6, bh, .o (.cells cur 103)), (7, bx, .c 40 [.v (.int .i64 l[i].th), .v (.int .i64 l[i].kd), .v (.int .i64 l[i].arg.k), .v (.int .i64 l[i].arg.n), .v (.slice asa l[i].arg.l.length csa), .v (.int .i64 l[i].res.k), .v (.int .i64 l[i].res.n), .v (.slice asr l[i].res.l.length csr), .v (.int .i64 l[i].fr), .v (.int .i64 l[i].to), .v (.bool l[i].dn)])], G5, [dfn 49 (lnCap be bo bi)]⟩) ?_ ?_
      rotate_left
      · intro key
        simp only [List.drop_succ_cons, List.drop_zero] at key
        refine x_if rfl rfl rfl rfl (fun hdn => ?_) (fun hdn => ?_)
        · rw [hdA, hdn, if_pos rfl] at hst
          rw [hst] at key
          refine rn_ ?_; intros
          refine x_heldP [(5, ba, .c 102 [.v (.int .u64 (alM l i : Nat))])] 4 rfl (by rw [hP]; kernel_rfl) rfl rfl rfl ?_; refine st_ ?_
          refine hu_take 0 rfl (by kernel_rfl) (by kernel_rfl) (by kernel_rfl) (by kernel_rfl) rfl (hQD _ (by decide)) (by rw [hnt]; rfl) (allIn (by repeat (first | exact trivial | refine ⟨rfl, ?_⟩))) (by first | exact Le.refl _ | assumption) (quiet_op (by rw [hty]; first | rfl | (refine st_ ?_; rfl))) ?_; refine st_ ?_
          refine hu_take 1 rfl (by kernel_rfl) (by kernel_rfl) (by kernel_rfl) (by kernel_rfl) rfl (hQD _ (by decide)) (by rw [hnt]; rfl) (allIn (by repeat (first | exact trivial | refine ⟨rfl, ?_⟩))) (by first | exact Le.refl _ | assumption) (quiet_op (by rw [hty]; first | rfl | (refine st_ ?_; rfl))) ?_; refine st_ ?_
          refine hu_take 2 rfl (by kernel_rfl) (by kernel_rfl) (by kernel_rfl) (by kernel_rfl) rfl (hQD _ (by decide)) (by rw [hnt]; rfl) (allIn (by repeat (first | exact trivial | refine ⟨rfl, ?_⟩))) (by first | exact Le.refl _ | assumption) (x := .v (.int .u64 ((2 ^ i : Nat) : Int))) ((quiet_bin rfl rfl rfl rfl (shl_ok (by omega))).cast (by rw [u64shl i (by omega)]; rfl)) ?_
          refine st_ ?_
          refine hu_take 3 rfl (by kernel_rfl) (by kernel_rfl) (by kernel_rfl) (by kernel_rfl) rfl (hQD _ (by decide)) (by rw [hnt]; rfl) (allIn (by repeat (first | exact trivial | refine ⟨rfl, ?_⟩))) (by first | exact Le.refl _ | assumption) (x := .v (.int .u64 ((alM l i ||| 2 ^ i : Nat) : Int))) ((quiet_bin rfl rfl rfl rfl rfl).cast (by rw [u64or _ _ hb1 hb2]; rfl)) ?_
          refine st_ ?_
          refine hu_last 4 [] rfl (by kernel_rfl) rfl ?_
          refine rn_ ?_; intros
          refine h_end (by kernel_rfl) ?_
          refine go_keep [3, 4, 5, 6, 7, 10, 11, 40, 41, 42, 13, 12] [0, 1, 2, 3, 4, 5, 6, 7] ?_
          refine st_ ?_
          exact key _ rfl
        · rw [hdA, hdn, if_neg (by decide)] at hst
          rw [hst] at key
          refine x_skip rfl ?_
          refine go_keep [3, 4, 5, 6, 7, 10, 11, 40, 41, 42, 13, 12] [0, 1, 2, 3, 4, 5, 6, 7] ?_
          refine st_ ?_
          exact key _ rfl
      rintro s' rfl
      simp only [List.drop_succ_cons, List.drop_zero]
      refine rn_ ?_; intros
      refine x_loop rfl (fun q st => ∃ (j : Nat) (G' : Hp) (cur' : Array Value), j ≤ l.length ∧ q = l.length - j ∧ Le G5 G' ∧ QSz cur' 0 8 1 (rwM l i j) ∧
        st = ⟨[(3, .p 0 bl 0), (4, .p 1 bo 0), (5, .p 2 bi 0), (6, .p 3 be 0), (7, .p 4 bf 0), (10, .p 5 ba 0), (11, .p 6 bh 0), (40, .v (.slice (some ⟨c1, o1, none⟩) l.length capl)), (41, .v (.int .i64 l.length)), (42, .v (.int .i64 i)), (13, .p 7 bx 0), (12, .v (.int .i64 i)), (53, .v (.slice (some ⟨c1, o1, none⟩) l.length capl)), (54, .v (.int .i64 l.length)), (55, .v (.int .i64 j))], [(0, bl, .c 31 [.v (.slice (some ⟨c1, o1, none⟩) l.length capl)]), (1, bo, .c 57 [.v (.slice none 0 0)]), (2, bi, .c 4 [.v (.bool true)]), (3, be, .c 32 [.v (.int .i64 0)]), (4, bf, .c 89 [.v (.int .i64 K), .v (.int .i64 mo), .v (.bool pt), .v (.func (.func f) #[] #[])]), (5, ba, .c 102 [.v (.int .u64 (alM l (i + 1) : Nat))]), (6, bh, .o (.cells cur' 103)), (7, bx, .c 40 [.v (.int .i64 l[i].th), .v (.int .i64 l[i].kd), .v (.int .i64 l[i].arg.k), .v (.int .i64 l[i].arg.n), .v (.slice asa l[i].arg.l.length csa), .v (.int .i64 l[i].res.k), .v (.int .i64 l[i].res.n), .v (.slice asr l[i].res.l.length csr), .v (.int .i64 l[i].fr), .v (.int .i64 l[i].to), .v (.bool l[i].dn)])], G', [dfn 49 (lnCap be bo bi)]⟩) ⟨0, G5, cur, by omega, rfl, Le.refl _, hqs, rfl⟩ ?_
      clear hqs
      rintro q2 st ⟨j, G6, cur', hj, hq2, hle6, hqs, rfl⟩ ih2
      refine rn_ ?_; intros
      refine x_if rfl rfl rfl rfl (fun hjl2 => ?_) (fun hjl2 => ?_)
      · have hltj : j < l.length := by simp at hjl2; omega
        obtain ⟨c2, o2, sa2, sr2, hcc, hat2, hor2⟩ := rO_at hl hltj
        cases hcc
        obtain ⟨asa2, csa2, rfl⟩ := VT.rep_slice hor2.a
        obtain ⟨asr2, csr2, rfl⟩ := VT.rep_slice hor2.r
        have hle06 := hle5.trans hle6
        refine rn_ ?_; intros
        refine go_q (by rw [hnt]; rfl) (quiet_index (by rw [hty]; rfl) (by rw [hty]; rfl) rfl rfl rfl (by omega) (by omega)) ?_
        refine rn_ ?_; intros
        refine go_q (v := .agg (opL l[j] (.slice asa2 l[j].arg.l.length csa2) (.slice asr2 l[j].res.l.length csr2)).toArray) (by rw [hnt]; rfl) ((quiet_load (by rw [hty]; rfl) rfl (fun q => by cases q) (by simpa only [Int.toNat_natCast] using hat2.mono hle06) rfl).cast (by simp only [ldV]; rfl)) ?_
        simp only [opL]
        refine rn_ ?_; intros
        refine go_callf (by rw [hnt]; rfl) (by rw [hP]; kernel_rfl) rfl (hP ▸ ahead_ok l[j] l[i] _ _ _ _ G6 (hor2.mono hle06) (hor.mono hle06)) ?_; refine rn_ ?_; intros
        have hahA : ahA l i j = ahd l[j] l[i] := by rw [ahA, List.getElem?_eq_getElem hlt, List.getElem?_eq_getElem hltj]
        have hrs := rw_step l i j hltj
        have hbm : msk (fun k => decide (k < j) && ahA l i k) l.length < 2 ^ 64 := lt64 (msk_lt _ _) hn8'
        have hbj : 2 ^ j < 2 ^ 64 := Nat.pow_lt_pow_right (by omega) (by omega)
        refine x_if rfl rfl rfl rfl (fun hah => ?_) (fun hah => ?_)
        · rw [hahA, hah, if_pos rfl] at hrs
          refine rn_ ?_; intros
          refine x_heldP [(6, bh, .o (.cells cur' 103))] 7 rfl (by rw [hP]; kernel_rfl) rfl rfl rfl ?_; refine st_ ?_
          refine hu_take 0 rfl (by kernel_rfl) (by kernel_rfl) (by kernel_rfl) (by kernel_rfl) rfl (hQD _ (by decide)) (by rw [hnt]; rfl) (allIn (by repeat (first | exact trivial | refine ⟨rfl, ?_⟩))) (by first | exact Le.refl _ | assumption) (quiet_op (by rw [hty]; first | rfl | (refine st_ ?_; rfl))) ?_; refine st_ ?_
          refine hu_take 1 rfl (by kernel_rfl) (by kernel_rfl) (by kernel_rfl) (by kernel_rfl) rfl (hQD _ (by decide)) (by rw [hnt]; rfl) (allIn (by repeat (first | exact trivial | refine ⟨rfl, ?_⟩))) (by first | exact Le.refl _ | assumption) (x := .v (.pointer (some ⟨bh, i, none⟩))) ((quiet_indexA (by rw [hty]; rfl) (by rw [hty]; rfl) rfl rfl rfl (by omega) (by omega)).cast (by simp [SV.den])) ?_
          refine st_ ?_
          refine hu_take 2 rfl (by kernel_rfl) (by kernel_rfl) (by kernel_rfl) (by kernel_rfl) rfl (hQD _ (by decide)) (by rw [hnt]; rfl) (allIn (by repeat (first | exact trivial | refine ⟨rfl, ?_⟩))) (by first | exact Le.refl _ | assumption) (x := .v (.int .u64 (msk (fun k => decide (k < j) && ahA l i k) l.length : Nat))) (quiet_loadO 6 (by rw [hty]; rfl) rfl rfl rfl rfl (hqs.get (rwM_get l i j (by omega)))) ?_
          refine st_ ?_
          refine hu_take 3 rfl (by kernel_rfl) (by kernel_rfl) (by kernel_rfl) (by kernel_rfl) rfl (hQD _ (by decide)) (by rw [hnt]; rfl) (allIn (by repeat (first | exact trivial | refine ⟨rfl, ?_⟩))) (by first | exact Le.refl _ | assumption) (quiet_op (by rw [hty]; first | rfl | (refine st_ ?_; rfl))) ?_; refine st_ ?_
          refine hu_take 4 rfl (by kernel_rfl) (by kernel_rfl) (by kernel_rfl) (by kernel_rfl) rfl (hQD _ (by decide)) (by rw [hnt]; rfl) (allIn (by repeat (first | exact trivial | refine ⟨rfl, ?_⟩))) (by first | exact Le.refl _ | assumption) (x := .v (.int .u64 ((2 ^ j : Nat) : Int))) ((quiet_bin rfl rfl rfl rfl (shl_ok (by omega))).cast (by rw [u64shl j (by omega)]; rfl)) ?_
          refine st_ ?_
          refine hu_take 5 rfl (by kernel_rfl) (by kernel_rfl) (by kernel_rfl) (by kernel_rfl) rfl (hQD _ (by decide)) (by rw [hnt]; rfl) (allIn (by repeat (first | exact trivial | refine ⟨rfl, ?_⟩))) (by first | exact Le.refl _ | assumption) (x := .v (.int .u64 (msk (fun k => decide (k < j + 1) && ahA l i k) l.length : Nat))) ((quiet_bin rfl rfl rfl rfl rfl).cast (by rw [u64or _ _ hbm hbj, hrs]; rfl)) ?_
          refine st_ ?_
          refine hu_take 6 rfl (by kernel_rfl) (by kernel_rfl) (by kernel_rfl) (by kernel_rfl) rfl (hQD _ (by decide)) (by rw [hnt]; rfl) (allIn (by repeat (first | exact trivial | refine ⟨rfl, ?_⟩))) (by first | exact Le.refl _ | assumption) (x := .v (.pointer (some ⟨bh, i, none⟩))) ((quiet_indexA (by rw [hty]; rfl) (by rw [hty]; rfl) rfl rfl rfl (by omega) (by omega)).cast (by simp [SV.den])) ?_
          refine st_ ?_
          refine hu_last 7 [] rfl (by kernel_rfl) rfl ?_
          refine go_storeQ 6 (m := i) (by rw [hnt]; rfl) (by rw [hty]; rfl) rfl rfl rfl rfl rfl rfl hqs (by omega) (by rw [rwM_len]; simp; omega) ?_
          intro cur2 hqs2
          simp only [dens, SV.den, List.length_singleton] at hqs2
          rw [rwM_put l i j (by omega)] at hqs2
          refine rn_ ?_; intros
          refine h_end (by kernel_rfl) ?_
          refine rn_ ?_; intros
          rw [wr (n := (j : Int) + 1) (by omega) (by omega)]
          refine go_keep [3, 4, 5, 6, 7, 10, 11, 40, 41, 42, 13, 12, 53, 54, 55] [0, 1, 2, 3, 4, 5, 6, 7] ?_
          refine st_ ?_
          exact ih2 (l.length - (j + 1)) _ (by omega) ⟨j + 1, G6, cur2, by omega, rfl, hle6, hqs2, rfl⟩
        · rw [← rwM_same l i j hltj (by rw [hahA, hah])] at hqs
          refine x_skip rfl ?_
          refine rn_ ?_; intros
          rw [wr (n := (j : Int) + 1) (by omega) (by omega)]
          refine go_keep [3, 4, 5, 6, 7, 10, 11, 40, 41, 42, 13, 12, 53, 54, 55] [0, 1, 2, 3, 4, 5, 6, 7] ?_
          refine st_ ?_
          exact ih2 (l.length - (j + 1)) _ (by omega) ⟨j + 1, G6, cur', by omega, rfl, hle6, hqs, rfl⟩
      · have hge : j = l.length := by simp at hjl2; omega
        subst hge
        rw [rwM_next] at hqs
        refine rn_ ?_; intros
        rw [wr (n := (i : Int) + 1) (by omega) (by omega)]
        refine go_keep [3, 4, 5, 6, 7, 10, 11, 40, 41, 42] [0, 1, 2, 3, 4, 5, 6] ?_
        refine st_ ?_
        exact ih (l.length - (i + 1)) _ (by omega) ⟨i + 1, G6, cur', by omega, rfl, hle5.trans hle6, hqs, rfl⟩
    · have hge : i = l.length := by simp at hjl; omega
      subst hge
      rw [rwM_all] at hqs
      rw [alM_all]
      clear ih hjl hq hi
      refine rn_ ?_; intros
      refine go_keep [4, 5, 6, 73, 75, 76, 77] [0, 1, 2, 3, 4, 5, 6] ?_
      refine st_ ?_
      refine go_pub 5 rfl (by omega) ?_
      intro G6 (hle6 : Le G5 G6) hGa
      have hata := at_block hGa
      simp only [dens, SV.den] at hata
      refine st_ ?_
      refine go_pub 0 rfl (by omega) ?_
      intro G7 (hle7 : Le G6 G7) hGl
      have hatl := at_block hGl
      simp only [dens, SV.den] at hatl
      refine st_ ?_
      refine go_pub 4 rfl (by omega) ?_
      intro G8 (hle8 : Le G7 G8) hGf
      have hatf := at_block hGf
      simp only [dens, SV.den] at hatf
      refine st_ ?_
      refine go_pubx 6 (g := bh) rfl (by omega) rfl (fun w h => h) ?_
      intro G9 (hle9 : Le G8 G9) hGh
      have hath : At G9 bh 0 (ahRow l) := ⟨cur, _, _, hGh, by have := hqs.1; simp [ahRow]; omega, fun i hi => hqs.2.2 i hi⟩
      refine st_ ?_
      have hL : LineOk m K mo pt f l (.slice adl l.length capl) ba bh bf bl G9 := ⟨hn8, Rp.S_mono (hle5.trans (hle6.trans (hle7.trans (hle8.trans hle9)))) hl, hrg, hata.mono (hle7.trans (hle8.trans hle9)), hath, hatf.mono hle9, hatl.mono (hle8.trans hle9)⟩
      have hfr : freeP l.length [] ≤ l.length := Nat.le_trans List.countP_le_length (by simp)
      have hsr := search_ok m K mo pt f he l (.slice adl l.length capl) ba bh bf bl l.length ⟨[], []⟩ [] (.slice none 0 0) (.slice none 0 0) G9 hL ⟨Rp.S_nil _ _, Rp.S_nil _ _⟩ (fun ad n c h => by cases h; omega) ⟨⟨fun x h => (by cases h), fun x h => (by cases h)⟩, fun x h => (by cases h), fun _ => rfl⟩ (by simp only [List.length_nil]; omega) (by simp only [List.length_nil]; omega) hfr (by omega)
      have hm0 : msk ([] : List Nat).contains l.length = 0 := by rw [msk_zero]; intro i _; rfl
      rw [hm0] at hsr
      refine go_call (by rw [hnt]; rfl) (by rw [hP]; kernel_rfl) rfl (hP ▸ hsr) ?_
      rintro v G10 (hle10 : Le G9 G10) hv
      rcases hsrch : srch m l l.length ⟨[], []⟩ [] with _ | p
      · rw [hsrch] at hv hr0
        simp only at hr0
        subst hv
        refine rn_ ?_; intros
        refine x_held [(1, bo, .c 57 [.v (.slice none 0 0)]), (2, bi, .c 4 [.v (.bool false)])] rfl (by rw [hP]; kernel_rfl) rfl rfl rfl ?_; refine st_ ?_
        refine h_takeD 0 rfl (by kernel_rfl) (by kernel_rfl) (by kernel_rfl) (hQD _ (by decide)) (by rw [hnt]; rfl) (allIn (by repeat (first | exact trivial | refine ⟨rfl, ?_⟩))) (by first | exact Le.refl _ | assumption) (quiet_op (by rw [hty]; first | rfl | (refine st_ ?_; rfl))) ?_; refine st_ ?_
        refine h_takeD 1 rfl (by kernel_rfl) (by kernel_rfl) (by kernel_rfl) (hQD _ (by decide)) (by rw [hnt]; rfl) (allIn (by repeat (first | exact trivial | refine ⟨rfl, ?_⟩))) (by first | exact Le.refl _ | assumption) (quiet_op (by rw [hty]; first | rfl | (refine st_ ?_; rfl))) ?_; refine st_ ?_
        refine h_one 2 rfl (by kernel_rfl) ?_
        refine rn_ ?_; intros
        refine h_hs (allIn (by repeat (first | exact trivial | refine ⟨rfl, ?_⟩))) (by first | exact Le.refl _ | assumption) ?_
        refine h_one 3 rfl (by kernel_rfl) ?_
        refine rn_ ?_; intros
        refine h_hs (allIn (by repeat (first | exact trivial | refine ⟨rfl, ?_⟩))) (by first | exact Le.refl _ | assumption) ?_
        refine h_one 4 rfl (by kernel_rfl) ?_
        refine rn_ ?_; intros
        refine h_hs (allIn (by repeat (first | exact trivial | refine ⟨rfl, ?_⟩))) (by first | exact Le.refl _ | assumption) ?_
        refine h_end (by kernel_rfl) ?_
        refine rn_ ?_; intros
        refine x_retD rfl hQ hmb rfl (by rw [hP]; kernel_rfl) (ks := [3, 1, 2]) (ow := lnC be bo bi 0 _ _) rfl rfl (.inl (by intro k hk; omega)) (hP ▸ lnClo_idle be bo bi _ _ _) ?_
        rintro u' G' ow' (hle11 : Le G10 G') ⟨hs', rfl⟩
        refine ⟨hs', _, lnRes hty rfl rfl rfl rfl rfl rfl, ?_⟩
        rw [hr0]
        exact ⟨_, rfl, Rp.S_nil _ _⟩
      · rw [hsrch] at hv hr0
        simp only at hr0
        obtain ⟨slp, rfl, hSp⟩ := hv
        obtain ⟨ap, cp, e5⟩ := Rp.S_slice hSp
        subst e5
        refine rn_ ?_; intros
        refine x_held [(1, bo, .c 57 [.v (.slice ap (p.map fun i : Nat => (i : Int)).length cp)]), (2, bi, .c 4 [.v (.bool true)])] rfl (by rw [hP]; kernel_rfl) rfl rfl rfl ?_; refine st_ ?_
        refine h_takeD 0 rfl (by kernel_rfl) (by kernel_rfl) (by kernel_rfl) (hQD _ (by decide)) (by rw [hnt]; rfl) (allIn (by repeat (first | exact trivial | refine ⟨rfl, ?_⟩))) (by first | exact Le.refl _ | assumption) (quiet_op (by rw [hty]; first | rfl | (refine st_ ?_; rfl))) ?_; refine st_ ?_
        refine h_takeD 1 rfl (by kernel_rfl) (by kernel_rfl) (by kernel_rfl) (hQD _ (by decide)) (by rw [hnt]; rfl) (allIn (by repeat (first | exact trivial | refine ⟨rfl, ?_⟩))) (by first | exact Le.refl _ | assumption) (quiet_op (by rw [hty]; first | rfl | (refine st_ ?_; rfl))) ?_; refine st_ ?_
        refine h_one 2 rfl (by kernel_rfl) ?_
        refine rn_ ?_; intros
        refine h_hs (allIn (by repeat (first | exact trivial | refine ⟨rfl, ?_⟩))) (by first | exact Le.refl _ | assumption) ?_
        refine h_one 3 rfl (by kernel_rfl) ?_
        refine rn_ ?_; intros
        refine h_hs (allIn (by repeat (first | exact trivial | refine ⟨rfl, ?_⟩))) (by first | exact Le.refl _ | assumption) ?_
        refine h_one 4 rfl (by kernel_rfl) ?_
        refine rn_ ?_; intros
        refine h_hs (allIn (by repeat (first | exact trivial | refine ⟨rfl, ?_⟩))) (by first | exact Le.refl _ | assumption) ?_
        refine h_end (by kernel_rfl) ?_
        refine rn_ ?_; intros
        refine x_retD rfl hQ hmb rfl (by rw [hP]; kernel_rfl) (ks := [3, 1, 2]) (ow := lnC be bo bi 0 _ _) rfl rfl (.inl (by intro k hk; omega)) (hP ▸ lnClo_idle be bo bi _ _ _) ?_
        rintro u' G' ow' (hle11 : Le G10 G') ⟨hs', rfl⟩
        refine ⟨hs', _, lnRes hty rfl rfl rfl rfl rfl rfl, ?_⟩
        rw [hr0]
        exact ⟨_, rfl, Rp.S_mono hle11 hSp⟩
end Go.Proofs.Ytpmmbjcgabnloaa
namespace Go.Proofs.Ytpmmbjcgabnloaa
set_option linter.unusedSimpArgs false
set_option linter.unusedVariables false
open Go.Sx
set_option maxHeartbeats 8000000
set_option maxRecDepth 20000
end Go.Proofs.Ytpmmbjcgabnloaa
namespace Go.Proofs.Ytpmmbjcgabnloaa
set_option linter.unusedSimpArgs false
set_option linter.unusedVariables false
open Go.Sx
set_option maxHeartbeats 8000000
set_option maxRecDepth 20000
end Go.Proofs.Ytpmmbjcgabnloaa
namespace Go.Proofs.Ytpmmbjcgabnloaa
set_option linter.unusedSimpArgs false
set_option linter.unusedVariables false
open Go.Sx
set_option maxHeartbeats 8000000
set_option maxRecDepth 20000
end Go.Proofs.Ytpmmbjcgabnloaa
namespace Go.Proofs.Ytpmmbjcgabnloaa
set_option linter.unusedSimpArgs false
set_option linter.unusedVariables false
open Go.Sx
set_option maxHeartbeats 8000000
set_option maxRecDepth 20000
theorem ints_ok (a b : List Int) (sa sb : Value) (G : Hp) (ha : rI.S G a sa) (hb : rI.S G b sb) : Pure Try.prog 23 [sa, sb] G (fun v _ => v = .bool (a == b)) := by
  have ha63 := Rp.S_len ha
  obtain ⟨ada, capa, rfl⟩ := Rp.S_slice ha
  obtain ⟨adb, capb, rfl⟩ := Rp.S_slice hb
  refine enterX ty tyok Try.func23 rfl Try.ntmps23 [.v (.slice ada a.length capa), .v (.slice adb b.length capb)] (by simp) ?_
  intro C hP hQ hnt hty hmb hmh hro; have hQp := qp_body hQ; refine st_ ?_
  refine rn_ ?_; intros
  refine x_if rfl rfl rfl rfl (fun hne => ?_) (fun hne => ?_)
  · refine rn_ ?_; intros
    refine x_retc rfl hQ hmb rfl (by rw [hty]; simp only [so, sq, zy, zz, tyE, SO', SQ', opQ, opStore, opAlloc, ev, putS, dOk, cv, SV.cs, SV.one, SV.bool?, eqB, Value.oneCell', ldOwn, binInt, binConst, binBool, binStr, isC, TK.agg, rv, rv1, ldV, resOne, resV, Nat.reduceAdd, Nat.reduceMul, Nat.reduceSub, Nat.reduceLT, Nat.reduceLeDiff, Nat.reduceEqDiff, Nat.reduceBEq, reduceIte, reduceCtorEq, eq_self]; try rfl) rfl ?_; simp only [SV.den, resV, dens]
    congr 1
    symm
    rw [beq_eq_false_iff_ne]
    rintro rfl
    simp at hne
  have hln : a.length = b.length := by simp at hne; omega
  refine rn_ ?_; intros
  refine go_keep [0, 1, 4, 5] [] ?_
  refine st_ ?_
  refine x_loop rfl (fun q st => ∃ (k : Nat), k ≤ a.length ∧ q = a.length - k ∧ a.take k = b.take k ∧
    st = ⟨[(0, .v (.slice ada a.length capa)), (1, .v (.slice adb b.length capb)), (4, .b false), (5, .v (.int .i64 k))], [], G, []⟩) ⟨0, by omega, rfl, rfl, rfl⟩ ?_
  rintro q st ⟨k, hk, hq, hno, rfl⟩ ih
  refine rn_ ?_; intros
  refine x_if rfl rfl rfl rfl (fun hjl => ?_) (fun hjl => ?_)
  · have hlt : k < a.length := by simp at hjl; omega
    have hltb : k < b.length := by omega
    obtain ⟨b1, off, cap', c, hv, hat, hc⟩ := Rp.S_get ha hlt
    cases hv
    simp only [rI] at hat hc
    obtain ⟨rfl, _⟩ := hc
    rw [Nat.mul_one] at hat
    obtain ⟨b2, off2, cap2, c2, hv2, hat2, hc2⟩ := Rp.S_get hb hltb
    cases hv2
    simp only [rI] at hat2 hc2
    obtain ⟨rfl, _⟩ := hc2
    rw [Nat.mul_one] at hat2
    refine rn_ ?_; intros
    refine x_draw rfl (by rw [hP]; kernel_rfl) rfl (by kernel_rfl) ?_
    refine runq 400 hty hnt ?_; refine st_ ?_
    refine q_q (by rw [hnt]; rfl) (quiet_index (by rw [hty]; rfl) (by rw [hty]; rfl) rfl rfl rfl (by omega) (by omega)) ?_; refine runq 400 hty hnt ?_; refine st_ ?_
    refine q_q (v := .int .i64 a[k]) (by rw [hnt]; rfl) ((quiet_load (vs := [.int .i64 a[k]]) (by rw [hty]; rfl) rfl (by simp [TK.agg]) (by simpa using hat) rfl).cast (by rfl)) ?_
    refine runq 400 hty hnt ?_; refine st_ ?_
    refine q_q (by rw [hnt]; rfl) (quiet_index (by rw [hty]; rfl) (by rw [hty]; rfl) rfl rfl rfl (by omega) (by omega)) ?_; refine runq 400 hty hnt ?_; refine st_ ?_
    refine q_q (v := .int .i64 b[k]) (by rw [hnt]; rfl) ((quiet_load (vs := [.int .i64 b[k]]) (by rw [hty]; rfl) rfl (by simp [TK.agg]) (by simpa using hat2) rfl).cast (by rfl)) ?_
    refine runq 400 hty hnt ?_; refine st_ ?_
    refine q_end ?_; refine rn_ ?_; intros
    refine x_split rfl rfl rfl (fun he => ?_) (fun he => ?_) <;> (refine st_ ?_; (refine ru_ ?_; intros))
    · have he' : a[k] ≠ b[k] := by simpa using he
      refine rn_ ?_; intros
      refine x_retc rfl hQ hmb rfl (by rw [hty]; simp only [so, sq, zy, zz, tyE, SO', SQ', opQ, opStore, opAlloc, ev, putS, dOk, cv, SV.cs, SV.one, SV.bool?, eqB, Value.oneCell', ldOwn, binInt, binConst, binBool, binStr, isC, TK.agg, rv, rv1, ldV, resOne, resV, Nat.reduceAdd, Nat.reduceMul, Nat.reduceSub, Nat.reduceLT, Nat.reduceLeDiff, Nat.reduceEqDiff, Nat.reduceBEq, reduceIte, reduceCtorEq, eq_self]; try rfl) rfl ?_; simp only [SV.den, resV, dens]
      congr 1
      symm
      rw [beq_eq_false_iff_ne]
      rintro rfl
      exact he' rfl
    · have he' : a[k] = b[k] := by simpa using he
      refine rn_ ?_; intros
      rw [wr (n := (k : Int) + 1) (by omega) (by omega)]
      refine go_keep [0, 1, 4, 5] [] ?_
      refine st_ ?_
      exact ih (a.length - (k + 1)) _ (by omega) ⟨k + 1, by omega, rfl, by rw [← List.take_append_getElem hlt, ← List.take_append_getElem hltb, hno, he'], rfl⟩
  · have hge : k = a.length := by simp at hjl; omega
    subst hge
    rw [List.take_length, hln, List.take_length] at hno
    refine rn_ ?_; intros
    refine x_retc rfl hQ hmb rfl (by rw [hty]; simp only [so, sq, zy, zz, tyE, SO', SQ', opQ, opStore, opAlloc, ev, putS, dOk, cv, SV.cs, SV.one, SV.bool?, eqB, Value.oneCell', ldOwn, binInt, binConst, binBool, binStr, isC, TK.agg, rv, rv1, ldV, resOne, resV, Nat.reduceAdd, Nat.reduceMul, Nat.reduceSub, Nat.reduceLT, Nat.reduceLeDiff, Nat.reduceEqDiff, Nat.reduceBEq, reduceIte, reduceCtorEq, eq_self]; try rfl) rfl ?_; simp only [SV.den, resV, dens]
    rw [hno]
    simp
end Go.Proofs.Ytpmmbjcgabnloaa
namespace Go.Proofs.Ytpmmbjcgabnloaa
set_option linter.unusedSimpArgs false
set_option linter.unusedVariables false
open Go.Sx
set_option maxHeartbeats 8000000
set_option maxRecDepth 20000
def prV (a b : Int) : VT := .mk 3 0 [.mk 2 a [], .mk 2 b []]
def opW (k a r fr to : Int) : Op := ⟨0, k, .mk 2 a [], .mk 2 r [], fr, to, true⟩
def i64B (n : Int) : Bool := decide (-9223372036854775808 ≤ n) && decide (n ≤ 9223372036854775807)
theorem opl_rep (th kd ak an rk rn fr to : Int) (dn : Bool) (G : Hp) (h : (i64B th && i64B kd && i64B ak && i64B an && i64B rk && i64B rn && i64B fr && i64B to) = true) : (⟨th, kd, .mk ak an [], .mk rk rn [], fr, to, dn⟩ : Op).rep G (.slice none 0 0) (.slice none 0 0) := by
  simp only [i64B, Bool.and_eq_true, decide_eq_true_eq] at h
  obtain ⟨⟨⟨⟨⟨⟨⟨h1, h2⟩, h3⟩, h4⟩, h5⟩, h6⟩, h7⟩, h8⟩ := h
  exact ⟨⟨h1, h2, h7, h8, by simp [tsz, tszL], by simp [tsz, tszL]⟩, rep_leaf _ _ _ h3 h4, rep_leaf _ _ _ h5 h6⟩
theorem wdo_ok (G : Hp) : PureV Try.prog 17 [.int .i64 2, .agg #[.slice none 0 0, .slice none 0 0], .agg #[.int .i64 0, .int .i64 1, .int .i64 2, .int .i64 0, .slice none 0 0, .int .i64 2, .int .i64 1, .slice none 0 0, .int .i64 2, .int .i64 3, .bool true]] G (doRet (⟨[], []⟩, noneV, false, 0)) := by
  rw [← show doR 2 ⟨[], []⟩ (opW 1 0 1 2 3) = (⟨[], []⟩, noneV, false, 0) by kernel_rfl]
  exact hDo_ok 2 ⟨[], []⟩ (.slice none 0 0) (.slice none 0 0) (opW 1 0 1 2 3) (.slice none 0 0) (.slice none 0 0) G ⟨Rp.S_nil _ _, Rp.S_nil _ _⟩ (opl_rep _ _ _ _ _ _ _ _ _ _ (by decide)) (by simp) (by simp)
theorem works29_ok (G : Hp) : Pure Try.prog 9 [] G (fun v _ => v = .bool true) := by
  refine enterX ty tyok Try.func9 rfl Try.ntmps9 [] (by simp) ?_
  intro C hP hQ hnt hty hmb hmh hro; have hQp := qp_body hQ; refine st_ ?_
  refine rn_ ?_; intros
  refine go_call (by rw [hnt]; rfl) (by rw [hP]; kernel_rfl) rfl (hP ▸ pair_ok 0 5 _ (by simp [isI64]) (by simp [isI64])) ?_
  rintro v G1 (hle1 : Le G G1) ⟨s1, rfl, hr1⟩
  obtain ⟨s1a, s1c, rfl⟩ := VT.rep_slice hr1
  simp only [lEq, List.length_cons, List.length_nil, Nat.reduceAdd] at hr1 ⊢
  refine rn_ ?_; intros
  refine go_call (by rw [hnt]; rfl) (by rw [hP]; kernel_rfl) rfl (hP ▸ pair_ok 1 1 _ (by simp [isI64]) (by simp [isI64])) ?_
  rintro v G2 (hle2 : Le G1 G2) ⟨s2, rfl, hr2⟩
  obtain ⟨s2a, s2c, rfl⟩ := VT.rep_slice hr2
  simp only [lEq, List.length_cons, List.length_nil, Nat.reduceAdd] at hr2 ⊢
  refine rn_ ?_; intros
  rename_i bx
  refine go_pub 0 rfl (by omega) ?_
  intro G3 (hle3 : Le G2 G3) hG
  have hat := at_block hG
  simp only [dens, SV.den] at hat
  refine go_slot 33 (.v (.slice (some ⟨bx, 0, none⟩) 2 2)) rfl (by simp [SV.den]) ?_
  refine st_ ?_
  have hM1 : rMk.S G3 [⟨1, 0, prV 0 5⟩, ⟨4, 0, prV 1 1⟩] (.slice (some ⟨bx, 0, none⟩) 2 2) := ⟨by simp, _, _, rfl, .inr ⟨_, _, _, rfl, hat, [_, _, _, _, _], [_, _, _, _, _], rfl, ⟨_, rfl, VT.rep_mono (hle2.trans hle3) hr1, by decide, by simp [isI64], by simp [isI64]⟩, [_, _, _, _, _], [], rfl, ⟨_, rfl, VT.rep_mono hle3 hr2, by decide, by simp [isI64], by simp [isI64]⟩, rfl⟩⟩
  refine go_call (by rw [hnt]; rfl) (by rw [hP]; kernel_rfl) rfl (hP ▸ hOf_ok _ _ G3 hM1 (by simp)) ?_
  rintro v G4 (hle4 : Le G3 G4) hv
  rw [show ofP [⟨1, 0, prV 0 5⟩, ⟨4, 0, prV 1 1⟩] 0 [] = some [opW 0 5 1 1 4] by kernel_rfl] at hv
  obtain ⟨slo, rfl, hSo⟩ := hv
  obtain ⟨ao, co, e0⟩ := Rp.S_slice hSo
  subst e0
  clear hM1 hat
  refine rn_ ?_; intros
  refine go_keep [0, 1, 2] [] ?_
  refine st_ ?_
  refine go_call (by rw [hnt]; rfl) (by rw [hP]; kernel_rfl) rfl (hP ▸ pair_ok 1 5 _ (by simp [isI64]) (by simp [isI64])) ?_
  rintro v G5 (hle5 : Le G4 G5) ⟨s3, rfl, hr3⟩
  obtain ⟨s3a, s3c, rfl⟩ := VT.rep_slice hr3
  simp only [lEq, List.length_cons, List.length_nil, Nat.reduceAdd] at hr3 ⊢
  refine rn_ ?_; intros
  rename_i bx
  refine go_pub 0 rfl (by omega) ?_
  intro G6 (hle6 : Le G5 G6) hG
  have hat := at_block hG
  simp only [dens, SV.den] at hat
  refine go_slot 40 (.v (.slice (some ⟨bx, 0, none⟩) 1 1)) rfl (by simp [SV.den]) ?_
  refine st_ ?_
  have hM1 : rMk.S G6 [⟨1, 0, prV 1 5⟩] (.slice (some ⟨bx, 0, none⟩) 1 1) := ⟨by simp, _, _, rfl, .inr ⟨_, _, _, rfl, hat, [_, _, _, _, _], [], rfl, ⟨_, rfl, VT.rep_mono hle6 hr3, by decide, by simp [isI64], by simp [isI64]⟩, rfl⟩⟩
  refine go_call (by rw [hnt]; rfl) (by rw [hP]; kernel_rfl) rfl (hP ▸ hOf_ok _ _ G6 hM1 (by simp)) ?_
  rintro v G7 (hle7 : Le G6 G7) hv
  rw [show ofP [⟨1, 0, prV 1 5⟩] 0 [] = none by kernel_rfl] at hv
  subst hv
  clear hM1 hat
  refine rn_ ?_; intros
  refine go_keep [0, 1, 2, 3, 4] [] ?_
  refine st_ ?_
  refine go_call (by rw [hnt]; rfl) (by rw [hP]; kernel_rfl) rfl (hP ▸ pair_ok 0 5 _ (by simp [isI64]) (by simp [isI64])) ?_
  rintro v G8 (hle8 : Le G7 G8) ⟨s4, rfl, hr4⟩
  obtain ⟨s4a, s4c, rfl⟩ := VT.rep_slice hr4
  simp only [lEq, List.length_cons, List.length_nil, Nat.reduceAdd] at hr4 ⊢
  refine rn_ ?_; intros
  rename_i bx
  refine go_pub 0 rfl (by omega) ?_
  intro G9 (hle9 : Le G8 G9) hG
  have hat := at_block hG
  simp only [dens, SV.den] at hat
  refine go_slot 49 (.v (.slice (some ⟨bx, 0, none⟩) 2 2)) rfl (by simp [SV.den]) ?_
  refine st_ ?_
  have hM1 : rMk.S G9 [⟨1, 0, prV 0 5⟩, ⟨0, 0, unitV⟩] (.slice (some ⟨bx, 0, none⟩) 2 2) := ⟨by simp, _, _, rfl, .inr ⟨_, _, _, rfl, hat, [_, _, _, _, _], [_, _, _, _, _], rfl, ⟨_, rfl, VT.rep_mono hle9 hr4, by decide, by simp [isI64], by simp [isI64]⟩, [_, _, _, _, _], [], rfl, ⟨_, rfl, rep_leaf _ 1 0 (by simp [isI64]) (by simp [isI64]), by decide, by simp [isI64], by simp [isI64]⟩, rfl⟩⟩
  refine go_call (by rw [hnt]; rfl) (by rw [hP]; kernel_rfl) rfl (hP ▸ hOf_ok _ _ G9 hM1 (by simp)) ?_
  rintro v G10 (hle10 : Le G9 G10) hv
  rw [show ofP [⟨1, 0, prV 0 5⟩, ⟨0, 0, unitV⟩] 0 [] = none by kernel_rfl] at hv
  subst hv
  clear hM1 hat
  refine rn_ ?_; intros
  refine go_keep [0, 1, 2, 3, 4, 5, 6] [] ?_
  refine st_ ?_
  have hle410 : Le G4 G10 := hle5.trans (hle6.trans (hle7.trans (hle8.trans (hle9.trans hle10))))
  have hSo2 := Rp.S_mono hle410 hSo
  refine rn_ ?_; intros
  refine x_draw rfl (by rw [hP]; kernel_rfl) rfl (by kernel_rfl) ?_
  refine runq 400 hty hnt ?_; refine st_ ?_
  refine q_callf (by rw [hnt]; rfl) (by rw [hP]; kernel_rfl) rfl (hP ▸ num_ok 0 _) ?_; refine runq 400 hty hnt ?_; refine st_ ?_
  (refine go_qsplit rfl rfl (fun hc => absurd hc (by decide)) (fun _ => ?_); refine st_ ?_; (try (refine runq 400 hty hnt ?_; refine st_ ?_)))
  (refine go_qsplit rfl rfl (fun hc => absurd hc (by decide)) (fun _ => ?_); refine st_ ?_; (try (refine runq 400 hty hnt ?_; refine st_ ?_)))
  obtain ⟨bo, oo, sa, sr, hao, hato, hor⟩ := rO_at hSo2 (i := 0) (by simp)
  subst hao
  obtain ⟨asa, csa, rfl⟩ := VT.rep_slice hor.a
  obtain ⟨asr, csr, rfl⟩ := VT.rep_slice hor.r
  refine q_q (v := .pointer (some ⟨bo, oo, none⟩)) (by rw [hnt]; rfl) ((quiet_index (k := .i64) (n := 0) (by rw [hty]; rfl) (by rw [hty]; rfl) rfl rfl rfl (by omega) (by simp)).cast (by simp)) ?_
  refine runq 400 hty hnt ?_; refine st_ ?_
  refine q_q (v := .agg (opL (opW 0 5 1 1 4) (.slice asa 0 csa) (.slice asr 0 csr)).toArray) (by rw [hnt]; rfl) ((quiet_load (by rw [hty]; rfl) rfl (fun q => by cases q) (by simpa using hato) rfl).cast (by simp only [ldV]; rfl)) ?_
  simp only [opL, opW, kEq, nEq]
  refine runq 400 hty hnt ?_; refine st_ ?_
  refine q_callf (by rw [hnt]; rfl) (by rw [hP]; kernel_rfl) rfl (hP ▸ of_ok 0 5 1 1 4 _) ?_; refine runq 400 hty hnt ?_; refine st_ ?_
  simp only [opL, kEq, nEq]
  refine runq 400 hty hnt ?_; refine st_ ?_
  refine q_callf (by rw [hnt]; rfl) (by rw [hP]; kernel_rfl) rfl (hP ▸ rsame_ok (opW 0 5 1 1 4) (opW 0 5 1 1 4) _ _ _ _ G10 hor (opl_rep _ _ _ _ _ _ _ _ _ _ (by decide))) ?_; refine runq 400 hty hnt ?_; refine st_ ?_
  rw [show opEq (opW 0 5 1 1 4) (opW 0 5 1 1 4) = true by kernel_rfl]
  (refine go_qsplit rfl rfl (fun hc => absurd hc (by decide)) (fun _ => ?_); refine st_ ?_; (try (refine runq 400 hty hnt ?_; refine st_ ?_)))
  refine q_callf (by rw [hnt]; rfl) (by rw [hP]; kernel_rfl) rfl (hP ▸ num_ok 290 _) ?_; refine runq 400 hty hnt ?_; refine st_ ?_
  (refine go_qsplit rfl rfl (fun hc => absurd hc (by decide)) (fun _ => ?_); refine st_ ?_; (try (refine runq 400 hty hnt ?_; refine st_ ?_)))
  refine q_callf (by rw [hnt]; rfl) (by rw [hP]; kernel_rfl) rfl (hP ▸ num_ok 290 _) ?_; refine runq 400 hty hnt ?_; refine st_ ?_
  refine q_end ?_; refine rn_ ?_; intros
  (refine x_split rfl rfl rfl (fun hc => absurd hc (by first | decide +kernel | (simp; first | done | fail))) (fun _ => ?_); refine st_ ?_; (refine ru_ ?_; intros))
  refine rn_ ?_; intros
  refine go_keep [0, 7] [0] ?_
  refine st_ ?_
  rename_i b7
  refine go_callf (by rw [hnt]; rfl) (by rw [hP]; kernel_rfl) rfl (hP ▸ of_ok 0 1 0 1 9 _) ?_
  simp only [opL, kEq, nEq, List.map_cons, List.map_nil]
  refine st_ ?_
  refine rn_ ?_; intros
  refine go_callf (by rw [hnt]; rfl) (by rw [hP]; kernel_rfl) rfl (hP ▸ of_ok 0 2 0 2 3 _) ?_
  simp only [opL, kEq, nEq, List.map_cons, List.map_nil]
  refine st_ ?_
  refine rn_ ?_; intros
  rename_i b8 b9
  refine x_held [(0, b7, .c 28 [.v (.int .i64 1), .v (.int .i64 0), .v (.slice none 0 0)])] rfl (by rw [hP]; kernel_rfl) rfl rfl rfl ?_; refine st_ ?_
  refine h_take 0 rfl (by kernel_rfl) (by kernel_rfl) (by kernel_rfl) hQp (by rw [hnt]; rfl) (allIn (by repeat (first | exact trivial | refine ⟨rfl, ?_⟩))) (by first | exact Le.refl _ | assumption) (quiet_op (by rw [hty]; first | rfl | (refine st_ ?_; rfl))) ?_; refine st_ ?_
  refine h_take 1 rfl (by kernel_rfl) (by kernel_rfl) (by kernel_rfl) hQp (by rw [hnt]; rfl) (allIn (by repeat (first | exact trivial | refine ⟨rfl, ?_⟩))) (by first | exact Le.refl _ | assumption) (quiet_op (by rw [hty]; first | rfl | (refine st_ ?_; rfl))) ?_; refine st_ ?_
  refine h_take 2 rfl (by kernel_rfl) (by kernel_rfl) (by kernel_rfl) hQp (by rw [hnt]; rfl) (allIn (by repeat (first | exact trivial | refine ⟨rfl, ?_⟩))) (by first | exact Le.refl _ | assumption) (quiet_op (by rw [hty]; first | rfl | (refine st_ ?_; rfl))) ?_; refine st_ ?_
  refine h_one 3 rfl (by kernel_rfl) ?_
  refine rn_ ?_; intros
  refine h_hs (allIn (by repeat (first | exact trivial | refine ⟨rfl, ?_⟩))) (by first | exact Le.refl _ | assumption) ?_
  refine h_take 4 rfl (by kernel_rfl) (by kernel_rfl) (by kernel_rfl) hQp (by rw [hnt]; rfl) (allIn (by repeat (first | exact trivial | refine ⟨rfl, ?_⟩))) (by first | exact Le.refl _ | assumption) (quiet_op (by rw [hty]; first | rfl | (refine st_ ?_; rfl))) ?_; refine st_ ?_
  refine h_one 5 rfl (by kernel_rfl) ?_
  refine rn_ ?_; intros
  refine h_hs (allIn (by repeat (first | exact trivial | refine ⟨rfl, ?_⟩))) (by first | exact Le.refl _ | assumption) ?_
  refine h_end (by kernel_rfl) ?_
  refine rn_ ?_; intros
  refine go_callf (by rw [hnt]; rfl) (by rw [hP]; kernel_rfl) rfl (hP ▸ of_ok 1 0 2 4 5 _) ?_
  simp only [opL, kEq, nEq, List.map_cons, List.map_nil]
  refine st_ ?_
  refine rn_ ?_; intros
  refine go_callf (by rw [hnt]; rfl) (by rw [hP]; kernel_rfl) rfl (hP ▸ of_ok 1 0 1 6 7 _) ?_
  simp only [opL, kEq, nEq, List.map_cons, List.map_nil]
  refine st_ ?_
  refine rn_ ?_; intros
  refine go_keep [0, 8, 9, 10, 11] [1, 2, 3, 4] ?_
  refine st_ ?_
  refine go_callf (by rw [hnt]; rfl) (by rw [hP]; kernel_rfl) rfl (hP ▸ of_ok 0 5 1 1 4 _) ?_
  simp only [opL, kEq, nEq, List.map_cons, List.map_nil]
  refine st_ ?_
  refine rn_ ?_; intros
  refine go_callf (by rw [hnt]; rfl) (by rw [hP]; kernel_rfl) rfl (hP ▸ of_ok 1 0 5 2 3 _) ?_
  simp only [opL, kEq, nEq, List.map_cons, List.map_nil]
  refine st_ ?_
  refine rn_ ?_; intros
  rename_i bx
  refine go_pub 5 rfl (by omega) ?_
  intro G11 (hleG11 : Le G10 G11) hG
  have hat := at_block hG
  simp only [dens, SV.den] at hat
  refine go_slot 91 (.v (.slice (some ⟨bx, 0, none⟩) 2 2)) rfl (by simp [SV.den]) ?_
  refine st_ ?_
  have hM1 : rO.S G11 [⟨0, 0, .mk 2 (5) [], .mk 2 (1) [], 1, 4, true⟩, ⟨0, 1, .mk 2 (0) [], .mk 2 (5) [], 2, 3, true⟩] (.slice (some ⟨bx, 0, none⟩) 2 2) := ⟨by simp, _, _, rfl, .inr ⟨_, _, _, rfl, hat, [_, _, _, _, _, _, _, _, _, _, _], _, rfl, ⟨_, _, rfl, opl_rep _ _ _ _ _ _ _ _ _ _ (by decide)⟩, [_, _, _, _, _, _, _, _, _, _, _], [], rfl, ⟨_, _, rfl, opl_rep _ _ _ _ _ _ _ _ _ _ (by decide)⟩, rfl⟩⟩
  refine go_call (by rw [hnt]; rfl) (by rw [hP]; kernel_rfl) rfl (hP ▸ hLine_ok 1 _ _ G11 hM1) ?_
  rintro v G12 (hleG12 : Le G11 G12) hv
  rw [show lnR 1 [⟨0, 0, .mk 2 (5) [], .mk 2 (1) [], 1, 4, true⟩, ⟨0, 1, .mk 2 (0) [], .mk 2 (5) [], 2, 3, true⟩] = ([0, 1], true, 0) by kernel_rfl] at hv
  obtain ⟨slo, rfl, hSo1⟩ := hv
  obtain ⟨ao1, co1, e0⟩ := Rp.S_slice hSo1
  subst e0
  clear hM1 hat
  simp only [List.map_cons, List.map_nil, List.length_cons, List.length_nil, Nat.reduceAdd] at hSo1 ⊢
  refine rn_ ?_; intros
  refine go_keep [0, 8, 9, 10, 11, 12, 13, 14] [1, 2, 3, 4] ?_
  refine st_ ?_
  refine go_callf (by rw [hnt]; rfl) (by rw [hP]; kernel_rfl) rfl (hP ▸ of_ok 0 5 1 3 4 _) ?_
  simp only [opL, kEq, nEq, List.map_cons, List.map_nil]
  refine st_ ?_
  refine rn_ ?_; intros
  refine go_callf (by rw [hnt]; rfl) (by rw [hP]; kernel_rfl) rfl (hP ▸ of_ok 1 0 5 1 2 _) ?_
  simp only [opL, kEq, nEq, List.map_cons, List.map_nil]
  refine st_ ?_
  refine rn_ ?_; intros
  rename_i bx
  refine go_pub 5 rfl (by omega) ?_
  intro G13 (hleG13 : Le G12 G13) hG
  have hat := at_block hG
  simp only [dens, SV.den] at hat
  refine go_slot 99 (.v (.slice (some ⟨bx, 0, none⟩) 2 2)) rfl (by simp [SV.den]) ?_
  refine st_ ?_
  have hM1 : rO.S G13 [⟨0, 0, .mk 2 (5) [], .mk 2 (1) [], 3, 4, true⟩, ⟨0, 1, .mk 2 (0) [], .mk 2 (5) [], 1, 2, true⟩] (.slice (some ⟨bx, 0, none⟩) 2 2) := ⟨by simp, _, _, rfl, .inr ⟨_, _, _, rfl, hat, [_, _, _, _, _, _, _, _, _, _, _], _, rfl, ⟨_, _, rfl, opl_rep _ _ _ _ _ _ _ _ _ _ (by decide)⟩, [_, _, _, _, _, _, _, _, _, _, _], [], rfl, ⟨_, _, rfl, opl_rep _ _ _ _ _ _ _ _ _ _ (by decide)⟩, rfl⟩⟩
  refine go_call (by rw [hnt]; rfl) (by rw [hP]; kernel_rfl) rfl (hP ▸ hLine_ok 1 _ _ G13 hM1) ?_
  rintro v G14 (hleG14 : Le G13 G14) hv
  rw [show lnR 1 [⟨0, 0, .mk 2 (5) [], .mk 2 (1) [], 3, 4, true⟩, ⟨0, 1, .mk 2 (0) [], .mk 2 (5) [], 1, 2, true⟩] = ([], false, 0) by kernel_rfl] at hv
  obtain ⟨slo, rfl, hSo2⟩ := hv
  obtain ⟨ao2, co2, e0⟩ := Rp.S_slice hSo2
  subst e0
  clear hM1 hat
  simp only [List.map_cons, List.map_nil, List.length_cons, List.length_nil, Nat.reduceAdd] at hSo2 ⊢
  refine rn_ ?_; intros
  refine go_keep [0, 12, 13, 14, 16, 17, 109] [5] ?_
  refine st_ ?_
  rename_i bx
  refine go_pub 5 rfl (by omega) ?_
  intro G15 (hleG15 : Le G14 G15) hG
  have hat := at_block hG
  simp only [dens, SV.den] at hat
  refine go_slot 109 (.v (.slice (some ⟨bx, 0, none⟩) 4 4)) rfl (by simp [SV.den]) ?_
  refine st_ ?_
  have hM1 : rO.S G15 [⟨0, 0, .mk 2 1 [], .mk 1 0 [], 1, 9, true⟩, ⟨0, 0, .mk 2 2 [], .mk 1 0 [], 2, 3, true⟩, ⟨0, 1, .mk 2 (0) [], .mk 2 (2) [], 4, 5, true⟩, ⟨0, 1, .mk 2 (0) [], .mk 2 (1) [], 6, 7, true⟩] (.slice (some ⟨bx, 0, none⟩) 4 4) := ⟨by simp, _, _, rfl, .inr ⟨_, _, _, rfl, hat, [_, _, _, _, _, _, _, _, _, _, _], _, rfl, ⟨_, _, rfl, opl_rep _ _ _ _ _ _ _ _ _ _ (by decide)⟩, [_, _, _, _, _, _, _, _, _, _, _], _, rfl, ⟨_, _, rfl, opl_rep _ _ _ _ _ _ _ _ _ _ (by decide)⟩, [_, _, _, _, _, _, _, _, _, _, _], _, rfl, ⟨_, _, rfl, opl_rep _ _ _ _ _ _ _ _ _ _ (by decide)⟩, [_, _, _, _, _, _, _, _, _, _, _], [], rfl, ⟨_, _, rfl, opl_rep _ _ _ _ _ _ _ _ _ _ (by decide)⟩, rfl⟩⟩
  refine go_call (by rw [hnt]; rfl) (by rw [hP]; kernel_rfl) rfl (hP ▸ hLine_ok 3 _ _ G15 hM1) ?_
  rintro v G16 (hleG16 : Le G15 G16) hv
  rw [show lnR 3 [⟨0, 0, .mk 2 1 [], .mk 1 0 [], 1, 9, true⟩, ⟨0, 0, .mk 2 2 [], .mk 1 0 [], 2, 3, true⟩, ⟨0, 1, .mk 2 (0) [], .mk 2 (2) [], 4, 5, true⟩, ⟨0, 1, .mk 2 (0) [], .mk 2 (1) [], 6, 7, true⟩] = ([1, 0, 2, 3], true, 0) by kernel_rfl] at hv
  obtain ⟨slo, rfl, hSo3⟩ := hv
  obtain ⟨ao3, co3, e0⟩ := Rp.S_slice hSo3
  subst e0
  clear hM1 hat
  simp only [List.map_cons, List.map_nil, List.length_cons, List.length_nil, Nat.reduceAdd] at hSo3 ⊢
  refine rn_ ?_; intros
  refine go_keep [0, 12, 13, 14, 16, 17, 18, 19, 20] [] ?_
  refine st_ ?_
  refine go_callf (by rw [hnt]; rfl) (by rw [hP]; kernel_rfl) rfl (hP ▸ refint_ok 1 _) ?_; refine rn_ ?_; intros
  refine go_callf (by rw [hnt]; rfl) (by rw [hP]; kernel_rfl) rfl (hP ▸ of_ok 1 0 1 2 3 _) ?_
  simp only [opL, kEq, nEq, List.map_cons, List.map_nil]
  refine st_ ?_
  refine rn_ ?_; intros
  rename_i bx
  refine go_pub 0 rfl (by omega) ?_
  intro G17 (hleG17 : Le G16 G17) hG
  have hat := at_block hG
  simp only [dens, SV.den] at hat
  refine go_slot 118 (.v (.slice (some ⟨bx, 0, none⟩) 2 2)) rfl (by simp [SV.den]) ?_
  refine st_ ?_
  have hM1 : rO.S G17 [⟨0, 0, .mk 2 1 [], .mk 0 0 [], 1, 0, false⟩, ⟨0, 1, .mk 2 (0) [], .mk 2 (1) [], 2, 3, true⟩] (.slice (some ⟨bx, 0, none⟩) 2 2) := ⟨by simp, _, _, rfl, .inr ⟨_, _, _, rfl, hat, [_, _, _, _, _, _, _, _, _, _, _], _, rfl, ⟨_, _, rfl, opl_rep _ _ _ _ _ _ _ _ _ _ (by decide)⟩, [_, _, _, _, _, _, _, _, _, _, _], [], rfl, ⟨_, _, rfl, opl_rep _ _ _ _ _ _ _ _ _ _ (by decide)⟩, rfl⟩⟩
  refine go_call (by rw [hnt]; rfl) (by rw [hP]; kernel_rfl) rfl (hP ▸ hLine_ok 2 _ _ G17 hM1) ?_
  rintro v G18 (hleG18 : Le G17 G18) hv
  rw [show lnR 2 [⟨0, 0, .mk 2 1 [], .mk 0 0 [], 1, 0, false⟩, ⟨0, 1, .mk 2 (0) [], .mk 2 (1) [], 2, 3, true⟩] = ([0, 1], true, 0) by kernel_rfl] at hv
  obtain ⟨slo, rfl, hSo4⟩ := hv
  obtain ⟨ao4, co4, e0⟩ := Rp.S_slice hSo4
  subst e0
  clear hM1 hat
  simp only [List.map_cons, List.map_nil, List.length_cons, List.length_nil, Nat.reduceAdd] at hSo4 ⊢
  refine rn_ ?_; intros
  refine go_keep [0, 12, 13, 14, 16, 17, 18, 19, 20, 21, 22, 23, 124] [] ?_
  refine st_ ?_
  refine go_callf (by rw [hnt]; rfl) (by rw [hP]; kernel_rfl) rfl (hP ▸ of_ok 1 0 1 2 3 _) ?_
  simp only [opL, kEq, nEq, List.map_cons, List.map_nil]
  refine st_ ?_
  refine rn_ ?_; intros
  refine go_callV 60 (by rw [hnt]; rfl) (by rw [hP]; kernel_rfl) rfl rfl (by omega) (hP ▸ wdo_ok G18) ?_
  rintro v G19 rs Z (hle19 : Le G18 G19) hv
  obtain ⟨v1, v2, slv, xs, ys, rfl, rfl, _, _, hrv, _⟩ := hv
  obtain ⟨av, cvv, rfl⟩ := VT.rep_slice hrv
  refine go_ztake 60 61 0 rfl rfl rfl (by omega) (by omega) ?_
  intro Z1
  refine go_ztake 60 62 1 rfl rfl rfl (by omega) (by omega) ?_
  intro Z2
  refine go_drop 60 ?_
  simp only [stRows]
  refine st_ ?_
  refine go_rowS 61 rfl ?_
  rintro a1 c1 rfl
  refine go_rowS 62 rfl ?_
  rintro a2 c2 rfl
  simp only [noneV, kEq, nEq, lEq]
  refine rn_ ?_; intros
  refine go_keep [0, 12, 13, 14, 16, 17, 18, 19, 20, 21, 22, 23, 26, 27, 131] [] ?_
  refine st_ ?_
  refine go_callf (by rw [hnt]; rfl) (by rw [hP]; kernel_rfl) rfl (hP ▸ num_ok 0 _) ?_; refine rn_ ?_; intros
  refine go_callf (by rw [hnt]; rfl) (by rw [hP]; kernel_rfl) rfl (hP ▸ num_ok 0 _) ?_; refine rn_ ?_; intros
  refine go_callf (by rw [hnt]; rfl) (by rw [hP]; kernel_rfl) rfl (hP ▸ num_ok 0 _) ?_; refine rn_ ?_; intros
  refine go_callf (by rw [hnt]; rfl) (by rw [hP]; kernel_rfl) rfl (hP ▸ num_ok 0 _) ?_; refine rn_ ?_; intros
  refine go_callf (by rw [hnt]; rfl) (by rw [hP]; kernel_rfl) rfl (hP ▸ num_ok 0 _) ?_; refine rn_ ?_; intros
  (refine go_gsplit rfl rfl (fun _ => ?_) (fun hc => absurd hc (by decide)); refine st_ ?_; (refine rn_ ?_; intros))
  (refine go_gsplit rfl rfl (fun _ => ?_) (fun hc => absurd hc (by decide)); refine st_ ?_; (refine rn_ ?_; intros))
  have hs1 := Rp.S_mono (hleG13.trans (hleG14.trans (hleG15.trans (hleG16.trans (hleG17.trans (hleG18.trans hle19)))))) hSo1
  have hs3 := Rp.S_mono (hleG17.trans (hleG18.trans hle19)) hSo3
  have hs4 := Rp.S_mono hle19 hSo4
  rename_i bx
  refine go_pub 0 rfl (by omega) ?_
  intro G20 (hle20 : Le G19 G20) hG
  have hat := at_block hG
  simp only [dens, SV.den] at hat
  refine go_slot 151 (.v (.slice (some ⟨bx, 0, none⟩) 2 2)) rfl (by simp [SV.den]) ?_
  refine st_ ?_
  have hI : rI.S G20 [0, 1] (.slice (some ⟨bx, 0, none⟩) 2 2) := ⟨by simp, _, _, rfl, .inr ⟨_, _, _, rfl, hat, [_], [_], rfl, ⟨rfl, by simp [isI64]⟩, [_], [], rfl, ⟨rfl, by simp [isI64]⟩, rfl⟩⟩
  refine go_callf (by rw [hnt]; rfl) (by rw [hP]; kernel_rfl) rfl (hP ▸ ints_ok [0, 1] [0, 1] _ _ G20 (Rp.S_mono hle20 hs1) hI) ?_; refine rn_ ?_; intros
  clear hI hat
  refine go_slot 152 (.v (.bool true)) rfl rfl ?_
  refine st_ ?_
  refine rn_ ?_; intros
  (refine go_gsplit rfl rfl (fun _ => ?_) (fun hc => absurd hc (by decide)); refine st_ ?_; (refine rn_ ?_; intros))
  (refine go_gsplit rfl rfl (fun _ => ?_) (fun hc => absurd hc (by decide)); refine st_ ?_; (refine rn_ ?_; intros))
  (refine go_gsplit rfl rfl (fun _ => ?_) (fun hc => absurd hc (by decide)); refine st_ ?_; (refine rn_ ?_; intros))
  rename_i bx
  refine go_pub 0 rfl (by omega) ?_
  intro G21 (hle21 : Le G20 G21) hG
  have hat := at_block hG
  simp only [dens, SV.den] at hat
  refine go_slot 163 (.v (.slice (some ⟨bx, 0, none⟩) 4 4)) rfl (by simp [SV.den]) ?_
  refine st_ ?_
  have hI : rI.S G21 [1, 0, 2, 3] (.slice (some ⟨bx, 0, none⟩) 4 4) := ⟨by simp, _, _, rfl, .inr ⟨_, _, _, rfl, hat, [_], [_, _, _], rfl, ⟨rfl, by simp [isI64]⟩, [_], [_, _], rfl, ⟨rfl, by simp [isI64]⟩, [_], [_], rfl, ⟨rfl, by simp [isI64]⟩, [_], [], rfl, ⟨rfl, by simp [isI64]⟩, rfl⟩⟩
  refine go_callf (by rw [hnt]; rfl) (by rw [hP]; kernel_rfl) rfl (hP ▸ ints_ok [1, 0, 2, 3] [1, 0, 2, 3] _ _ G21 (Rp.S_mono (hle20.trans hle21) hs3) hI) ?_; refine rn_ ?_; intros
  clear hI hat
  refine go_slot 164 (.v (.bool true)) rfl rfl ?_
  refine st_ ?_
  refine rn_ ?_; intros
  (refine go_gsplit rfl rfl (fun _ => ?_) (fun hc => absurd hc (by decide)); refine st_ ?_; (refine rn_ ?_; intros))
  (refine go_gsplit rfl rfl (fun _ => ?_) (fun hc => absurd hc (by decide)); refine st_ ?_; (refine rn_ ?_; intros))
  rename_i bx
  refine go_pub 0 rfl (by omega) ?_
  intro G22 (hle22 : Le G21 G22) hG
  have hat := at_block hG
  simp only [dens, SV.den] at hat
  refine go_slot 171 (.v (.slice (some ⟨bx, 0, none⟩) 2 2)) rfl (by simp [SV.den]) ?_
  refine st_ ?_
  have hI : rI.S G22 [0, 1] (.slice (some ⟨bx, 0, none⟩) 2 2) := ⟨by simp, _, _, rfl, .inr ⟨_, _, _, rfl, hat, [_], [_], rfl, ⟨rfl, by simp [isI64]⟩, [_], [], rfl, ⟨rfl, by simp [isI64]⟩, rfl⟩⟩
  refine go_callf (by rw [hnt]; rfl) (by rw [hP]; kernel_rfl) rfl (hP ▸ ints_ok [0, 1] [0, 1] _ _ G22 (Rp.S_mono (hle20.trans (hle21.trans hle22)) hs4) hI) ?_; refine rn_ ?_; intros
  clear hI hat
  refine go_slot 172 (.v (.bool true)) rfl rfl ?_
  refine st_ ?_
  refine rn_ ?_; intros
  (refine go_gsplit rfl rfl (fun _ => ?_) (fun hc => absurd hc (by decide)); refine st_ ?_; (refine rn_ ?_; intros))
  refine x_retc rfl hQ hmb rfl (by rw [hty]; simp only [so, sq, zy, zz, tyE, SO', SQ', opQ, opStore, opAlloc, ev, putS, dOk, cv, SV.cs, SV.one, SV.bool?, eqB, Value.oneCell', ldOwn, binInt, binConst, binBool, binStr, isC, TK.agg, rv, rv1, ldV, resOne, resV, Nat.reduceAdd, Nat.reduceMul, Nat.reduceSub, Nat.reduceLT, Nat.reduceLeDiff, Nat.reduceEqDiff, Nat.reduceBEq, reduceIte, reduceCtorEq, eq_self]; try rfl) rfl ?_; simp only [SV.den, resV, dens]
  rfl
end Go.Proofs.Ytpmmbjcgabnloaa
namespace Go.Proofs.Ytpmmbjcgabnloaa
set_option linter.unusedSimpArgs false
set_option linter.unusedVariables false
open Go.Sx

def hp (w : World) : Hp := fun b => w.heap[b]?
theorem has_hp (w : World) : Has w (hp w) := fun _ _ h => h

section
variable {H : Type}
set_option maxRecDepth 20000
theorem gather {w : World} {b : Nat} : ∀ (ds : List (DataW H)) (off : Nat),
    (∀ i (h : i < ds.length), ∃ t sl, w.cell? ⟨b, off + i * 3, none⟩ = some (.int .i64 (VT.k t)) ∧ w.cell? ⟨b, off + i * 3 + 1, none⟩ = some (.int .i64 t.n) ∧ w.cell? ⟨b, off + i * 3 + 2, none⟩ = some sl ∧ t.rep (hp w) sl ∧ tsz t ≤ Rows.uptoBulk ds[i]) →
    ∃ (l : List VT) (cs : List Value), l.length = ds.length ∧ repV (hp w) l cs ∧ (∀ i, i < cs.length → w.cell? ⟨b, off + i, none⟩ = cs[i]?) ∧ tszL l ≤ Rows.uptoBulkAll ds
  | [], _, _ => ⟨[], [], rfl, by simp [repV], by simp, by simp [tszL, Rows.uptoBulkAll]⟩
  | d :: ds, off, h => by
    obtain ⟨t, sl, h0, h1, h2, hr, hb⟩ := h 0 (by simp)
    obtain ⟨l, cs, hl, hrV, hcs, hbs⟩ := gather ds (off + 3) (fun i hi => by
      obtain ⟨t, sl, h0, h1, h2, hr, hb⟩ := h (i + 1) (by simpa using hi)
      have e : off + (i + 1) * 3 = off + 3 + i * 3 := by omega
      rw [e] at h0 h1 h2
      exact ⟨t, sl, h0, h1, h2, hr, by simpa using hb⟩)
    refine ⟨t :: l, .int .i64 t.k :: .int .i64 t.n :: sl :: cs, by simp [hl], ?_, ?_, ?_⟩
    · simp only [repV]
      exact ⟨sl, cs, rfl, hr, hrV⟩
    · intro i hi
      match i, hi with
      | 0, _ => simpa using h0
      | 1, _ => simpa using h1
      | 2, _ => simpa using h2
      | i + 3, hi =>
        have := hcs i (by simpa using hi)
        rw [show off + (i + 3) = off + 3 + i by omega, this]
        simp
    · simp only [tszL, Rows.uptoBulkAll]
      simp only [List.getElem_cons_zero] at hb
      omega

theorem at_of_cells {w : World} {b off : Nat} {cs : List Value} (h0 : 0 < cs.length) (h : ∀ i, i < cs.length → w.cell? ⟨b, off + i, none⟩ = cs[i]?) : At (hp w) b off cs := by
  have h1 := h 0 h0
  rw [List.getElem?_eq_getElem h0] at h1
  unfold World.cell? at h1 h
  cases hb : w.heap[b]? with
  | none => simp [hb] at h1
  | some o =>
    cases o with
    | cells arr e fz =>
      simp only [hb, Option.isSome_none, Bool.false_eq_true, if_false] at h
      refine ⟨arr, e, fz, hb, ?_, fun i hi => h i hi⟩
      have := h (cs.length - 1) (by omega)
      rw [List.getElem?_eq_getElem (show cs.length - 1 < cs.length by omega)] at this
      obtain ⟨hlt, _⟩ := Array.getElem?_eq_some_iff.1 this
      omega
    | _ => simp [hb] at h1

variable {enc : TypeId × Value → H}
theorem cells3 : Try.prog.cellsOf 28 = 3 := by kernel_rfl
theorem wf_i64 {n : Int} (h : (Lit.int .i64 n).wf = true) : isI64 n := by
  simpa [Lit.wf, IntKind.min, IntKind.max, IntKind.signed, IntKind.bits, isI64] using h

set_option maxHeartbeats 1000000 in
theorem open_val {w : World} : ∀ (N n : Nat) (d : DataW H) (ps : List MemPlace) (cs : List Value), Rows.uptoBulk d ≤ N → DataW.trod enc Try.prog w 0 (fun _ => true) true n 28 cs = some (d, ps) →
    ∃ (t : VT) (sl : Value), cs = [.int .i64 t.k, .int .i64 t.n, sl] ∧ t.rep (hp w) sl ∧ tsz t ≤ Rows.uptoBulk d := by
  intro N
  induction N with
  | zero =>
    intro n d ps cs hb h
    obtain ⟨y0, y1, y2, m, hx, _⟩ := Deep.trod_struct3 Try.underlying28 h
    cases hx
    simp [Rows.uptoBulk] at hb
  | succ N ih =>
    intro n d ps cs hb h
    obtain ⟨y0, y1, y2, m, hx, hlen, h0, h1, h2⟩ := Deep.trod_struct3 Try.underlying28 h
    cases hx
    rw [cells3] at hlen
    match cs, hlen with
    | [c0, c1, c2], _ =>
    have e1 : Try.prog.cellsOf 25 = 1 := by kernel_rfl
    have e2 : Try.prog.cellsOf 2 = 1 := by kernel_rfl
    have e3 : Try.prog.cellsOf 26 = 1 := by kernel_rfl
    simp only [e1, e2, e3, List.drop_zero, List.drop_succ_cons, List.take_succ_cons, List.take_zero] at h0 h1 h2
    obtain ⟨k, hk, hy0, hwk⟩ := DataW.trod_int Try.underlying25 h0
    obtain ⟨nn, hn, hy1, hwn⟩ := DataW.trod_int Try.underlying2 h1
    cases hk
    cases hn
    subst hy0 hy1
    have hs := Deep.open_slice Try.underlying26 h2
    rcases hs with ⟨hc, hy⟩ | ⟨a, len, cap, mm, n', D, Pl, hc, _, hle, hcap, hmm, hy, hel⟩
    · cases hc
      subst hy
      exact ⟨.mk k nn [], _, rfl, rep_leaf _ k nn (wf_i64 hwk) (wf_i64 hwn), by simp [tsz, tszL, Rows.uptoBulk, Rows.uptoBulkAll]⟩
    · cases hc
      subst hy
      simp only [if_true] at hmm
      subst hmm
      simp only [Rows.uptoBulk, Rows.uptoBulkAll] at hb ⊢
      have hml : len ≤ 9223372036854775807 := Nat.le_trans (Nat.le_trans hle hcap) (by decide)
      by_cases hz : len = 0
      · subst hz
        refine ⟨.mk k nn [], _, rfl, ?_, by simp only [tsz, tszL]; omega⟩
        rw [rep_iff]
        exact ⟨wf_i64 hwk, wf_i64 hwn, by simp, _, _, rfl, .inl rfl⟩
      · have hel0 := hel 0 (by omega)
        obtain ⟨b, off, spot⟩ := a
        have hspot : spot = none := by
          obtain ⟨cs', q1, _⟩ := hel0
          rw [cells3] at q1
          obtain ⟨_, q2, q3⟩ := World.cells?_some q1
          have q4 := q3 0 (by omega)
          rw [List.getElem?_eq_getElem (by omega)] at q4
          simpa [Addr.add] using World.cell?_spot q4
        subst hspot
        have key := gather (w := w) (b := b) ((List.range len).map D) off (fun i hi => by
          have hi' : i < len := by simpa using hi
          obtain ⟨cs', q1, q2⟩ := hel i (by omega)
          rw [cells3] at q1
          have hmem : D i ∈ (List.range len).map D := List.mem_map.2 ⟨i, by simpa using hi', rfl⟩
          have hbi : Rows.uptoBulk (D i) ≤ Rows.uptoBulkAll ((List.range len).map D) := by
            clear hb ih hel
            generalize (List.range len).map D = L at hmem
            induction L with
            | nil => simp at hmem
            | cons x r ihr =>
              simp only [Rows.uptoBulkAll]
              rcases List.mem_cons.1 hmem with rfl | hm
              · omega
              · have := ihr hm; omega
          obtain ⟨t, sl, rfl, hr, hbt⟩ := ih n' (D i) (Pl i) cs' (by omega) q2
          obtain ⟨_, _, q3⟩ := World.cells?_some q1
          have a0 := q3 0 (by omega)
          have a1 := q3 1 (by omega)
          have a2 := q3 2 (by omega)
          rw [Deep.add_add] at a0 a1 a2
          have ea : ∀ j, (Addr.mk b off none).add j = ⟨b, off + j, none⟩ := by
            intro j
            unfold Addr.add
            split
            · subst_vars; rfl
            · rfl
          rw [ea] at a0 a1 a2
          refine ⟨t, sl, by simpa using a0, by simpa [Nat.add_assoc] using a1, by simpa [Nat.add_assoc] using a2, hr, by simpa using hbt⟩)
        obtain ⟨l, cs, hl, hrV, hcs, hbs⟩ := key
        have hll : l.length = len := by simpa using hl
        have hcl := repV_len hrV
        refine ⟨.mk k nn l, .slice (some ⟨b, off, none⟩) len _, rfl, ?_, ?_⟩
        · rw [rep_iff]
          exact ⟨wf_i64 hwk, wf_i64 hwn, by omega, _, _, by rw [hll], .inr ⟨_, _, _, rfl, at_of_cells (by omega) hcs, hrV⟩⟩
        · simp only [tsz]
          omega

end
end Go.Proofs.Ytpmmbjcgabnloaa
namespace Go.Sx
set_option linter.unusedSimpArgs false
set_option linter.unusedVariables false
open Go.RowKit

def hp (w : World) : Hp := fun b => w.heap[b]?
theorem has_hp (w : World) : Has w (hp w) := fun _ _ h => h
theorem at_of_cells {w : World} {b off : Nat} {cs : List Value} (h0 : 0 < cs.length) (h : ∀ i, i < cs.length → w.cell? ⟨b, off + i, none⟩ = cs[i]?) : At (hp w) b off cs := by
  have h1 := h 0 h0
  rw [List.getElem?_eq_getElem h0] at h1
  unfold World.cell? at h1 h
  cases hb : w.heap[b]? with
  | none => simp [hb] at h1
  | some o =>
    cases o with
    | cells arr e fz =>
      simp only [hb, Option.isSome_none, Bool.false_eq_true, if_false] at h
      refine ⟨arr, e, fz, hb, ?_, fun i hi => h i hi⟩
      have := h (cs.length - 1) (by omega)
      rw [List.getElem?_eq_getElem (show cs.length - 1 < cs.length by omega)] at this
      obtain ⟨hlt, _⟩ := Array.getElem?_eq_some_iff.1 this
      omega
    | _ => simp [hb] at h1
theorem wf_i64 {n : Int} (h : (Lit.int .i64 n).wf = true) : isI64 n := by
  simpa [Lit.wf, IntKind.min, IntKind.max, IntKind.signed, IntKind.bits, isI64] using h
theorem gatherL {α : Type} {r : Rp α} {w : World} {b : Nat} : ∀ (n off : Nat),
    (∀ i, i < n → ∃ x cs', r.e (hp w) x cs' ∧ ∀ j, j < r.size → w.cell? ⟨b, off + i * r.size + j, none⟩ = cs'[j]?) →
    ∃ (l : List α) (cs : List Value), l.length = n ∧ r.L (hp w) l cs ∧ ∀ i, i < cs.length → w.cell? ⟨b, off + i, none⟩ = cs[i]?
  | 0, off, _ => ⟨[], [], rfl, rfl, by simp⟩
  | n + 1, off, h => by
    obtain ⟨x, c0, hx, h0⟩ := h 0 (by omega)
    obtain ⟨l, cs, hl, hL, hcs⟩ := gatherL (r := r) (w := w) (b := b) n (off + r.size) (fun i hi => by
      obtain ⟨x, c, hx, hc⟩ := h (i + 1) (by omega)
      refine ⟨x, c, hx, fun j hj => ?_⟩
      rw [← hc j hj]
      congr 2
      rw [Nat.succ_mul]; omega)
    have hlen := r.len hx
    refine ⟨x :: l, c0 ++ cs, by simp [hl], ⟨c0, cs, rfl, hx, hL⟩, fun i hi => ?_⟩
    rcases Nat.lt_or_ge i r.size with q | q
    · rw [List.getElem?_append_left (by omega)]
      have := h0 i q
      simpa using this
    · rw [List.getElem?_append_right (by omega), ← hcs (i - c0.length) (by simp at hi; omega)]
      congr 2; omega
section
variable {H : Type} {enc : TypeId × Value → H} {P : Program} {w : World}
theorem add_eq (b off j : Nat) : (Addr.mk b off none).add j = ⟨b, off + j, none⟩ := by
  unfold Addr.add
  split
  · subst_vars; rfl
  · rfl
theorem open_int1 {T : TypeId} (hT : P.underlying T = some (.int .i64)) (hc : P.cellsOf T = 1) {n : Nat} {x : DataW H × List MemPlace} {cs : List Value} (h : DataW.trod enc P w 0 (fun _ => true) true n T cs = some x) : ∃ k, cs = [.int .i64 k] ∧ isI64 k := by
  obtain ⟨k, hk, _, hw⟩ := DataW.trod_int hT h
  exact ⟨k, hk, wf_i64 hw⟩
end
end Go.Sx
namespace Go.Proofs.Ytpmmbjcgabnloaa
set_option linter.unusedSimpArgs false
set_option linter.unusedVariables false
open Go.Sx
set_option maxRecDepth 20000
set_option maxHeartbeats 4000000
section
variable {H : Type} {enc : TypeId × Value → H} {w : World}
theorem bulk_mem {d : DataW H} : ∀ {L : List (DataW H)}, d ∈ L → Rows.uptoBulk d ≤ Rows.uptoBulkAll L
  | x :: r, h => by
    simp only [Rows.uptoBulkAll]
    rcases List.mem_cons.1 h with rfl | h
    · omega
    · have := bulk_mem h; omega
theorem open_listB {α : Type} (r : Rp α) {t e : TypeId} {B : Nat} (ht : Try.prog.underlying t = some (.slice e)) (hsz : Try.prog.cellsOf e = r.size) (hpos : 0 < r.size)
    (hel : ∀ n d ps cs, DataW.trod enc Try.prog w 0 (fun _ => true) true n e cs = some (d, ps) → cs.length = r.size → Rows.uptoBulk d ≤ B → ∃ x, r.e (Go.Sx.hp w) x cs)
    {n : Nat} {d : DataW H} {ps : List MemPlace} {cs : List Value} (hB : Rows.uptoBulk d ≤ B) (h : DataW.trod enc Try.prog w 0 (fun _ => true) true n t cs = some (d, ps)) : ∃ (sl : Value) (l : List α), cs = [sl] ∧ r.S (Go.Sx.hp w) l sl := by
  have hs := Deep.open_slice ht h
  rcases hs with ⟨hc, hy⟩ | ⟨a, len, cap, mm, n', D, Pl, hc, _, hle, hcap, hmm, hy, hel2⟩
  · exact ⟨_, [], hc, Rp.S_nil _ _⟩
  · simp only [if_true] at hmm
    subst hmm
    obtain ⟨rfl, _⟩ := Prod.mk.inj hy
    have hml : len ≤ 9223372036854775807 := Nat.le_trans (Nat.le_trans hle hcap) (by decide)
    by_cases hz : len = 0
    · subst hz
      exact ⟨_, [], hc, Rp.S_nil _ _⟩
    · obtain ⟨b, off, spot⟩ := a
      rw [hsz] at hel2
      have hspot : spot = none := by
        obtain ⟨cs', q1, _⟩ := hel2 0 (by omega)
        obtain ⟨_, q2, q3⟩ := World.cells?_some q1
        have q4 := q3 0 (by omega)
        rw [List.getElem?_eq_getElem (by omega)] at q4
        simpa [Addr.add] using World.cell?_spot q4
      subst hspot
      obtain ⟨l, cs2, hl, hL, hcs⟩ := gatherL (r := r) (w := w) (b := b) len off (fun i hi => by
        obtain ⟨cs', q1, q2⟩ := hel2 i (by omega)
        obtain ⟨_, q3, q4⟩ := World.cells?_some q1
        have hmem : D i ∈ (List.range len).map D := List.mem_map.2 ⟨i, by simpa using hi, rfl⟩
        have hbi := bulk_mem hmem
        simp only [Rows.uptoBulk] at hB
        obtain ⟨x, hx⟩ := hel _ _ _ _ q2 (by omega) (by omega)
        refine ⟨x, cs', hx, fun j hj => ?_⟩
        have := q4 j (by omega)
        rw [Deep.add_add, add_eq] at this
        rw [← this, Nat.add_assoc])
      have hlen := Rp.L_len hL
      have hcl : 0 < cs2.length := by rw [hlen, hl]; exact Nat.mul_pos (by omega) hpos
      exact ⟨_, l, hc, by rw [hl]; exact hml, _, _, by rw [hl], .inr ⟨_, _, _, rfl, Go.Sx.at_of_cells hcl hcs, hL⟩⟩
theorem open_op {n : Nat} {d : DataW H} {ps : List MemPlace} {cs : List Value} (hB : Rows.uptoBulk d ≤ 1048576) (h : DataW.trod enc Try.prog w 0 (fun _ => true) true n 40 cs = some (d, ps)) : ∃ (x : Op) (sa sr : Value), cs = opL x sa sr ∧ x.rep (Go.Sx.hp w) sa sr := by
  obtain ⟨xs, n, _, hx, hlen, hl, hf⟩ := DataW.trod_struct Try.underlying40 h
  rw [show Try.prog.cellsOf 40 = 11 by kernel_rfl] at hlen
  match xs, hl with
  | [y0, y1, y2, y3, y4, y5, y6], _ =>
  cases hx
  match cs, hlen with
  | [c0, c1, c2, c3, c4, c5, c6, c7, c8, c9, c10], _ =>
  have h0 := hf 0 _ rfl
  have h1 := hf 1 _ rfl
  have h2 := hf 2 _ rfl
  have h3 := hf 3 _ rfl
  have h4 := hf 4 _ rfl
  have h5 := hf 5 _ rfl
  have h6 := hf 6 _ rfl
  clear hf
  have e1 : Try.prog.cellsOf 3 = 1 := by kernel_rfl
  have e2 : Try.prog.cellsOf 4 = 1 := by kernel_rfl
  simp only [e1, e2, cells3, List.drop_zero, List.drop_succ_cons, List.take_succ_cons, List.take_zero, List.getElem?_cons_zero, List.getElem?_cons_succ] at h0 h1 h2 h3 h4 h5 h6
  simp only [List.map_cons, List.map_nil, Rows.uptoBulk, Rows.uptoBulkAll] at hB
  obtain ⟨th, q0, w0⟩ := open_int1 Try.underlying3 e1 h0
  obtain ⟨kd, q1, w1⟩ := open_int1 Try.underlying3 e1 h1
  obtain ⟨ta, sa, q2, ra, ba⟩ := open_val _ _ _ _ _ (Nat.le_refl _) h2
  obtain ⟨tr, sr, q3, rr, br⟩ := open_val _ _ _ _ _ (Nat.le_refl _) h3
  obtain ⟨fr, q4, w4⟩ := open_int1 Try.underlying3 e1 h4
  obtain ⟨to, q5, w5⟩ := open_int1 Try.underlying3 e1 h5
  obtain ⟨dn, q6, _⟩ := DataW.trod_bool Try.underlying4 h6
  cases q0; cases q1; cases q2; cases q3; cases q4; cases q5; cases q6
  exact ⟨⟨th, kd, ta, tr, fr, to, dn⟩, _, _, rfl, ⟨w0, w1, w4, w5, by show tsz ta ≤ _; omega, by show tsz tr ≤ _; omega⟩, ra, rr⟩
theorem open_ops {n : Nat} {d : DataW H} {ps : List MemPlace} {cs : List Value} (hB : Rows.uptoBulk d ≤ 1048576) (h : DataW.trod enc Try.prog w 0 (fun _ => true) true n 31 cs = some (d, ps)) : ∃ (sl : Value) (l : List Op), cs = [sl] ∧ rO.S (Go.Sx.hp w) l sl :=
  open_listB rO Try.underlying31 (by kernel_rfl) (by decide) (fun n d ps cs h _ hb => open_op hb h) hB h
end
end Go.Proofs.Ytpmmbjcgabnloaa
namespace Go.Proofs.Ytpmmbjcgabnloaa
set_option linter.unusedSimpArgs false
set_option linter.unusedVariables false
open Go.ChangeShapes Go.WideShapes Go.ChangeAt Go.RowKit

theorem own : ownKnob Try.prog.godebug = none := by kernel_rfl
theorem laidOut : laidOutB Try.prog = true := by kernel_rfl

theorem post_below {H : Type} {enc : TypeId × Value → H} {P : Program} {f : Func} {s : ChangeSpec} {fresh handsOn again : Bool} {W W' : World} {args : Array Value} {v : Value} {ds : List (DataW H)} {pa : List MemPlace}
    (hvs : s.vars = []) (hfn : (s.fn H (ds ++ [])).vars = []) (hW : DataW.Whole enc P f.params.toList s.vars false W args.toList ds [] pa)
    (hres : ∀ (b : Nat) (sp : Nat → Bool) (hd : Bool), DataW.TrodAll enc P W' b sp hd f.resultTypes.toList (v.resultList f.resultTypes.size) (s.fn H (ds ++ [])).results [])
    (hargs : ∀ sp : Nat → Bool, (∀ p ∈ pa, sp p.block = true) → DataW.TrodAll enc P W' 0 sp true f.params.toList args.toList (s.fn H (ds ++ [])).args pa)
    (hb : Below W.heap.size W W')
    (hok : ∀ (j : Nat) (t : TypeId) (r : Value), f.resultTypes[j]? = some t → (v.resultList f.resultTypes.size)[j]? = some r → Value.okWide P W' .any 0 t r) :
    s.post enc P f false fresh handsOn again W args v W' := by
  have hlt := hW.lt
  have hvars : ∀ sp : Nat → Bool, DataW.TrodVars enc P W' sp s.vars (s.fn H (ds ++ [])).vars [] := fun sp => by rw [hvs, hfn]; rfl
  have hz := hW
  obtain ⟨_, _, _, _, _, hfrozen, _⟩ := hz
  refine ⟨ds, [], pa, [], pa, [], hW, hres _ _ _, hargs _ (fun p hp => by simpa using hlt p hp), hvars _, World.keptBut_mono (fun p hp => ⟨hp, Or.inr (by simpa using hp)⟩) (hb.frame (· ∈ pa)), fun _ => ?_⟩
  refine ⟨hok, _, _, ([] ++ pa) ++ [], ⟨[] ++ pa, [], trodAll_append (hargs _ (fun _ _ => rfl)) (hres _ _ _), hvars _, rfl, fun b off hp => ?_, by simp⟩, fun p hp _ => by simpa using hp⟩
  · have hp' : MemPlace.cell b off ∈ pa := by simpa using hp
    rw [hb.frozen (hlt _ hp')]
    exact hfrozen b off hp'
end Go.Proofs.Ytpmmbjcgabnloaa
