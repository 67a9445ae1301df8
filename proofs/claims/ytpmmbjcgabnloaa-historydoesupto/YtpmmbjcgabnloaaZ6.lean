/-
  Rows.HistoryDoesUptoSaid is proved here: for arguments of bulk at most 1048576.
-/
import Derived.Test.YtpmmbjcgabnloaaZ5
set_option linter.unusedSimpArgs false
set_option linter.unusedVariables false
namespace Go.Sx
set_option linter.unusedSimpArgs false
set_option linter.unusedVariables false
open Go.RowKit
section
variable {C : Ctx} {R : Array Oper} {d : Option Tmp} {t : TypeId} {pos : String} {aft : Array Edge} {K : List KI} {s : St}
theorem hu_three (i j k : Nat) {own0 : List (Nat × Nat × OO)} {G0 : Hp} {n p : Nat} {listed : Array Bool} {op op' op'' : Op} {g g' g'' : Option (Nat × Bool)} {d' d'' : Option Tmp} {t' t'' : TypeId} {pos' pos'' : String} {aft' aft'' : Array Edge} (hi : R[i]? = some ⟨d, op, t, pos, aft, g⟩) (hj : R[j]? = some ⟨d', op', t', pos', aft', g'⟩) (hk : R[k]? = some ⟨d'', op'', t'', pos'', aft'', g''⟩) (hr : Region.ready .any R listed = [i, j, k])
    (h : SGo C (.ops R [⟨d, op, t, pos, aft, g⟩] :: .hs (Hold C own0 G0) :: .hu (Hold C own0 G0) p R n (listed.setIfInBounds i true) :: K) s)
    (h' : SGo C (.ops R [⟨d', op', t', pos', aft', g'⟩] :: .hs (Hold C own0 G0) :: .hu (Hold C own0 G0) p R n (listed.setIfInBounds j true) :: K) s)
    (h'' : SGo C (.ops R [⟨d'', op'', t'', pos'', aft'', g''⟩] :: .hs (Hold C own0 G0) :: .hu (Hold C own0 G0) p R n (listed.setIfInBounds k true) :: K) s) : SGo C (.hu (Hold C own0 G0) p R (n + 1) listed :: K) s := by
  intro a w hS
  have h1 := h a w hS
  have h2 := h' a w hS
  have h3 := h'' a w hS
  show wpAnyHU _ _ _ _ _ _ _ _ _ _ _
  refine ⟨fun q => (by rw [hr] at q; cases q), fun q hq => ?_⟩
  rw [hr] at hq
  simp only [List.mem_cons, List.not_mem_nil, or_false] at hq
  rcases hq with rfl | rfl | rfl
  · exact hu_step hi (.inl rfl) h1
  · exact hu_step hj (.inl rfl) h2
  · exact hu_step hk (.inl rfl) h3
end
end Go.Sx
namespace Go.Proofs.Ytpmmbjcgabnloaa
set_option linter.unusedSimpArgs false
set_option linter.unusedVariables false
open Go.Sx
set_option maxHeartbeats 8000000
set_option maxRecDepth 20000
mutual
theorem veq_rf : ∀ (x : VT), veq x x = true
  | .mk k n l => by simp [veq, veqL_rf l]
theorem veqL_rf : ∀ (l : List VT), veqL l l = true
  | [] => by simp [veqL]
  | x :: l => by simp [veqL, veq_rf x, veqL_rf l]
end
theorem vsm_rf {x : VT} (h : sml x = true) : vsm x x = true := by simp [vsm, h, veq_rf]
theorem vlEq_rf : ∀ {l : List VT}, (∀ x ∈ l, sml x = true) → vlEq l l = true
  | [], _ => by simp [vlEq]
  | x :: l, h => by rw [vlEq, vsm_rf (h x List.mem_cons_self), vlEq_rf fun y hy => h y (List.mem_cons_of_mem _ hy)]; rfl
theorem plEq_rf : ∀ {l : List Po}, (∀ x ∈ l, sml x.nm = true) → plEq l l = true
  | [], _ => by simp [plEq]
  | x :: l, h => by rw [plEq, vsm_rf (h x List.mem_cons_self), plEq_rf fun y hy => h y (List.mem_cons_of_mem _ hy), beq_self_eq_true]; rfl
theorem stEq_rf {s : MS} (h : ∀ x ∈ s.vals, sml x = true) (h' : ∀ p ∈ s.ps, sml p.nm = true) : stEq s s = true := by simp [stEq, vlEq_rf h, plEq_rf h']
structure RGood (s : MS) (r : MS × VT × Bool × Int) : Prop where
  v : ∀ x ∈ r.1.vals, sml x = true
  p : ∀ p ∈ r.1.ps, sml p.nm = true
  t : sml r.2.1 = true
  lv : r.1.vals.length ≤ s.vals.length + 1
  lp : r.1.ps.length ≤ s.ps.length + 1
theorem doR_good (m : Int) (s : MS) (o : Op) : RGood s (doR m s o) := by
  rw [doR]
  split
  · rename_i h
    simp only [Bool.and_eq_true] at h
    obtain ⟨h1, h2⟩ := h
    have hd := do_vd (m := m) (o := o) (stOk_vd h2).1 (rgt_vld h1).1 (rgt_vld h1).2
    exact ⟨fun x hx => vld_sml (hd.vd.v x hx), fun p hp => vld_sml (hd.vd.p p hp), hd.sm, hd.lv, hd.lp⟩
  · exact ⟨by simp, by simp, sml_none, by simp, by simp⟩
theorem lay_one' {α : Type} : ∀ (l : List α) (n : Nat) (v : α), n < l.length → lay l n [v] = some (l.set n v)
  | [], n, v, h => by simp at h
  | x :: l, 0, v, h => by simp [lay]
  | x :: l, n + 1, v, h => by
    have := lay_one' l n v (by simpa using h)
    simp [lay, this]
theorem take1' {α : Type} {l : List α} {n : Nat} {v : α} (h : l[n]? = some v) : (l.drop n).take 1 = [v] := by
  obtain ⟨h1, h2⟩ := List.getElem?_eq_some_iff.1 h
  rw [List.drop_eq_getElem_cons h1, h2]
  simp
def NumAt (sz off n : Nat) (xs : List Value) : Prop := xs.length = n * sz ∧ ∀ i, i < n → ∃ k : Int, xs[i * sz + off]? = some (.int .i64 k)
theorem numAt_v {G : Hp} {l : List VT} {xs : List Value} (h : rV.L G l xs) : NumAt 3 1 l.length xs := by
  refine ⟨Rp.L_len h, fun i hi => ?_⟩
  obtain ⟨c, h1, sl, rfl, _⟩ := Rp.L_get h hi
  have h2 := congrArg (fun q => q[1]?) h1
  exact ⟨l[i].n, by simpa [rV, List.getElem?_take, List.getElem?_drop] using h2⟩
theorem numAt_p {G : Hp} {l : List Po} {xs : List Value} (h : rPo.L G l xs) : NumAt 4 3 l.length xs := by
  refine ⟨Rp.L_len h, fun i hi => ?_⟩
  obtain ⟨c, h1, sl, rfl, _⟩ := Rp.L_get h hi
  have h2 := congrArg (fun q => q[3]?) h1
  exact ⟨l[i].pt, by simpa [rPo, List.getElem?_take, List.getElem?_drop] using h2⟩
theorem NumAt.set {sz off n : Nat} {xs : List Value} (h : NumAt sz off n xs) (p : Nat) (k : Int) : NumAt sz off n (xs.set p (.int .i64 k)) := by
  refine ⟨by simp [h.1], fun i hi => ?_⟩
  rw [List.getElem?_set]
  obtain ⟨k', hk⟩ := h.2 i hi
  have hlt := (List.getElem?_eq_some_iff.1 hk).1
  by_cases q : p = i * sz + off
  · rw [if_pos q, if_pos (by omega)]; exact ⟨k, rfl⟩
  · rw [if_neg q]; exact ⟨k', hk⟩
theorem historyDoes_ok (m : Int) (s : MS) (o : Op) (sv sp sa sr : Value) (G : Hp) (hs : s.rep G sv sp) (ho : o.rep G sa sr) : Pure Try.prog 4 [.int .i64 m, .agg #[sv, sp], .agg (opL o sa sr).toArray] G (fun v _ => v = .bool true) := by
  obtain ⟨ada, capa, rfl⟩ := VT.rep_slice ho.a
  obtain ⟨adr, capr, rfl⟩ := VT.rep_slice ho.r
  obtain ⟨ad1, cap1, rfl⟩ := Rp.S_slice hs.v
  obtain ⟨ad2, cap2, rfl⟩ := Rp.S_slice hs.p
  refine enterX ty tyok Try.func4 rfl Try.ntmps4 [.v (.int .i64 m), .a [.v (.slice ad1 s.vals.length cap1), .v (.slice ad2 s.ps.length cap2)], .a (opC o (.slice ada o.arg.l.length capa) (.slice adr o.res.l.length capr))] (by simp) ?_
  simp only [opC]
  intro C hP hQ hnt hty hmb hmh hro; have hQp := qp_body hQ; refine st_ ?_
  refine rn_ ?_; intros
  refine go_callf (by rw [hnt]; rfl) (by rw [hP]; kernel_rfl) rfl (hP ▸ small_ok29 s _ _ G hs) ?_; refine rn_ ?_; intros
  refine go_gsplit rfl rfl (fun h1 => ?_) (fun h1 => ?_) <;> (refine st_ ?_; (refine rn_ ?_; intros))
  · repeat (refine go_gundef rfl (by rw [hnt]; rfl) rfl ?_; (refine st_ ?_; (refine rn_ ?_; intros)))
    refine rn_ ?_; intros
    refine go_callf (by rw [hnt]; rfl) (by rw [hP]; kernel_rfl) rfl (hP ▸ works29_ok G) ?_; refine rn_ ?_; intros
    refine x_retc rfl hQ hmb rfl (by rw [hty]; simp only [so, sq, zy, zz, tyE, SO', SQ', opQ, opStore, opAlloc, ev, putS, dOk, cv, SV.cs, SV.one, SV.bool?, eqB, Value.oneCell', ldOwn, binInt, binConst, binBool, binStr, isC, TK.agg, rv, rv1, ldV, resOne, resV, Nat.reduceAdd, Nat.reduceMul, Nat.reduceSub, Nat.reduceLT, Nat.reduceLeDiff, Nat.reduceEqDiff, Nat.reduceBEq, reduceIte, reduceCtorEq, eq_self]; try rfl) rfl ?_; simp only [SV.den, resV, dens]
  have hsm : smlS s = true := by simpa using h1
  simp only [smlS, Bool.and_eq_true, decide_eq_true_eq] at hsm
  have hl1 := hsm.1.1.1
  have hl2 := hsm.1.1.2
  refine rn_ ?_; intros
  rename_i bx
  refine go_pub 2 rfl (by omega) ?_
  intro G1 (hle1 : Le G G1) hG
  have hat := at_block hG
  simp only [dens, SV.den] at hat
  refine go_slot 23 (.v (.slice (some ⟨bx, 0, none⟩) 1 1)) rfl (by simp [SV.den]) ?_
  refine st_ ?_
  have ho1 := ho.mono hle1
  have hM1 : rO.S G1 [o] (.slice (some ⟨bx, 0, none⟩) 1 1) := ⟨by simp, _, _, rfl, .inr ⟨_, _, _, rfl, hat, [_, _, _, _, _, _, _, _, _, _, _], _, rfl, ⟨_, _, rfl, ho1⟩, rfl⟩⟩
  refine go_callf (by rw [hnt]; rfl) (by rw [hP]; kernel_rfl) rfl (hP ▸ few_ok [o] _ 1 G1 hM1) ?_; refine rn_ ?_; intros
  clear hM1 hat
  refine x_split rfl rfl rfl (fun h2 => ?_) (fun h2 => ?_) <;> (refine st_ ?_; (refine ru_ ?_; intros))
  · refine rn_ ?_; intros
    refine go_callf (by rw [hnt]; rfl) (by rw [hP]; kernel_rfl) rfl (hP ▸ works29_ok G1) ?_; refine rn_ ?_; intros
    refine x_retc rfl hQ hmb rfl (by rw [hty]; simp only [so, sq, zy, zz, tyE, SO', SQ', opQ, opStore, opAlloc, ev, putS, dOk, cv, SV.cs, SV.one, SV.bool?, eqB, Value.oneCell', ldOwn, binInt, binConst, binBool, binStr, isC, TK.agg, rv, rv1, ldV, resOne, resV, Nat.reduceAdd, Nat.reduceMul, Nat.reduceSub, Nat.reduceLT, Nat.reduceLeDiff, Nat.reduceEqDiff, Nat.reduceBEq, reduceIte, reduceCtorEq, eq_self]; try rfl) rfl ?_; simp only [SV.den, resV, dens]
  refine go_keep [0, 4, 5] [0, 1] ?_
  refine st_ ?_
  rename_i b1 b0
  have hs1 := hs.mono hle1
  obtain ⟨csV, hcsV, hsrcV⟩ := Rp.srcS hs1.v
  obtain ⟨csP, hcsP, hsrcP⟩ := Rp.srcS hs1.p
  refine cut_tail 1 (fun s' => ∃ (b7 : Nat) (G4 : Hp) (a3 a4 : Option Addr) (c3 c4 : Nat), Le G1 G4 ∧ rV.S G4 s.vals (.slice a3 s.vals.length c3) ∧ s.vals.length ≤ c3 ∧ rPo.S G4 s.ps (.slice a4 s.ps.length c4) ∧
    At G4 b7 0 [.slice a3 s.vals.length c3, .slice a4 s.ps.length c4] ∧
    s' = ⟨[(0, .v (.int .i64 m)), (4, .p 0 b1 0), (5, .p 1 b0 0), (7, .v (.pointer (some ⟨b7, 0, none⟩)))],
      [(0, b1, .c 44 [.v (.slice ad1 s.vals.length cap1), .v (.slice ad2 s.ps.length cap2)]), (1, b0, .c 40 (opC o (.slice ada o.arg.l.length capa) (.slice adr o.res.l.length capr)))], G4, []⟩) ?_ ?_
  rotate_left
  · intro key
    simp only [List.drop_succ_cons, List.drop_zero] at key
    refine rn_ ?_; intros
    refine x_heldP [(0, b1, .c 44 [.v (.slice ad1 s.vals.length cap1), .v (.slice ad2 s.ps.length cap2)]), (1, b0, .c 40 (opC o (.slice ada o.arg.l.length capa) (.slice adr o.res.l.length capr)))] 10 rfl (by rw [hP]; kernel_rfl) rfl rfl rfl ?_; refine st_ ?_
    refine hu_take 1 rfl (by kernel_rfl) (by kernel_rfl) (by kernel_rfl) (by kernel_rfl) rfl (fun c a w v => hQp c a w _ v) (by rw [hnt]; rfl) (allIn (by repeat (first | exact trivial | refine ⟨rfl, ?_⟩))) (by first | exact Le.refl _ | assumption) (quiet_op (by rw [hty]; first | rfl | (refine st_ ?_; rfl))) ?_; refine st_ ?_
    refine hu_take 2 rfl (by kernel_rfl) (by kernel_rfl) (by kernel_rfl) (by kernel_rfl) rfl (fun c a w v => hQp c a w _ v) (by rw [hnt]; rfl) (allIn (by repeat (first | exact trivial | refine ⟨rfl, ?_⟩))) (by first | exact Le.refl _ | assumption) (quiet_op (by rw [hty]; first | rfl | (refine st_ ?_; rfl))) ?_; refine st_ ?_
    refine hu_take 5 rfl (by kernel_rfl) (by kernel_rfl) (by kernel_rfl) (by kernel_rfl) rfl (fun c a w v => hQp c a w _ v) (by rw [hnt]; rfl) (allIn (by repeat (first | exact trivial | refine ⟨rfl, ?_⟩))) (by first | exact Le.refl _ | assumption) (quiet_op (by rw [hty]; first | rfl | (refine st_ ?_; rfl))) ?_; refine st_ ?_
    refine hu_take 6 rfl (by kernel_rfl) (by kernel_rfl) (by kernel_rfl) (by kernel_rfl) rfl (fun c a w v => hQp c a w _ v) (by rw [hnt]; rfl) (allIn (by repeat (first | exact trivial | refine ⟨rfl, ?_⟩))) (by first | exact Le.refl _ | assumption) (quiet_op (by rw [hty]; first | rfl | (refine st_ ?_; rfl))) ?_; refine st_ ?_
    refine hu_three 0 4 9 rfl rfl rfl (by kernel_rfl) ?_ ?_ ?_
    · refine rn_ ?_; intros
      refine h_hs (allIn (by repeat (first | exact trivial | refine ⟨rfl, ?_⟩))) (by first | exact Le.refl _ | assumption) ?_
      refine hu_three 3 4 9 rfl rfl rfl (by kernel_rfl) ?_ ?_ ?_
      · refine go_litrow 2 (n := 0) (size := 3) rfl (by omega) rfl (by omega) ?_
        refine st_ ?_
        refine go_append_any 2 (by rw [hnt]; rfl) (by rw [hty]; rfl) (by rw [hty]; rfl) (by decide) rfl rfl rfl (by omega) rfl (hsrcV.imp id fun f => f _ _ rfl) (Rp.L_len hcsV) (Rp.L_one hcsV) (by omega) (by simp only []; omega) ?_
        intro v1
        refine go_rowC 2 rfl ?_
        rintro a3 c3 rfl hc3
        refine rn_ ?_; intros
        refine h_hs (allIn (by repeat (first | exact trivial | refine ⟨rfl, ?_⟩))) (by first | exact Le.refl _ | assumption) ?_
        refine hu_two 4 9 rfl rfl (by kernel_rfl) ?_ ?_
        · refine rn_ ?_; intros
          refine h_hs (allIn (by repeat (first | exact trivial | refine ⟨rfl, ?_⟩))) (by first | exact Le.refl _ | assumption) ?_
          refine hu_two 7 9 rfl rfl (by kernel_rfl) ?_ ?_
          · refine go_litrow 3 (n := 0) (size := 4) rfl (by omega) rfl (by omega) ?_
            refine st_ ?_
            refine go_append_any 3 (by rw [hnt]; rfl) (by rw [hty]; rfl) (by rw [hty]; rfl) (by decide) rfl rfl rfl (by omega) rfl (hsrcP.imp id fun f => f _ _ rfl) (Rp.L_len hcsP) (Rp.L_one hcsP) (by omega) (by simp only []; omega) ?_
            intro v2
            refine go_rowS 3 rfl ?_
            rintro a4 c4 rfl
            refine rn_ ?_; intros
            refine h_hs (allIn (by repeat (first | exact trivial | refine ⟨rfl, ?_⟩))) (by first | exact Le.refl _ | assumption) ?_
            refine hu_take 8 rfl (by kernel_rfl) (by kernel_rfl) (by kernel_rfl) (by kernel_rfl) rfl (fun c a w v => hQp c a w _ v) (by rw [hnt]; rfl) (allIn (by repeat (first | exact trivial | refine ⟨rfl, ?_⟩))) (by first | exact Le.refl _ | assumption) (quiet_op (by rw [hty]; first | rfl | (refine st_ ?_; rfl))) ?_; refine st_ ?_
            refine hu_one 9 rfl (by kernel_rfl) ?_
            refine rn_ ?_; intros
            rename_i b7
            refine h_hs (allIn (by repeat (first | exact trivial | refine ⟨rfl, ?_⟩))) (by first | exact Le.refl _ | assumption) ?_
            refine hu_last 10 [] rfl (by kernel_rfl) rfl ?_
            refine rn_ ?_; intros
            refine h_end (by kernel_rfl) ?_
            refine go_pubL rV 2 rfl (by omega) (ts := s.vals) rfl (by omega) hcsV ?_
            intro G2 adx cx (hle2 : Le G1 G2) he2 hS2
            cases he2
            refine st_ ?_
            refine go_pubL rPo 3 rfl (by omega) (ts := s.ps) rfl (by omega) (Rp.L_mono hle2 hcsP) ?_
            intro G3 ady cy (hle3 : Le G2 G3) he3 hS3
            cases he3
            refine st_ ?_
            refine go_pub 4 rfl (by omega) ?_
            intro G4 (hle4 : Le G3 G4) hG
            have hat := at_block hG
            simp only [dens, SV.den] at hat
            refine go_slot 7 (.v (.pointer (some ⟨b7, 0, none⟩))) rfl (by simp [SV.den]) ?_
            refine st_ ?_
            refine go_keep [0, 4, 5, 7] [0, 1] ?_
            refine st_ ?_
            exact key _ ⟨b7, G4, _, _, _, _, hle2.trans (hle3.trans hle4), Rp.S_mono (hle3.trans hle4) hS2, by omega, Rp.S_mono hle4 hS3, hat, rfl⟩
          · refine rn_ ?_; intros
            rename_i b7
            refine h_hs (allIn (by repeat (first | exact trivial | refine ⟨rfl, ?_⟩))) (by first | exact Le.refl _ | assumption) ?_
            refine hu_one 7 rfl (by kernel_rfl) ?_
            refine go_litrow 3 (n := 0) (size := 4) rfl (by omega) rfl (by omega) ?_
            refine st_ ?_
            refine go_append_any 3 (by rw [hnt]; rfl) (by rw [hty]; rfl) (by rw [hty]; rfl) (by decide) rfl rfl rfl (by omega) rfl (hsrcP.imp id fun f => f _ _ rfl) (Rp.L_len hcsP) (Rp.L_one hcsP) (by omega) (by simp only []; omega) ?_
            intro v2
            refine go_rowS 3 rfl ?_
            rintro a4 c4 rfl
            refine rn_ ?_; intros
            refine h_hs (allIn (by repeat (first | exact trivial | refine ⟨rfl, ?_⟩))) (by first | exact Le.refl _ | assumption) ?_
            refine hu_take 8 rfl (by kernel_rfl) (by kernel_rfl) (by kernel_rfl) (by kernel_rfl) rfl (fun c a w v => hQp c a w _ v) (by rw [hnt]; rfl) (allIn (by repeat (first | exact trivial | refine ⟨rfl, ?_⟩))) (by first | exact Le.refl _ | assumption) (quiet_op (by rw [hty]; first | rfl | (refine st_ ?_; rfl))) ?_; refine st_ ?_
            refine hu_last 10 [] rfl (by kernel_rfl) rfl ?_
            refine rn_ ?_; intros
            refine h_end (by kernel_rfl) ?_
            refine go_pubL rV 2 rfl (by omega) (ts := s.vals) rfl (by omega) hcsV ?_
            intro G2 adx cx (hle2 : Le G1 G2) he2 hS2
            cases he2
            refine st_ ?_
            refine go_pubL rPo 3 rfl (by omega) (ts := s.ps) rfl (by omega) (Rp.L_mono hle2 hcsP) ?_
            intro G3 ady cy (hle3 : Le G2 G3) he3 hS3
            cases he3
            refine st_ ?_
            refine go_pub 4 rfl (by omega) ?_
            intro G4 (hle4 : Le G3 G4) hG
            have hat := at_block hG
            simp only [dens, SV.den] at hat
            refine go_slot 7 (.v (.pointer (some ⟨b7, 0, none⟩))) rfl (by simp [SV.den]) ?_
            refine st_ ?_
            refine go_keep [0, 4, 5, 7] [0, 1] ?_
            refine st_ ?_
            exact key _ ⟨b7, G4, _, _, _, _, hle2.trans (hle3.trans hle4), Rp.S_mono (hle3.trans hle4) hS2, by omega, Rp.S_mono hle4 hS3, hat, rfl⟩
        · refine rn_ ?_; intros
          rename_i b7
          refine h_hs (allIn (by repeat (first | exact trivial | refine ⟨rfl, ?_⟩))) (by first | exact Le.refl _ | assumption) ?_
          refine hu_one 4 rfl (by kernel_rfl) ?_
          refine rn_ ?_; intros
          refine h_hs (allIn (by repeat (first | exact trivial | refine ⟨rfl, ?_⟩))) (by first | exact Le.refl _ | assumption) ?_
          refine hu_one 7 rfl (by kernel_rfl) ?_
          refine go_litrow 4 (n := 0) (size := 4) rfl (by omega) rfl (by omega) ?_
          refine st_ ?_
          refine go_append_any 4 (by rw [hnt]; rfl) (by rw [hty]; rfl) (by rw [hty]; rfl) (by decide) rfl rfl rfl (by omega) rfl (hsrcP.imp id fun f => f _ _ rfl) (Rp.L_len hcsP) (Rp.L_one hcsP) (by omega) (by simp only []; omega) ?_
          intro v2
          refine go_rowS 4 rfl ?_
          rintro a4 c4 rfl
          refine rn_ ?_; intros
          refine h_hs (allIn (by repeat (first | exact trivial | refine ⟨rfl, ?_⟩))) (by first | exact Le.refl _ | assumption) ?_
          refine hu_take 8 rfl (by kernel_rfl) (by kernel_rfl) (by kernel_rfl) (by kernel_rfl) rfl (fun c a w v => hQp c a w _ v) (by rw [hnt]; rfl) (allIn (by repeat (first | exact trivial | refine ⟨rfl, ?_⟩))) (by first | exact Le.refl _ | assumption) (quiet_op (by rw [hty]; first | rfl | (refine st_ ?_; rfl))) ?_; refine st_ ?_
          refine hu_last 10 [] rfl (by kernel_rfl) rfl ?_
          refine rn_ ?_; intros
          refine h_end (by kernel_rfl) ?_
          refine go_pubL rV 2 rfl (by omega) (ts := s.vals) rfl (by omega) hcsV ?_
          intro G2 adx cx (hle2 : Le G1 G2) he2 hS2
          cases he2
          refine st_ ?_
          refine go_pubL rPo 4 rfl (by omega) (ts := s.ps) rfl (by omega) (Rp.L_mono hle2 hcsP) ?_
          intro G3 ady cy (hle3 : Le G2 G3) he3 hS3
          cases he3
          refine st_ ?_
          refine go_pub 3 rfl (by omega) ?_
          intro G4 (hle4 : Le G3 G4) hG
          have hat := at_block hG
          simp only [dens, SV.den] at hat
          refine go_slot 7 (.v (.pointer (some ⟨b7, 0, none⟩))) rfl (by simp [SV.den]) ?_
          refine st_ ?_
          refine go_keep [0, 4, 5, 7] [0, 1] ?_
          refine st_ ?_
          exact key _ ⟨b7, G4, _, _, _, _, hle2.trans (hle3.trans hle4), Rp.S_mono (hle3.trans hle4) hS2, by omega, Rp.S_mono hle4 hS3, hat, rfl⟩
      · refine rn_ ?_; intros
        refine h_hs (allIn (by repeat (first | exact trivial | refine ⟨rfl, ?_⟩))) (by first | exact Le.refl _ | assumption) ?_
        refine hu_two 3 9 rfl rfl (by kernel_rfl) ?_ ?_
        · refine go_litrow 2 (n := 0) (size := 3) rfl (by omega) rfl (by omega) ?_
          refine st_ ?_
          refine go_append_any 2 (by rw [hnt]; rfl) (by rw [hty]; rfl) (by rw [hty]; rfl) (by decide) rfl rfl rfl (by omega) rfl (hsrcV.imp id fun f => f _ _ rfl) (Rp.L_len hcsV) (Rp.L_one hcsV) (by omega) (by simp only []; omega) ?_
          intro v1
          refine go_rowC 2 rfl ?_
          rintro a3 c3 rfl hc3
          refine rn_ ?_; intros
          refine h_hs (allIn (by repeat (first | exact trivial | refine ⟨rfl, ?_⟩))) (by first | exact Le.refl _ | assumption) ?_
          refine hu_two 7 9 rfl rfl (by kernel_rfl) ?_ ?_
          · refine go_litrow 3 (n := 0) (size := 4) rfl (by omega) rfl (by omega) ?_
            refine st_ ?_
            refine go_append_any 3 (by rw [hnt]; rfl) (by rw [hty]; rfl) (by rw [hty]; rfl) (by decide) rfl rfl rfl (by omega) rfl (hsrcP.imp id fun f => f _ _ rfl) (Rp.L_len hcsP) (Rp.L_one hcsP) (by omega) (by simp only []; omega) ?_
            intro v2
            refine go_rowS 3 rfl ?_
            rintro a4 c4 rfl
            refine rn_ ?_; intros
            refine h_hs (allIn (by repeat (first | exact trivial | refine ⟨rfl, ?_⟩))) (by first | exact Le.refl _ | assumption) ?_
            refine hu_take 8 rfl (by kernel_rfl) (by kernel_rfl) (by kernel_rfl) (by kernel_rfl) rfl (fun c a w v => hQp c a w _ v) (by rw [hnt]; rfl) (allIn (by repeat (first | exact trivial | refine ⟨rfl, ?_⟩))) (by first | exact Le.refl _ | assumption) (quiet_op (by rw [hty]; first | rfl | (refine st_ ?_; rfl))) ?_; refine st_ ?_
            refine hu_one 9 rfl (by kernel_rfl) ?_
            refine rn_ ?_; intros
            rename_i b7
            refine h_hs (allIn (by repeat (first | exact trivial | refine ⟨rfl, ?_⟩))) (by first | exact Le.refl _ | assumption) ?_
            refine hu_last 10 [] rfl (by kernel_rfl) rfl ?_
            refine rn_ ?_; intros
            refine h_end (by kernel_rfl) ?_
            refine go_pubL rV 2 rfl (by omega) (ts := s.vals) rfl (by omega) hcsV ?_
            intro G2 adx cx (hle2 : Le G1 G2) he2 hS2
            cases he2
            refine st_ ?_
            refine go_pubL rPo 3 rfl (by omega) (ts := s.ps) rfl (by omega) (Rp.L_mono hle2 hcsP) ?_
            intro G3 ady cy (hle3 : Le G2 G3) he3 hS3
            cases he3
            refine st_ ?_
            refine go_pub 4 rfl (by omega) ?_
            intro G4 (hle4 : Le G3 G4) hG
            have hat := at_block hG
            simp only [dens, SV.den] at hat
            refine go_slot 7 (.v (.pointer (some ⟨b7, 0, none⟩))) rfl (by simp [SV.den]) ?_
            refine st_ ?_
            refine go_keep [0, 4, 5, 7] [0, 1] ?_
            refine st_ ?_
            exact key _ ⟨b7, G4, _, _, _, _, hle2.trans (hle3.trans hle4), Rp.S_mono (hle3.trans hle4) hS2, by omega, Rp.S_mono hle4 hS3, hat, rfl⟩
          · refine rn_ ?_; intros
            rename_i b7
            refine h_hs (allIn (by repeat (first | exact trivial | refine ⟨rfl, ?_⟩))) (by first | exact Le.refl _ | assumption) ?_
            refine hu_one 7 rfl (by kernel_rfl) ?_
            refine go_litrow 3 (n := 0) (size := 4) rfl (by omega) rfl (by omega) ?_
            refine st_ ?_
            refine go_append_any 3 (by rw [hnt]; rfl) (by rw [hty]; rfl) (by rw [hty]; rfl) (by decide) rfl rfl rfl (by omega) rfl (hsrcP.imp id fun f => f _ _ rfl) (Rp.L_len hcsP) (Rp.L_one hcsP) (by omega) (by simp only []; omega) ?_
            intro v2
            refine go_rowS 3 rfl ?_
            rintro a4 c4 rfl
            refine rn_ ?_; intros
            refine h_hs (allIn (by repeat (first | exact trivial | refine ⟨rfl, ?_⟩))) (by first | exact Le.refl _ | assumption) ?_
            refine hu_take 8 rfl (by kernel_rfl) (by kernel_rfl) (by kernel_rfl) (by kernel_rfl) rfl (fun c a w v => hQp c a w _ v) (by rw [hnt]; rfl) (allIn (by repeat (first | exact trivial | refine ⟨rfl, ?_⟩))) (by first | exact Le.refl _ | assumption) (quiet_op (by rw [hty]; first | rfl | (refine st_ ?_; rfl))) ?_; refine st_ ?_
            refine hu_last 10 [] rfl (by kernel_rfl) rfl ?_
            refine rn_ ?_; intros
            refine h_end (by kernel_rfl) ?_
            refine go_pubL rV 2 rfl (by omega) (ts := s.vals) rfl (by omega) hcsV ?_
            intro G2 adx cx (hle2 : Le G1 G2) he2 hS2
            cases he2
            refine st_ ?_
            refine go_pubL rPo 3 rfl (by omega) (ts := s.ps) rfl (by omega) (Rp.L_mono hle2 hcsP) ?_
            intro G3 ady cy (hle3 : Le G2 G3) he3 hS3
            cases he3
            refine st_ ?_
            refine go_pub 4 rfl (by omega) ?_
            intro G4 (hle4 : Le G3 G4) hG
            have hat := at_block hG
            simp only [dens, SV.den] at hat
            refine go_slot 7 (.v (.pointer (some ⟨b7, 0, none⟩))) rfl (by simp [SV.den]) ?_
            refine st_ ?_
            refine go_keep [0, 4, 5, 7] [0, 1] ?_
            refine st_ ?_
            exact key _ ⟨b7, G4, _, _, _, _, hle2.trans (hle3.trans hle4), Rp.S_mono (hle3.trans hle4) hS2, by omega, Rp.S_mono hle4 hS3, hat, rfl⟩
        · refine rn_ ?_; intros
          rename_i b7
          refine h_hs (allIn (by repeat (first | exact trivial | refine ⟨rfl, ?_⟩))) (by first | exact Le.refl _ | assumption) ?_
          refine hu_one 3 rfl (by kernel_rfl) ?_
          refine go_litrow 2 (n := 0) (size := 3) rfl (by omega) rfl (by omega) ?_
          refine st_ ?_
          refine go_append_any 2 (by rw [hnt]; rfl) (by rw [hty]; rfl) (by rw [hty]; rfl) (by decide) rfl rfl rfl (by omega) rfl (hsrcV.imp id fun f => f _ _ rfl) (Rp.L_len hcsV) (Rp.L_one hcsV) (by omega) (by simp only []; omega) ?_
          intro v1
          refine go_rowC 2 rfl ?_
          rintro a3 c3 rfl hc3
          refine rn_ ?_; intros
          refine h_hs (allIn (by repeat (first | exact trivial | refine ⟨rfl, ?_⟩))) (by first | exact Le.refl _ | assumption) ?_
          refine hu_one 7 rfl (by kernel_rfl) ?_
          refine go_litrow 3 (n := 0) (size := 4) rfl (by omega) rfl (by omega) ?_
          refine st_ ?_
          refine go_append_any 3 (by rw [hnt]; rfl) (by rw [hty]; rfl) (by rw [hty]; rfl) (by decide) rfl rfl rfl (by omega) rfl (hsrcP.imp id fun f => f _ _ rfl) (Rp.L_len hcsP) (Rp.L_one hcsP) (by omega) (by simp only []; omega) ?_
          intro v2
          refine go_rowS 3 rfl ?_
          rintro a4 c4 rfl
          refine rn_ ?_; intros
          refine h_hs (allIn (by repeat (first | exact trivial | refine ⟨rfl, ?_⟩))) (by first | exact Le.refl _ | assumption) ?_
          refine hu_take 8 rfl (by kernel_rfl) (by kernel_rfl) (by kernel_rfl) (by kernel_rfl) rfl (fun c a w v => hQp c a w _ v) (by rw [hnt]; rfl) (allIn (by repeat (first | exact trivial | refine ⟨rfl, ?_⟩))) (by first | exact Le.refl _ | assumption) (quiet_op (by rw [hty]; first | rfl | (refine st_ ?_; rfl))) ?_; refine st_ ?_
          refine hu_last 10 [] rfl (by kernel_rfl) rfl ?_
          refine rn_ ?_; intros
          refine h_end (by kernel_rfl) ?_
          refine go_pubL rV 2 rfl (by omega) (ts := s.vals) rfl (by omega) hcsV ?_
          intro G2 adx cx (hle2 : Le G1 G2) he2 hS2
          cases he2
          refine st_ ?_
          refine go_pubL rPo 3 rfl (by omega) (ts := s.ps) rfl (by omega) (Rp.L_mono hle2 hcsP) ?_
          intro G3 ady cy (hle3 : Le G2 G3) he3 hS3
          cases he3
          refine st_ ?_
          refine go_pub 4 rfl (by omega) ?_
          intro G4 (hle4 : Le G3 G4) hG
          have hat := at_block hG
          simp only [dens, SV.den] at hat
          refine go_slot 7 (.v (.pointer (some ⟨b7, 0, none⟩))) rfl (by simp [SV.den]) ?_
          refine st_ ?_
          refine go_keep [0, 4, 5, 7] [0, 1] ?_
          refine st_ ?_
          exact key _ ⟨b7, G4, _, _, _, _, hle2.trans (hle3.trans hle4), Rp.S_mono (hle3.trans hle4) hS2, by omega, Rp.S_mono hle4 hS3, hat, rfl⟩
      · refine rn_ ?_; intros
        rename_i b7
        refine h_hs (allIn (by repeat (first | exact trivial | refine ⟨rfl, ?_⟩))) (by first | exact Le.refl _ | assumption) ?_
        refine hu_two 3 4 rfl rfl (by kernel_rfl) ?_ ?_
        · refine go_litrow 2 (n := 0) (size := 3) rfl (by omega) rfl (by omega) ?_
          refine st_ ?_
          refine go_append_any 2 (by rw [hnt]; rfl) (by rw [hty]; rfl) (by rw [hty]; rfl) (by decide) rfl rfl rfl (by omega) rfl (hsrcV.imp id fun f => f _ _ rfl) (Rp.L_len hcsV) (Rp.L_one hcsV) (by omega) (by simp only []; omega) ?_
          intro v1
          refine go_rowC 2 rfl ?_
          rintro a3 c3 rfl hc3
          refine rn_ ?_; intros
          refine h_hs (allIn (by repeat (first | exact trivial | refine ⟨rfl, ?_⟩))) (by first | exact Le.refl _ | assumption) ?_
          refine hu_one 4 rfl (by kernel_rfl) ?_
          refine rn_ ?_; intros
          refine h_hs (allIn (by repeat (first | exact trivial | refine ⟨rfl, ?_⟩))) (by first | exact Le.refl _ | assumption) ?_
          refine hu_one 7 rfl (by kernel_rfl) ?_
          refine go_litrow 4 (n := 0) (size := 4) rfl (by omega) rfl (by omega) ?_
          refine st_ ?_
          refine go_append_any 4 (by rw [hnt]; rfl) (by rw [hty]; rfl) (by rw [hty]; rfl) (by decide) rfl rfl rfl (by omega) rfl (hsrcP.imp id fun f => f _ _ rfl) (Rp.L_len hcsP) (Rp.L_one hcsP) (by omega) (by simp only []; omega) ?_
          intro v2
          refine go_rowS 4 rfl ?_
          rintro a4 c4 rfl
          refine rn_ ?_; intros
          refine h_hs (allIn (by repeat (first | exact trivial | refine ⟨rfl, ?_⟩))) (by first | exact Le.refl _ | assumption) ?_
          refine hu_take 8 rfl (by kernel_rfl) (by kernel_rfl) (by kernel_rfl) (by kernel_rfl) rfl (fun c a w v => hQp c a w _ v) (by rw [hnt]; rfl) (allIn (by repeat (first | exact trivial | refine ⟨rfl, ?_⟩))) (by first | exact Le.refl _ | assumption) (quiet_op (by rw [hty]; first | rfl | (refine st_ ?_; rfl))) ?_; refine st_ ?_
          refine hu_last 10 [] rfl (by kernel_rfl) rfl ?_
          refine rn_ ?_; intros
          refine h_end (by kernel_rfl) ?_
          refine go_pubL rV 2 rfl (by omega) (ts := s.vals) rfl (by omega) hcsV ?_
          intro G2 adx cx (hle2 : Le G1 G2) he2 hS2
          cases he2
          refine st_ ?_
          refine go_pubL rPo 4 rfl (by omega) (ts := s.ps) rfl (by omega) (Rp.L_mono hle2 hcsP) ?_
          intro G3 ady cy (hle3 : Le G2 G3) he3 hS3
          cases he3
          refine st_ ?_
          refine go_pub 3 rfl (by omega) ?_
          intro G4 (hle4 : Le G3 G4) hG
          have hat := at_block hG
          simp only [dens, SV.den] at hat
          refine go_slot 7 (.v (.pointer (some ⟨b7, 0, none⟩))) rfl (by simp [SV.den]) ?_
          refine st_ ?_
          refine go_keep [0, 4, 5, 7] [0, 1] ?_
          refine st_ ?_
          exact key _ ⟨b7, G4, _, _, _, _, hle2.trans (hle3.trans hle4), Rp.S_mono (hle3.trans hle4) hS2, by omega, Rp.S_mono hle4 hS3, hat, rfl⟩
        · refine rn_ ?_; intros
          refine h_hs (allIn (by repeat (first | exact trivial | refine ⟨rfl, ?_⟩))) (by first | exact Le.refl _ | assumption) ?_
          refine hu_one 3 rfl (by kernel_rfl) ?_
          refine go_litrow 2 (n := 0) (size := 3) rfl (by omega) rfl (by omega) ?_
          refine st_ ?_
          refine go_append_any 2 (by rw [hnt]; rfl) (by rw [hty]; rfl) (by rw [hty]; rfl) (by decide) rfl rfl rfl (by omega) rfl (hsrcV.imp id fun f => f _ _ rfl) (Rp.L_len hcsV) (Rp.L_one hcsV) (by omega) (by simp only []; omega) ?_
          intro v1
          refine go_rowC 2 rfl ?_
          rintro a3 c3 rfl hc3
          refine rn_ ?_; intros
          refine h_hs (allIn (by repeat (first | exact trivial | refine ⟨rfl, ?_⟩))) (by first | exact Le.refl _ | assumption) ?_
          refine hu_one 7 rfl (by kernel_rfl) ?_
          refine go_litrow 4 (n := 0) (size := 4) rfl (by omega) rfl (by omega) ?_
          refine st_ ?_
          refine go_append_any 4 (by rw [hnt]; rfl) (by rw [hty]; rfl) (by rw [hty]; rfl) (by decide) rfl rfl rfl (by omega) rfl (hsrcP.imp id fun f => f _ _ rfl) (Rp.L_len hcsP) (Rp.L_one hcsP) (by omega) (by simp only []; omega) ?_
          intro v2
          refine go_rowS 4 rfl ?_
          rintro a4 c4 rfl
          refine rn_ ?_; intros
          refine h_hs (allIn (by repeat (first | exact trivial | refine ⟨rfl, ?_⟩))) (by first | exact Le.refl _ | assumption) ?_
          refine hu_take 8 rfl (by kernel_rfl) (by kernel_rfl) (by kernel_rfl) (by kernel_rfl) rfl (fun c a w v => hQp c a w _ v) (by rw [hnt]; rfl) (allIn (by repeat (first | exact trivial | refine ⟨rfl, ?_⟩))) (by first | exact Le.refl _ | assumption) (quiet_op (by rw [hty]; first | rfl | (refine st_ ?_; rfl))) ?_; refine st_ ?_
          refine hu_last 10 [] rfl (by kernel_rfl) rfl ?_
          refine rn_ ?_; intros
          refine h_end (by kernel_rfl) ?_
          refine go_pubL rV 2 rfl (by omega) (ts := s.vals) rfl (by omega) hcsV ?_
          intro G2 adx cx (hle2 : Le G1 G2) he2 hS2
          cases he2
          refine st_ ?_
          refine go_pubL rPo 4 rfl (by omega) (ts := s.ps) rfl (by omega) (Rp.L_mono hle2 hcsP) ?_
          intro G3 ady cy (hle3 : Le G2 G3) he3 hS3
          cases he3
          refine st_ ?_
          refine go_pub 3 rfl (by omega) ?_
          intro G4 (hle4 : Le G3 G4) hG
          have hat := at_block hG
          simp only [dens, SV.den] at hat
          refine go_slot 7 (.v (.pointer (some ⟨b7, 0, none⟩))) rfl (by simp [SV.den]) ?_
          refine st_ ?_
          refine go_keep [0, 4, 5, 7] [0, 1] ?_
          refine st_ ?_
          exact key _ ⟨b7, G4, _, _, _, _, hle2.trans (hle3.trans hle4), Rp.S_mono (hle3.trans hle4) hS2, by omega, Rp.S_mono hle4 hS3, hat, rfl⟩
    · refine rn_ ?_; intros
      refine h_hs (allIn (by repeat (first | exact trivial | refine ⟨rfl, ?_⟩))) (by first | exact Le.refl _ | assumption) ?_
      refine hu_two 0 9 rfl rfl (by kernel_rfl) ?_ ?_
      · refine rn_ ?_; intros
        refine h_hs (allIn (by repeat (first | exact trivial | refine ⟨rfl, ?_⟩))) (by first | exact Le.refl _ | assumption) ?_
        refine hu_two 3 9 rfl rfl (by kernel_rfl) ?_ ?_
        · refine go_litrow 3 (n := 0) (size := 3) rfl (by omega) rfl (by omega) ?_
          refine st_ ?_
          refine go_append_any 3 (by rw [hnt]; rfl) (by rw [hty]; rfl) (by rw [hty]; rfl) (by decide) rfl rfl rfl (by omega) rfl (hsrcV.imp id fun f => f _ _ rfl) (Rp.L_len hcsV) (Rp.L_one hcsV) (by omega) (by simp only []; omega) ?_
          intro v1
          refine go_rowC 3 rfl ?_
          rintro a3 c3 rfl hc3
          refine rn_ ?_; intros
          refine h_hs (allIn (by repeat (first | exact trivial | refine ⟨rfl, ?_⟩))) (by first | exact Le.refl _ | assumption) ?_
          refine hu_two 7 9 rfl rfl (by kernel_rfl) ?_ ?_
          · refine go_litrow 2 (n := 0) (size := 4) rfl (by omega) rfl (by omega) ?_
            refine st_ ?_
            refine go_append_any 2 (by rw [hnt]; rfl) (by rw [hty]; rfl) (by rw [hty]; rfl) (by decide) rfl rfl rfl (by omega) rfl (hsrcP.imp id fun f => f _ _ rfl) (Rp.L_len hcsP) (Rp.L_one hcsP) (by omega) (by simp only []; omega) ?_
            intro v2
            refine go_rowS 2 rfl ?_
            rintro a4 c4 rfl
            refine rn_ ?_; intros
            refine h_hs (allIn (by repeat (first | exact trivial | refine ⟨rfl, ?_⟩))) (by first | exact Le.refl _ | assumption) ?_
            refine hu_take 8 rfl (by kernel_rfl) (by kernel_rfl) (by kernel_rfl) (by kernel_rfl) rfl (fun c a w v => hQp c a w _ v) (by rw [hnt]; rfl) (allIn (by repeat (first | exact trivial | refine ⟨rfl, ?_⟩))) (by first | exact Le.refl _ | assumption) (quiet_op (by rw [hty]; first | rfl | (refine st_ ?_; rfl))) ?_; refine st_ ?_
            refine hu_one 9 rfl (by kernel_rfl) ?_
            refine rn_ ?_; intros
            rename_i b7
            refine h_hs (allIn (by repeat (first | exact trivial | refine ⟨rfl, ?_⟩))) (by first | exact Le.refl _ | assumption) ?_
            refine hu_last 10 [] rfl (by kernel_rfl) rfl ?_
            refine rn_ ?_; intros
            refine h_end (by kernel_rfl) ?_
            refine go_pubL rV 3 rfl (by omega) (ts := s.vals) rfl (by omega) hcsV ?_
            intro G2 adx cx (hle2 : Le G1 G2) he2 hS2
            cases he2
            refine st_ ?_
            refine go_pubL rPo 2 rfl (by omega) (ts := s.ps) rfl (by omega) (Rp.L_mono hle2 hcsP) ?_
            intro G3 ady cy (hle3 : Le G2 G3) he3 hS3
            cases he3
            refine st_ ?_
            refine go_pub 4 rfl (by omega) ?_
            intro G4 (hle4 : Le G3 G4) hG
            have hat := at_block hG
            simp only [dens, SV.den] at hat
            refine go_slot 7 (.v (.pointer (some ⟨b7, 0, none⟩))) rfl (by simp [SV.den]) ?_
            refine st_ ?_
            refine go_keep [0, 4, 5, 7] [0, 1] ?_
            refine st_ ?_
            exact key _ ⟨b7, G4, _, _, _, _, hle2.trans (hle3.trans hle4), Rp.S_mono (hle3.trans hle4) hS2, by omega, Rp.S_mono hle4 hS3, hat, rfl⟩
          · refine rn_ ?_; intros
            rename_i b7
            refine h_hs (allIn (by repeat (first | exact trivial | refine ⟨rfl, ?_⟩))) (by first | exact Le.refl _ | assumption) ?_
            refine hu_one 7 rfl (by kernel_rfl) ?_
            refine go_litrow 2 (n := 0) (size := 4) rfl (by omega) rfl (by omega) ?_
            refine st_ ?_
            refine go_append_any 2 (by rw [hnt]; rfl) (by rw [hty]; rfl) (by rw [hty]; rfl) (by decide) rfl rfl rfl (by omega) rfl (hsrcP.imp id fun f => f _ _ rfl) (Rp.L_len hcsP) (Rp.L_one hcsP) (by omega) (by simp only []; omega) ?_
            intro v2
            refine go_rowS 2 rfl ?_
            rintro a4 c4 rfl
            refine rn_ ?_; intros
            refine h_hs (allIn (by repeat (first | exact trivial | refine ⟨rfl, ?_⟩))) (by first | exact Le.refl _ | assumption) ?_
            refine hu_take 8 rfl (by kernel_rfl) (by kernel_rfl) (by kernel_rfl) (by kernel_rfl) rfl (fun c a w v => hQp c a w _ v) (by rw [hnt]; rfl) (allIn (by repeat (first | exact trivial | refine ⟨rfl, ?_⟩))) (by first | exact Le.refl _ | assumption) (quiet_op (by rw [hty]; first | rfl | (refine st_ ?_; rfl))) ?_; refine st_ ?_
            refine hu_last 10 [] rfl (by kernel_rfl) rfl ?_
            refine rn_ ?_; intros
            refine h_end (by kernel_rfl) ?_
            refine go_pubL rV 3 rfl (by omega) (ts := s.vals) rfl (by omega) hcsV ?_
            intro G2 adx cx (hle2 : Le G1 G2) he2 hS2
            cases he2
            refine st_ ?_
            refine go_pubL rPo 2 rfl (by omega) (ts := s.ps) rfl (by omega) (Rp.L_mono hle2 hcsP) ?_
            intro G3 ady cy (hle3 : Le G2 G3) he3 hS3
            cases he3
            refine st_ ?_
            refine go_pub 4 rfl (by omega) ?_
            intro G4 (hle4 : Le G3 G4) hG
            have hat := at_block hG
            simp only [dens, SV.den] at hat
            refine go_slot 7 (.v (.pointer (some ⟨b7, 0, none⟩))) rfl (by simp [SV.den]) ?_
            refine st_ ?_
            refine go_keep [0, 4, 5, 7] [0, 1] ?_
            refine st_ ?_
            exact key _ ⟨b7, G4, _, _, _, _, hle2.trans (hle3.trans hle4), Rp.S_mono (hle3.trans hle4) hS2, by omega, Rp.S_mono hle4 hS3, hat, rfl⟩
        · refine rn_ ?_; intros
          rename_i b7
          refine h_hs (allIn (by repeat (first | exact trivial | refine ⟨rfl, ?_⟩))) (by first | exact Le.refl _ | assumption) ?_
          refine hu_one 3 rfl (by kernel_rfl) ?_
          refine go_litrow 3 (n := 0) (size := 3) rfl (by omega) rfl (by omega) ?_
          refine st_ ?_
          refine go_append_any 3 (by rw [hnt]; rfl) (by rw [hty]; rfl) (by rw [hty]; rfl) (by decide) rfl rfl rfl (by omega) rfl (hsrcV.imp id fun f => f _ _ rfl) (Rp.L_len hcsV) (Rp.L_one hcsV) (by omega) (by simp only []; omega) ?_
          intro v1
          refine go_rowC 3 rfl ?_
          rintro a3 c3 rfl hc3
          refine rn_ ?_; intros
          refine h_hs (allIn (by repeat (first | exact trivial | refine ⟨rfl, ?_⟩))) (by first | exact Le.refl _ | assumption) ?_
          refine hu_one 7 rfl (by kernel_rfl) ?_
          refine go_litrow 2 (n := 0) (size := 4) rfl (by omega) rfl (by omega) ?_
          refine st_ ?_
          refine go_append_any 2 (by rw [hnt]; rfl) (by rw [hty]; rfl) (by rw [hty]; rfl) (by decide) rfl rfl rfl (by omega) rfl (hsrcP.imp id fun f => f _ _ rfl) (Rp.L_len hcsP) (Rp.L_one hcsP) (by omega) (by simp only []; omega) ?_
          intro v2
          refine go_rowS 2 rfl ?_
          rintro a4 c4 rfl
          refine rn_ ?_; intros
          refine h_hs (allIn (by repeat (first | exact trivial | refine ⟨rfl, ?_⟩))) (by first | exact Le.refl _ | assumption) ?_
          refine hu_take 8 rfl (by kernel_rfl) (by kernel_rfl) (by kernel_rfl) (by kernel_rfl) rfl (fun c a w v => hQp c a w _ v) (by rw [hnt]; rfl) (allIn (by repeat (first | exact trivial | refine ⟨rfl, ?_⟩))) (by first | exact Le.refl _ | assumption) (quiet_op (by rw [hty]; first | rfl | (refine st_ ?_; rfl))) ?_; refine st_ ?_
          refine hu_last 10 [] rfl (by kernel_rfl) rfl ?_
          refine rn_ ?_; intros
          refine h_end (by kernel_rfl) ?_
          refine go_pubL rV 3 rfl (by omega) (ts := s.vals) rfl (by omega) hcsV ?_
          intro G2 adx cx (hle2 : Le G1 G2) he2 hS2
          cases he2
          refine st_ ?_
          refine go_pubL rPo 2 rfl (by omega) (ts := s.ps) rfl (by omega) (Rp.L_mono hle2 hcsP) ?_
          intro G3 ady cy (hle3 : Le G2 G3) he3 hS3
          cases he3
          refine st_ ?_
          refine go_pub 4 rfl (by omega) ?_
          intro G4 (hle4 : Le G3 G4) hG
          have hat := at_block hG
          simp only [dens, SV.den] at hat
          refine go_slot 7 (.v (.pointer (some ⟨b7, 0, none⟩))) rfl (by simp [SV.den]) ?_
          refine st_ ?_
          refine go_keep [0, 4, 5, 7] [0, 1] ?_
          refine st_ ?_
          exact key _ ⟨b7, G4, _, _, _, _, hle2.trans (hle3.trans hle4), Rp.S_mono (hle3.trans hle4) hS2, by omega, Rp.S_mono hle4 hS3, hat, rfl⟩
      · refine rn_ ?_; intros
        rename_i b7
        refine h_hs (allIn (by repeat (first | exact trivial | refine ⟨rfl, ?_⟩))) (by first | exact Le.refl _ | assumption) ?_
        refine hu_one 0 rfl (by kernel_rfl) ?_
        refine rn_ ?_; intros
        refine h_hs (allIn (by repeat (first | exact trivial | refine ⟨rfl, ?_⟩))) (by first | exact Le.refl _ | assumption) ?_
        refine hu_one 3 rfl (by kernel_rfl) ?_
        refine go_litrow 4 (n := 0) (size := 3) rfl (by omega) rfl (by omega) ?_
        refine st_ ?_
        refine go_append_any 4 (by rw [hnt]; rfl) (by rw [hty]; rfl) (by rw [hty]; rfl) (by decide) rfl rfl rfl (by omega) rfl (hsrcV.imp id fun f => f _ _ rfl) (Rp.L_len hcsV) (Rp.L_one hcsV) (by omega) (by simp only []; omega) ?_
        intro v1
        refine go_rowC 4 rfl ?_
        rintro a3 c3 rfl hc3
        refine rn_ ?_; intros
        refine h_hs (allIn (by repeat (first | exact trivial | refine ⟨rfl, ?_⟩))) (by first | exact Le.refl _ | assumption) ?_
        refine hu_one 7 rfl (by kernel_rfl) ?_
        refine go_litrow 2 (n := 0) (size := 4) rfl (by omega) rfl (by omega) ?_
        refine st_ ?_
        refine go_append_any 2 (by rw [hnt]; rfl) (by rw [hty]; rfl) (by rw [hty]; rfl) (by decide) rfl rfl rfl (by omega) rfl (hsrcP.imp id fun f => f _ _ rfl) (Rp.L_len hcsP) (Rp.L_one hcsP) (by omega) (by simp only []; omega) ?_
        intro v2
        refine go_rowS 2 rfl ?_
        rintro a4 c4 rfl
        refine rn_ ?_; intros
        refine h_hs (allIn (by repeat (first | exact trivial | refine ⟨rfl, ?_⟩))) (by first | exact Le.refl _ | assumption) ?_
        refine hu_take 8 rfl (by kernel_rfl) (by kernel_rfl) (by kernel_rfl) (by kernel_rfl) rfl (fun c a w v => hQp c a w _ v) (by rw [hnt]; rfl) (allIn (by repeat (first | exact trivial | refine ⟨rfl, ?_⟩))) (by first | exact Le.refl _ | assumption) (quiet_op (by rw [hty]; first | rfl | (refine st_ ?_; rfl))) ?_; refine st_ ?_
        refine hu_last 10 [] rfl (by kernel_rfl) rfl ?_
        refine rn_ ?_; intros
        refine h_end (by kernel_rfl) ?_
        refine go_pubL rV 4 rfl (by omega) (ts := s.vals) rfl (by omega) hcsV ?_
        intro G2 adx cx (hle2 : Le G1 G2) he2 hS2
        cases he2
        refine st_ ?_
        refine go_pubL rPo 2 rfl (by omega) (ts := s.ps) rfl (by omega) (Rp.L_mono hle2 hcsP) ?_
        intro G3 ady cy (hle3 : Le G2 G3) he3 hS3
        cases he3
        refine st_ ?_
        refine go_pub 3 rfl (by omega) ?_
        intro G4 (hle4 : Le G3 G4) hG
        have hat := at_block hG
        simp only [dens, SV.den] at hat
        refine go_slot 7 (.v (.pointer (some ⟨b7, 0, none⟩))) rfl (by simp [SV.den]) ?_
        refine st_ ?_
        refine go_keep [0, 4, 5, 7] [0, 1] ?_
        refine st_ ?_
        exact key _ ⟨b7, G4, _, _, _, _, hle2.trans (hle3.trans hle4), Rp.S_mono (hle3.trans hle4) hS2, by omega, Rp.S_mono hle4 hS3, hat, rfl⟩
    · refine rn_ ?_; intros
      rename_i b7
      refine h_hs (allIn (by repeat (first | exact trivial | refine ⟨rfl, ?_⟩))) (by first | exact Le.refl _ | assumption) ?_
      refine hu_two 0 4 rfl rfl (by kernel_rfl) ?_ ?_
      · refine rn_ ?_; intros
        refine h_hs (allIn (by repeat (first | exact trivial | refine ⟨rfl, ?_⟩))) (by first | exact Le.refl _ | assumption) ?_
        refine hu_two 3 4 rfl rfl (by kernel_rfl) ?_ ?_
        · refine go_litrow 3 (n := 0) (size := 3) rfl (by omega) rfl (by omega) ?_
          refine st_ ?_
          refine go_append_any 3 (by rw [hnt]; rfl) (by rw [hty]; rfl) (by rw [hty]; rfl) (by decide) rfl rfl rfl (by omega) rfl (hsrcV.imp id fun f => f _ _ rfl) (Rp.L_len hcsV) (Rp.L_one hcsV) (by omega) (by simp only []; omega) ?_
          intro v1
          refine go_rowC 3 rfl ?_
          rintro a3 c3 rfl hc3
          refine rn_ ?_; intros
          refine h_hs (allIn (by repeat (first | exact trivial | refine ⟨rfl, ?_⟩))) (by first | exact Le.refl _ | assumption) ?_
          refine hu_one 4 rfl (by kernel_rfl) ?_
          refine rn_ ?_; intros
          refine h_hs (allIn (by repeat (first | exact trivial | refine ⟨rfl, ?_⟩))) (by first | exact Le.refl _ | assumption) ?_
          refine hu_one 7 rfl (by kernel_rfl) ?_
          refine go_litrow 4 (n := 0) (size := 4) rfl (by omega) rfl (by omega) ?_
          refine st_ ?_
          refine go_append_any 4 (by rw [hnt]; rfl) (by rw [hty]; rfl) (by rw [hty]; rfl) (by decide) rfl rfl rfl (by omega) rfl (hsrcP.imp id fun f => f _ _ rfl) (Rp.L_len hcsP) (Rp.L_one hcsP) (by omega) (by simp only []; omega) ?_
          intro v2
          refine go_rowS 4 rfl ?_
          rintro a4 c4 rfl
          refine rn_ ?_; intros
          refine h_hs (allIn (by repeat (first | exact trivial | refine ⟨rfl, ?_⟩))) (by first | exact Le.refl _ | assumption) ?_
          refine hu_take 8 rfl (by kernel_rfl) (by kernel_rfl) (by kernel_rfl) (by kernel_rfl) rfl (fun c a w v => hQp c a w _ v) (by rw [hnt]; rfl) (allIn (by repeat (first | exact trivial | refine ⟨rfl, ?_⟩))) (by first | exact Le.refl _ | assumption) (quiet_op (by rw [hty]; first | rfl | (refine st_ ?_; rfl))) ?_; refine st_ ?_
          refine hu_last 10 [] rfl (by kernel_rfl) rfl ?_
          refine rn_ ?_; intros
          refine h_end (by kernel_rfl) ?_
          refine go_pubL rV 3 rfl (by omega) (ts := s.vals) rfl (by omega) hcsV ?_
          intro G2 adx cx (hle2 : Le G1 G2) he2 hS2
          cases he2
          refine st_ ?_
          refine go_pubL rPo 4 rfl (by omega) (ts := s.ps) rfl (by omega) (Rp.L_mono hle2 hcsP) ?_
          intro G3 ady cy (hle3 : Le G2 G3) he3 hS3
          cases he3
          refine st_ ?_
          refine go_pub 2 rfl (by omega) ?_
          intro G4 (hle4 : Le G3 G4) hG
          have hat := at_block hG
          simp only [dens, SV.den] at hat
          refine go_slot 7 (.v (.pointer (some ⟨b7, 0, none⟩))) rfl (by simp [SV.den]) ?_
          refine st_ ?_
          refine go_keep [0, 4, 5, 7] [0, 1] ?_
          refine st_ ?_
          exact key _ ⟨b7, G4, _, _, _, _, hle2.trans (hle3.trans hle4), Rp.S_mono (hle3.trans hle4) hS2, by omega, Rp.S_mono hle4 hS3, hat, rfl⟩
        · refine rn_ ?_; intros
          refine h_hs (allIn (by repeat (first | exact trivial | refine ⟨rfl, ?_⟩))) (by first | exact Le.refl _ | assumption) ?_
          refine hu_one 3 rfl (by kernel_rfl) ?_
          refine go_litrow 3 (n := 0) (size := 3) rfl (by omega) rfl (by omega) ?_
          refine st_ ?_
          refine go_append_any 3 (by rw [hnt]; rfl) (by rw [hty]; rfl) (by rw [hty]; rfl) (by decide) rfl rfl rfl (by omega) rfl (hsrcV.imp id fun f => f _ _ rfl) (Rp.L_len hcsV) (Rp.L_one hcsV) (by omega) (by simp only []; omega) ?_
          intro v1
          refine go_rowC 3 rfl ?_
          rintro a3 c3 rfl hc3
          refine rn_ ?_; intros
          refine h_hs (allIn (by repeat (first | exact trivial | refine ⟨rfl, ?_⟩))) (by first | exact Le.refl _ | assumption) ?_
          refine hu_one 7 rfl (by kernel_rfl) ?_
          refine go_litrow 4 (n := 0) (size := 4) rfl (by omega) rfl (by omega) ?_
          refine st_ ?_
          refine go_append_any 4 (by rw [hnt]; rfl) (by rw [hty]; rfl) (by rw [hty]; rfl) (by decide) rfl rfl rfl (by omega) rfl (hsrcP.imp id fun f => f _ _ rfl) (Rp.L_len hcsP) (Rp.L_one hcsP) (by omega) (by simp only []; omega) ?_
          intro v2
          refine go_rowS 4 rfl ?_
          rintro a4 c4 rfl
          refine rn_ ?_; intros
          refine h_hs (allIn (by repeat (first | exact trivial | refine ⟨rfl, ?_⟩))) (by first | exact Le.refl _ | assumption) ?_
          refine hu_take 8 rfl (by kernel_rfl) (by kernel_rfl) (by kernel_rfl) (by kernel_rfl) rfl (fun c a w v => hQp c a w _ v) (by rw [hnt]; rfl) (allIn (by repeat (first | exact trivial | refine ⟨rfl, ?_⟩))) (by first | exact Le.refl _ | assumption) (quiet_op (by rw [hty]; first | rfl | (refine st_ ?_; rfl))) ?_; refine st_ ?_
          refine hu_last 10 [] rfl (by kernel_rfl) rfl ?_
          refine rn_ ?_; intros
          refine h_end (by kernel_rfl) ?_
          refine go_pubL rV 3 rfl (by omega) (ts := s.vals) rfl (by omega) hcsV ?_
          intro G2 adx cx (hle2 : Le G1 G2) he2 hS2
          cases he2
          refine st_ ?_
          refine go_pubL rPo 4 rfl (by omega) (ts := s.ps) rfl (by omega) (Rp.L_mono hle2 hcsP) ?_
          intro G3 ady cy (hle3 : Le G2 G3) he3 hS3
          cases he3
          refine st_ ?_
          refine go_pub 2 rfl (by omega) ?_
          intro G4 (hle4 : Le G3 G4) hG
          have hat := at_block hG
          simp only [dens, SV.den] at hat
          refine go_slot 7 (.v (.pointer (some ⟨b7, 0, none⟩))) rfl (by simp [SV.den]) ?_
          refine st_ ?_
          refine go_keep [0, 4, 5, 7] [0, 1] ?_
          refine st_ ?_
          exact key _ ⟨b7, G4, _, _, _, _, hle2.trans (hle3.trans hle4), Rp.S_mono (hle3.trans hle4) hS2, by omega, Rp.S_mono hle4 hS3, hat, rfl⟩
      · refine rn_ ?_; intros
        refine h_hs (allIn (by repeat (first | exact trivial | refine ⟨rfl, ?_⟩))) (by first | exact Le.refl _ | assumption) ?_
        refine hu_one 0 rfl (by kernel_rfl) ?_
        refine rn_ ?_; intros
        refine h_hs (allIn (by repeat (first | exact trivial | refine ⟨rfl, ?_⟩))) (by first | exact Le.refl _ | assumption) ?_
        refine hu_one 3 rfl (by kernel_rfl) ?_
        refine go_litrow 4 (n := 0) (size := 3) rfl (by omega) rfl (by omega) ?_
        refine st_ ?_
        refine go_append_any 4 (by rw [hnt]; rfl) (by rw [hty]; rfl) (by rw [hty]; rfl) (by decide) rfl rfl rfl (by omega) rfl (hsrcV.imp id fun f => f _ _ rfl) (Rp.L_len hcsV) (Rp.L_one hcsV) (by omega) (by simp only []; omega) ?_
        intro v1
        refine go_rowC 4 rfl ?_
        rintro a3 c3 rfl hc3
        refine rn_ ?_; intros
        refine h_hs (allIn (by repeat (first | exact trivial | refine ⟨rfl, ?_⟩))) (by first | exact Le.refl _ | assumption) ?_
        refine hu_one 7 rfl (by kernel_rfl) ?_
        refine go_litrow 3 (n := 0) (size := 4) rfl (by omega) rfl (by omega) ?_
        refine st_ ?_
        refine go_append_any 3 (by rw [hnt]; rfl) (by rw [hty]; rfl) (by rw [hty]; rfl) (by decide) rfl rfl rfl (by omega) rfl (hsrcP.imp id fun f => f _ _ rfl) (Rp.L_len hcsP) (Rp.L_one hcsP) (by omega) (by simp only []; omega) ?_
        intro v2
        refine go_rowS 3 rfl ?_
        rintro a4 c4 rfl
        refine rn_ ?_; intros
        refine h_hs (allIn (by repeat (first | exact trivial | refine ⟨rfl, ?_⟩))) (by first | exact Le.refl _ | assumption) ?_
        refine hu_take 8 rfl (by kernel_rfl) (by kernel_rfl) (by kernel_rfl) (by kernel_rfl) rfl (fun c a w v => hQp c a w _ v) (by rw [hnt]; rfl) (allIn (by repeat (first | exact trivial | refine ⟨rfl, ?_⟩))) (by first | exact Le.refl _ | assumption) (quiet_op (by rw [hty]; first | rfl | (refine st_ ?_; rfl))) ?_; refine st_ ?_
        refine hu_last 10 [] rfl (by kernel_rfl) rfl ?_
        refine rn_ ?_; intros
        refine h_end (by kernel_rfl) ?_
        refine go_pubL rV 4 rfl (by omega) (ts := s.vals) rfl (by omega) hcsV ?_
        intro G2 adx cx (hle2 : Le G1 G2) he2 hS2
        cases he2
        refine st_ ?_
        refine go_pubL rPo 3 rfl (by omega) (ts := s.ps) rfl (by omega) (Rp.L_mono hle2 hcsP) ?_
        intro G3 ady cy (hle3 : Le G2 G3) he3 hS3
        cases he3
        refine st_ ?_
        refine go_pub 2 rfl (by omega) ?_
        intro G4 (hle4 : Le G3 G4) hG
        have hat := at_block hG
        simp only [dens, SV.den] at hat
        refine go_slot 7 (.v (.pointer (some ⟨b7, 0, none⟩))) rfl (by simp [SV.den]) ?_
        refine st_ ?_
        refine go_keep [0, 4, 5, 7] [0, 1] ?_
        refine st_ ?_
        exact key _ ⟨b7, G4, _, _, _, _, hle2.trans (hle3.trans hle4), Rp.S_mono (hle3.trans hle4) hS2, by omega, Rp.S_mono hle4 hS3, hat, rfl⟩
  rintro _ ⟨b7, G4, a3, a4, c3, c4, hle4, hS2, hc3, hS3, hat, rfl⟩
  simp only [opC]
  have hw : s.rep G4 (.slice a3 s.vals.length c3) (.slice a4 s.ps.length c4) := ⟨hS2, hS3⟩
  have hs4 := hs1.mono hle4
  have ho4 := ho1.mono hle4
  refine rn_ ?_; intros
  refine go_callV 60 (by rw [hnt]; rfl) (by rw [hP]; kernel_rfl) rfl rfl (by omega) (hP ▸ hDo_ok m s _ _ o _ _ G4 hs4 ho4 (by omega) (by omega)) ?_
  rintro v G5 rs Z (hle5 : Le G4 G5) ⟨v1, v2, sl1, xs, ys, rfl, rfl, hxs, hys, hr1, hbr1⟩
  obtain ⟨ar, cr, rfl⟩ := VT.rep_slice hr1
  refine go_ztake 60 51 0 rfl rfl rfl (by omega) (by omega) ?_
  intro Z1
  refine go_ztake 60 52 1 rfl rfl rfl (by omega) (by omega) ?_
  intro Z2
  refine go_rowS (v := v1) (n := (doR m s o).1.vals.length) (size := 3) (xs := xs) (e := 28) 51 rfl ?_
  rintro at1 ct1 rfl
  refine go_rowS (v := v2) (n := (doR m s o).1.ps.length) (size := 4) (xs := ys) (e := 55) 52 rfl ?_
  rintro at2 ct2 rfl
  refine go_zgive 60 51 0 rfl rfl rfl rfl (by omega) (by omega) (by decide) ?_
  intro Z3
  refine go_zgive 60 52 1 rfl rfl rfl rfl (by omega) (by omega) (by decide) ?_
  intro Z4
  simp only [stRows, List.set]
  refine st_ ?_
  refine rn_ ?_; intros
  refine go_keep [0, 4, 5, 7, 8, 9, 10, 11, 47] [0, 1, 60, 61, 62] ?_
  refine st_ ?_
  refine rn_ ?_; intros
  refine go_q (by rw [hnt]; rfl) (quiet_load (by rw [hty]; rfl) rfl (by simp [TK.agg]) (hat.mono hle5) rfl) ?_
  simp only [ldV]
  refine rn_ ?_; intros
  have hc4 : CapOk (.slice a3 s.vals.length c3) := fun ad n c h => by injection h with _ e1 e2; omega
  have hrd := rDo_ok m s o _ _ _ _ G5 (hw.mono hle5) (ho4.mono hle5) (by omega) (by omega) hc4
  refine go_call (by rw [hnt]; rfl) (by rw [hP]; kernel_rfl) rfl (hP ▸ hrd) ?_
  rintro v G6 (hle6 : Le G5 G6) ⟨u1, u2, sl2, rfl, hu, hr2, _⟩
  obtain ⟨ax, cx, rfl⟩ := Rp.S_slice hu.v
  obtain ⟨ay, cy, rfl⟩ := Rp.S_slice hu.p
  obtain ⟨az, cz, rfl⟩ := VT.rep_slice hr2
  refine rn_ ?_; intros
  refine go_keep [0, 4, 5, 7, 8, 9, 10, 11, 12, 13, 14, 15, 55, 56] [0, 1, 60, 61, 62, 63, 64] ?_
  refine st_ ?_
  have hgd := doR_good m s o
  have hlv := hgd.lv
  have hlp := hgd.lp
  refine go_lendZ 60 (v := .bool true) (by rw [hnt]; rfl) (by rw [hP]; kernel_rfl) rfl rfl (fun H hleH hrows => hP ▸ (sameState_ok (doR m s o).1 (doR m s o).1 _ _ _ _ H ⟨RowAt.S (hrows 0 _ rfl) rfl (by omega) (Rp.L_mono (hle6.trans hleH) hxs), RowAt.S (hrows 1 _ rfl) rfl (by omega) (Rp.L_mono (hle6.trans hleH) hys)⟩ (hu.mono hleH)).val (by rw [stEq_rf hgd.v hgd.p])) ?_
  refine rn_ ?_; intros
  refine go_slot 59 (.b false) rfl (by simp [SV.den]) ?_; refine rn_ ?_; intros
  refine go_callf (v := .bool true) (by rw [hnt]; rfl) (by rw [hP]; kernel_rfl) rfl (hP ▸ (refSame_ok (doR m s o).2.1 (doR m s o).2.1 _ _ G6 (VT.rep_mono hle6 hr1) hr2 (by omega) (by omega)).val (by simp [hgd.t, veq_rf])) ?_
  refine rn_ ?_; intros
  refine go_slot 65 (.b false) rfl (by simp [SV.den]) ?_; refine rn_ ?_; intros
  refine go_slot 70 (.b false) rfl (by simp [SV.den]) ?_; refine rn_ ?_; intros
  refine go_callf (by rw [hnt]; rfl) (by rw [hP]; kernel_rfl) rfl (hP ▸ num_ok _ G6) ?_; refine rn_ ?_; intros
  refine go_slot 76 (.b false) rfl (by simp [SV.den]) ?_; refine rn_ ?_; intros
  have hat6 := hat.mono (hle5.trans hle6)
  have hwas : ∀ H, Le G6 H → stEq s s = true := fun _ _ => stEq_rf (fun x hx => by have := hsm.1.2; have := List.all_eq_true.1 this x hx; simp only [decide_eq_true_eq] at this; simp only [sml, decide_eq_true_eq]; omega) (fun x hx => by have := hsm.2; have := List.all_eq_true.1 this x hx; simp only [decide_eq_true_eq] at this; simp only [sml, decide_eq_true_eq]; omega)
  refine go_q (by rw [hnt]; rfl) (quiet_load (by rw [hty]; rfl) rfl (by simp [TK.agg]) hat6 rfl) ?_
  simp only [ldV]
  refine rn_ ?_; intros
  refine go_callf (v := .bool true) (by rw [hnt]; rfl) (by rw [hP]; kernel_rfl) rfl (hP ▸ (sameState_ok s s _ _ _ _ G6 (hs4.mono (hle5.trans hle6)) (hw.mono (hle5.trans hle6))).val (by rw [hwas G6 (Le.refl _)])) ?_
  refine rn_ ?_; intros
  (refine x_split rfl rfl rfl (fun hc => absurd hc (by first | decide +kernel | (simp; first | done | fail))) (fun _ => ?_); refine st_ ?_; (refine ru_ ?_; intros))
  refine go_ztake 60 51 0 rfl rfl rfl (by omega) (by omega) ?_
  intro Z5
  refine go_ztake 60 52 1 rfl rfl rfl (by omega) (by omega) ?_
  intro Z6
  refine go_keep [4, 7, 8, 16] [0, 51, 52, 61] ?_
  refine st_ ?_
  have hx0 := numAt_v hxs
  have hy0 := numAt_p hys
  rename_i b8 _ _ _ _ _
  generalize (doR m s o).1.vals.length = nv at hx0 hlv ⊢
  generalize (doR m s o).1.ps.length = np at hy0 hlp ⊢
  refine x_loop rfl (fun q st => ∃ (j : Nat) (zs : List Value), j ≤ nv ∧ q = nv - j ∧ NumAt 3 1 nv zs ∧
    st = ⟨[(4, .p 0 b1 0), (7, .v (.pointer (some ⟨b7, 0, none⟩))), (8, .p 61 b8 0), (16, .v (.int .i64 j))], [(0, b1, .c 44 [.v (.slice ad1 s.vals.length cap1), .v (.slice ad2 s.ps.length cap2)]), (51, 0, .row (.slice at1 nv ct1) 28 3 nv zs), (52, 0, .row (.slice at2 np ct2) 55 4 np ys), (61, b8, .c 44 [.v (.slice at1 nv ct1), .v (.slice at2 np ct2)])], G6, []⟩) ⟨0, xs, by omega, rfl, hx0, rfl⟩ ?_
  rintro q st ⟨j, zs1, hj, hq, hnum, rfl⟩ ih
  refine rn_ ?_; intros
  refine x_if rfl rfl rfl rfl (fun hjl => ?_) (fun hjl => ?_)
  · have hlt : j < nv := by simp at hjl; omega
    refine go_rowcases 51 rfl (fun _ h0 _ => by omega) ?_
    intro g capg hv _ _
    cases hv
    obtain ⟨kv, hkv⟩ := hnum.2 j hlt
    have hbl := hnum.1
    refine rn_ ?_; intros
    refine go_q (by rw [hnt]; rfl) (quiet_index (by rw [hty]; rfl) (by rw [hty]; rfl) rfl rfl rfl (by omega) (by omega)) ?_
    refine rn_ ?_; intros
    refine go_q (v := .int .i64 kv) (by rw [hnt]; rfl) ((quiet_loadR (k := 51) (by rw [hty]; rfl) rfl (by simp [TK.agg]) rfl (by simp only []; omega)).cast (by simp only [take1' hkv, ldV, TK.agg]; rfl)) ?_
    refine rn_ ?_; intros
    refine go_q (by rw [hnt]; rfl) (quiet_index (by rw [hty]; rfl) (by rw [hty]; rfl) rfl rfl rfl (by omega) (by omega)) ?_
    refine rn_ ?_; intros
    refine go_storeR 51 rfl (by rw [hty]; rfl) rfl rfl rfl rfl rfl rfl (lay_one' _ _ _ (by omega)) ?_
    refine rn_ ?_; intros
    rw [wr (n := (j : Int) + 1) (by omega) (by omega)]
    refine go_keep [4, 7, 8, 16] [0, 51, 52, 61] ?_
    refine st_ ?_
    exact ih (nv - (j + 1)) _ (by omega) ⟨j + 1, _, by omega, rfl, hnum.set (j * 3 + 1) (IntKind.i64.wrap (kv + 1)), by simp [SV.den]⟩
  refine rn_ ?_; intros
  refine go_keep [4, 7, 8, 17] [0, 51, 52, 61] ?_
  refine st_ ?_
  clear ih hq hj
  refine x_loop rfl (fun q st => ∃ (j : Nat) (zs : List Value), j ≤ np ∧ q = np - j ∧ NumAt 4 3 np zs ∧
    st = ⟨[(4, .p 0 b1 0), (7, .v (.pointer (some ⟨b7, 0, none⟩))), (8, .p 61 b8 0), (17, .v (.int .i64 j))], [(0, b1, .c 44 [.v (.slice ad1 s.vals.length cap1), .v (.slice ad2 s.ps.length cap2)]), (51, 0, .row (.slice at1 nv ct1) 28 3 nv zs1), (52, 0, .row (.slice at2 np ct2) 55 4 np zs), (61, b8, .c 44 [.v (.slice at1 nv ct1), .v (.slice at2 np ct2)])], G6, []⟩) ⟨0, ys, by omega, rfl, hy0, rfl⟩ ?_
  rintro q st ⟨j, zs, hj, hq, hnum, rfl⟩ ih
  refine rn_ ?_; intros
  refine x_if rfl rfl rfl rfl (fun hjl => ?_) (fun hjl => ?_)
  · have hlt : j < np := by simp at hjl; omega
    refine go_rowcases 52 rfl (fun _ h0 _ => by omega) ?_
    intro g capg hv _ _
    cases hv
    obtain ⟨kv, hkv⟩ := hnum.2 j hlt
    have hbl := hnum.1
    refine rn_ ?_; intros
    refine go_q (by rw [hnt]; rfl) (quiet_index (by rw [hty]; rfl) (by rw [hty]; rfl) rfl rfl rfl (by omega) (by omega)) ?_
    refine rn_ ?_; intros
    refine go_q (v := .int .i64 kv) (by rw [hnt]; rfl) ((quiet_loadR (k := 52) (by rw [hty]; rfl) rfl (by simp [TK.agg]) rfl (by simp only []; omega)).cast (by simp only [take1' hkv, ldV, TK.agg]; rfl)) ?_
    refine rn_ ?_; intros
    refine go_q (by rw [hnt]; rfl) (quiet_index (by rw [hty]; rfl) (by rw [hty]; rfl) rfl rfl rfl (by omega) (by omega)) ?_
    refine rn_ ?_; intros
    refine go_storeR 52 rfl (by rw [hty]; rfl) rfl rfl rfl rfl rfl rfl (lay_one' _ _ _ (by omega)) ?_
    refine rn_ ?_; intros
    rw [wr (n := (j : Int) + 1) (by omega) (by omega)]
    refine go_keep [4, 7, 8, 17] [0, 51, 52, 61] ?_
    refine st_ ?_
    exact ih (np - (j + 1)) _ (by omega) ⟨j + 1, _, by omega, rfl, hnum.set (j * 4 + 3) (IntKind.i64.wrap (kv + 1)), by simp [SV.den]⟩
  refine rn_ ?_; intros
  refine go_q (by rw [hnt]; rfl) (quiet_load (by rw [hty]; rfl) rfl (by simp [TK.agg]) hat6 rfl) ?_
  simp only [ldV]
  refine rn_ ?_; intros
  refine go_callf (v := .bool true) (by rw [hnt]; rfl) (by rw [hP]; kernel_rfl) rfl (hP ▸ (sameState_ok s s _ _ _ _ G6 (hs4.mono (hle5.trans hle6)) (hw.mono (hle5.trans hle6))).val (by rw [hwas G6 (Le.refl _)])) ?_
  refine rn_ ?_; intros
  refine go_slot 117 (.b true) rfl (by simp [SV.den]) ?_; refine rn_ ?_; intros
  refine go_callf (by rw [hnt]; rfl) (by rw [hP]; kernel_rfl) rfl (hP ▸ works29_ok G6) ?_; refine rn_ ?_; intros
  refine x_retc rfl hQ hmb rfl (by rw [hty]; simp only [so, sq, zy, zz, tyE, SO', SQ', opQ, opStore, opAlloc, ev, putS, dOk, cv, SV.cs, SV.one, SV.bool?, eqB, Value.oneCell', ldOwn, binInt, binConst, binBool, binStr, isC, TK.agg, rv, rv1, ldV, resOne, resV, Nat.reduceAdd, Nat.reduceMul, Nat.reduceSub, Nat.reduceLT, Nat.reduceLeDiff, Nat.reduceEqDiff, Nat.reduceBEq, reduceIte, reduceCtorEq, eq_self]; try rfl) rfl ?_; simp only [SV.den, resV, dens]
end Go.Proofs.Ytpmmbjcgabnloaa
namespace Go.Proofs.Ytpmmbjcgabnloaa.historyDoes
set_option linter.unusedSimpArgs false
set_option linter.unusedVariables false
open Go.ChangeShapes Go.WideShapes Go.ChangeAt Go.RowKit

set_option maxRecDepth 100000
theorem contract (H : Type) (enc : TypeId × Value → H) (W : World) (base : Nat) (args : Array Value) (ds gs : List (DataW H)) (before : List MemPlace)
    (hval : ∀ (j : Nat) t v, Try.f4.params[j]? = some t → args[j]? = some v → Value.okWide Try.prog W .any base t v)
    (hW : DataW.Whole enc Try.prog Try.f4.params.toList Rows.historyDoesSpec.vars false W args.toList ds gs before) (hk : Rows.uptoSmall H (ds ++ gs) = true) :
    Calls Try.prog 4 args W fun e W' => ∃ v, e = .returned v ∧ Rows.historyDoesSpec.post enc Try.prog Try.f4 false true false false W args v W' := by
  have hW' := hW
  obtain ⟨p, q, hA0, hV, rfl, hfz, hnd⟩ := hW
  have hA : DataW.TrodAll enc Try.prog W 0 (fun _ => true) true Try.f4.params.toList args.toList ds p := hA0
  rw [Try.params4] at hA hval
  obtain ⟨v0, vs0, d0, ds0, p0, q0, hargs, rfl, rfl, h0, r0⟩ := trodAll_cons hA
  obtain ⟨v1, vs1, d1, ds1, p1, q1, rfl, rfl, rfl, h1, r1⟩ := trodAll_cons r0
  obtain ⟨v2, vs2, d2, ds2, p2, q2, rfl, rfl, rfl, h2, r2⟩ := trodAll_cons r1
  obtain ⟨rfl, rfl, rfl⟩ := trodAll_nil r2
  obtain rfl : args = #[v0, v1, v2] := by cases args; simp_all
  obtain ⟨rfl, rfl⟩ := trodVars_none hV
  clear hA0
  obtain ⟨a0, rfl, rfl, rfl, w0⟩ := open_int Try.underlying3 (hval 0 3 v0 rfl rfl) h0
  simp only [List.append_nil, List.nil_append] at hW' hk
  have hbulk : Rows.uptoBulkAll [_, d1, d2] ≤ 1048576 := of_decide_eq_true hk
  simp only [Rows.uptoBulkAll, Rows.uptoBulk, Nat.add_zero] at hbulk
  have h1k := h1
  obtain ⟨n1, hf1⟩ := h1
  obtain ⟨cs1, rfl, hsz1⟩ := okWide_struct Try.underlying44 (hval 1 44 v1 rfl rfl)
  obtain ⟨t1, sa1, sb1, hcs1, hr1⟩ := open_state (w := W) (by omega) hf1
  have hcs1' : cs1 = #[sa1, sb1] := by
    apply Array.ext'
    simpa [Value.cells] using hcs1
  subst hcs1'
  have h2k := h2
  obtain ⟨n2, hf2⟩ := h2
  obtain ⟨cs2, rfl, hsz2⟩ := okWide_struct Try.underlying40 (hval 2 40 v2 rfl rfl)
  obtain ⟨t2, sa2, sb2, hcs2, hr2⟩ := open_op (w := W) (by omega) hf2
  have hcs2' : cs2 = (opL t2 sa2 sb2).toArray := by
    apply Array.ext'
    simpa [Value.cells] using hcs2
  subst hcs2'
  have hlt1 : ∀ x ∈ p1, x.block < W.heap.size := fun x hx => by simpa using hW'.lt x (by simp [hx])
  have hlt2 : ∀ x ∈ p2, x.block < W.heap.size := fun x hx => by simpa using hW'.lt x (by simp [hx])
  refine (historyDoes_ok a0 t1 t2 sa1 sb1 sa2 sb2 (hp W) hr1 hr2 W (has_hp W)).mono ?_
  rintro e W' ⟨v, G', rfl, hg, rfl⟩
  have hb := hg.below
  exact ⟨_, rfl, post_below rfl rfl hW' (fun _ _ _ => (trodAll_cons_mk (shut_bool Try.underlying4 _) trodAll_mk0))
    (fun sp hsp => by have this := (trodAll_cons_mk (shut_int Try.underlying3 w0) (trodAll_cons_mk (WideElems.Trod_stays laidOut (by kernel_rfl) (of_decide_eq_true (by kernel_rfl)) h1k (fun x hx => hb.same (hlt1 x hx)) (fun x hx => hsp x (by simp [hx]))) (trodAll_cons_mk (WideElems.Trod_stays laidOut (by kernel_rfl) (of_decide_eq_true (by kernel_rfl)) h2k (fun x hx => hb.same (hlt2 x hx)) (fun x hx => hsp x (by simp [hx]))) trodAll_mk0))); simp only [List.append_nil, List.nil_append] at this; exact this)
    hb (ok_one (by kernel_rfl) rfl (okWide_bool_mk Try.underlying4 _))⟩

set_option maxRecDepth 100000 in
theorem lifted (os : Os) (started : os.Started) (H : Type) (enc : TypeId × Value → H) (F : Stop.Interp) :
    ReturnsInHanded {} Try.checked os 4 .any ((Rows.OpenSpec.upto Rows.historyDoesSpec).pre6 enc Try.prog Try.f4 Rows.historyDoesUptoRow.domain false) (((Rows.OpenSpec.upto Rows.historyDoesSpec).at F).post enc Try.prog Try.f4 false true false false) := by
  refine returnsInHanded_of_cond (C := Try.checked) (s := Rows.OpenSpec.upto Rows.historyDoesSpec) (k := Rows.uptoSmall) rfl own started (by kernel_rfl) Try.func4
    (OpenSpec.witness (enc := enc) (C := Try.checked) (s := Rows.OpenSpec.upto Rows.historyDoesSpec) (k := Rows.uptoSmall) rfl false ⟨#[], #[.int .i64 0, .agg #[.slice none 0 0, .slice none 0 0], .agg #[.int .i64 0, .int .i64 0, .int .i64 0, .int .i64 0, .slice none 0 0, .int .i64 0, .int .i64 0, .slice none 0 0, .int .i64 0, .int .i64 0, .bool false]], []⟩ 8 (by kernel_rfl) (by kernel_rfl) (by kernel_rfl)
      (x := ([.lit (.int .i64 0), .agg [.nil, .nil], .agg [.lit (.int .i64 0), .lit (.int .i64 0), .agg [.lit (.int .i64 0), .lit (.int .i64 0), .nil], .agg [.lit (.int .i64 0), .lit (.int .i64 0), .nil], .lit (.int .i64 0), .lit (.int .i64 0), .lit (.bool false)]], [], [])) (by kernel_rfl) rfl (by kernel_rfl)) ?_
  intro W base args ds gs before hval hW _ hk _
  exact contract H enc W base args ds gs before hval hW hk

theorem over : Rows.historyDoesUptoRow.holds Try.pinned (Rows.OpenSpec.upto Rows.historyDoesSpec) :=
  OpenClaim.holds_of_cond 4 Try.f4 rfl rfl rfl rfl rfl rfl rfl ⟨rfl, rfl, rfl, rfl, rfl⟩ rfl rfl rfl rfl rfl (by kernel_rfl) Try.func4 (by kernel_rfl)
    (of_decide_eq_true (by kernel_rfl)) (by unfold Func.isWrapper; first | (rw [if_pos (by decide +kernel)]; kernel_rfl) | (rw [if_neg (by decide +kernel)]; exact ⟨rfl, rfl⟩))
    (fun os started H enc _ F => lifted os started H enc F)

theorem proved : Rows.HistoryDoesUptoSaid := over
end Go.Proofs.Ytpmmbjcgabnloaa.historyDoes

