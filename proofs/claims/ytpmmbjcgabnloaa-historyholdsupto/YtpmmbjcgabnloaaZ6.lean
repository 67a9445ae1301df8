/-
  Rows.HistoryHoldsUptoSaid is proved here: for arguments of bulk at most 1048576.
-/
import Derived.Test.YtpmmbjcgabnloaaZ5
import Derived.Scope
set_option linter.unusedSimpArgs false
set_option linter.unusedVariables false
namespace Go.Proofs.Ytpmmbjcgabnloaa
set_option linter.unusedSimpArgs false
set_option linter.unusedVariables false
open Go.Sx
def runP (m : Int) : MS → List Op → List VT
  | _, [] => []
  | s, o :: r => if rgtO (kns m) o = true ∧ (doP m s o).2.2 = true ∧ (o.dn = true → vsm (doP m s o).2.1 o.res = true) then (doP m s o).2.1 :: runP m (doP m s o).1 r else []
theorem runP_len (m : Int) : ∀ (s : MS) (l : List Op), (runP m s l).length ≤ l.length
  | _, [] => by simp [runP]
  | s, o :: r => by
    rw [runP]
    split
    · have := runP_len m (doP m s o).1 r
      simp only [List.length_cons]; omega
    · simp
theorem runP_step {m : Int} {s : MS} {o : Op} {r : List Op} (h : rgtO (kns m) o = true ∧ (doP m s o).2.2 = true ∧ (o.dn = true → vsm (doP m s o).2.1 o.res = true)) : runP m s (o :: r) = (doP m s o).2.1 :: runP m (doP m s o).1 r := by rw [runP, if_pos h]
theorem runP_stop {m : Int} {s : MS} {o : Op} {r : List Op} (h : ¬ (rgtO (kns m) o = true ∧ (doP m s o).2.2 = true ∧ (o.dn = true → vsm (doP m s o).2.1 o.res = true))) : runP m s (o :: r) = [] := by rw [runP, if_neg h]
end Go.Proofs.Ytpmmbjcgabnloaa
namespace Go.Sx
set_option linter.unusedSimpArgs false
set_option linter.unusedVariables false
open Go.RowKit
section
variable {F : Fence} {n : Nat} {P : Program} {Q : Exit → Act → World → Prop} {a : Act} {w : World} {b : Frame} {k : List Item} {cs : List Frame}
theorem stepR_scope {c : Code} : step P (lone (b.atR a (.code (.scope c) :: k)) cs w) = .next (lone (b.atR a (.code c :: .inScope c :: k)) cs w) :=
  step_lone_go (by simp [stepG, stepG.exec, Frame.atR])
theorem stepR_inScope {c : Code} : step P (lone (b.atR a (.inScope c :: k)) cs w) = .next (lone (b.atR a k) cs w) :=
  step_lone_go (by simp [stepG, stepG.exec, Frame.atR])
theorem wpIn_scope {c : Code} (h : c.wpIn F n P (Exit.noGoto Q) a w) : (Code.scope c).wpIn F n P Q a w := by
  intro b k cs hro hb hr
  have h0 : (lone (b.atR a (.code (.scope c) :: k)) cs w).fenced P F := fenced_calm hb hr rfl
  obtain ⟨e, a₁, w₁, hq, harr⟩ := h b (.inScope c :: k) cs hro hb hr
  cases e with
  | normal => exact ⟨.normal, a₁, w₁, hq, .head h0 stepR_scope (StepsIn.trans harr (.one (fenced_calm hb hr rfl) stepR_inScope))⟩
  | exit id =>
    have hx : exitTo id (.inScope c :: k) = exitTo id k := by simp [exitTo]
    exact ⟨.exit id, a₁, w₁, hq, fun k' hk => .head h0 stepR_scope (harr.1 k' (by rw [hx]; exact hk)),
      fun hr' hk => let ⟨k₁, h1, h2⟩ := harr.2 hr' (by rw [hx]; exact hk); ⟨k₁, h1, .head h0 stepR_scope h2⟩⟩
  | goto l => exact hq.elim
  | ret => exact ⟨_, a₁, w₁, hq, .of_steps (.one h0 stepR_scope) harr⟩
  | panic ch => exact ⟨_, a₁, w₁, hq, .of_steps (.one h0 stepR_scope) harr⟩
  | outgrown => exact ⟨_, a₁, w₁, hq, .of_steps (.one h0 stepR_scope) harr⟩
theorem wpK_goto {ro : Option Nat} {l : Nat} : ∀ (K : List KI) (a : Act) (w : World), wpK P ro Q K (.goto l) a w → Q (.goto l) a w
  | [], _, _, h => h
  | x :: K, a, w, h => by
    cases x <;> first | exact wpK_goto K a w h | exact h.elim
end
section
variable {C : Ctx} {K : List KI} {s : St} {k : Code}
theorem x_scope (ht : tag k = 11) (hq : ∀ l a w, ¬ C.Q (.goto l) a w) (h : SGo C (.code (c1 k) :: K) s) : SGo C (.code k :: K) s := by
  cases k <;> simp [tag] at ht
  · rename_i a b c; cases c <;> simp at ht
  · intro a w hS
    refine wpIn_scope (wpIn_mono (h a w hS) ?_)
    intro e a' w' he
    cases e <;> first | exact he | exact absurd (wpK_goto _ _ _ he) (hq _ _ _)
end
end Go.Sx
namespace Go.Proofs.Ytpmmbjcgabnloaa
set_option linter.unusedSimpArgs false
set_option linter.unusedVariables false
open Go.Sx
set_option maxHeartbeats 8000000
set_option maxRecDepth 20000
def encR (L : List VT) (k : Nat) (vs : List Value) (G : Hp) : Prop :=
  ∃ x ad cap, L[k]? = some x ∧ vs = [.int .i64 k, .agg #[.int .i64 x.k, .int .i64 x.n, .slice ad x.l.length cap]] ∧ x.rep G (.slice ad x.l.length cap)
theorem encR_mono (L : List VT) : ∀ k vs G G', Le G G' → encR L k vs G → encR L k vs G' := by
  rintro k vs G G' hle ⟨x, ad, cap, h1, h2, h3⟩
  exact ⟨x, ad, cap, h1, h2, VT.rep_mono hle h3⟩
theorem runs1_ok (L : List VT) (b : Nat) (sl : Value) (G : Hp) (hL : rV.S G L sl) (hs : ∀ x ∈ L, sml x = true) (hat : At G b 0 [sl]) : Iter Try.prog 57 [.pointer (some ⟨b, 0, none⟩)] G (encR L) L.length := by
  intro lp A B hy
  have h63 := Rp.S_len hL
  obtain ⟨adl, capl, rfl⟩ := Rp.S_slice hL
  refine enterZ ty tyok Try.func57 rfl Try.ntmps57 [.v (.func (.yield lp) #[] #[]), .v (.pointer (some ⟨b, 0, none⟩))] (by simp) ?_
  intro C Z M hP hQ hnt hty hmb hmh hro hG0; have hQp := qp_body hQ; refine st_ ?_
  have hy' : YOk C.P lp A B (encR L) L.length := by rw [hP]; exact hy
  refine x_scope rfl (by rw [hQ]; exact fun _ _ _ h => h) ?_
  refine rn_ ?_; intros
  refine go_q (by rw [hnt]; rfl) (quiet_load (by rw [hty]; rfl) rfl (by simp [TK.agg]) hat rfl) ?_
  refine rn_ ?_; intros
  refine go_keep [0, 5, 6, 7] [0] ?_
  refine st_ ?_
  refine x_loop rfl (fun q s => ∃ (j : Nat) (G' : Hp) (Z' M' : Nat → Prop), j ≤ L.length ∧ q = L.length - j ∧ Le G G' ∧
    s = ⟨[(0, .v (.func (.yield lp) #[] #[])), (5, .v (.slice adl L.length capl)), (6, .v (.int .i64 L.length)), (7, .v (.int .i64 j))], [(0, 0, .z (lim (A j) Z C.w0.heap.size) Z' M')], G', []⟩)
    ⟨0, G, Z, M, by omega, rfl, Le.refl _, rfl⟩ ?_
  rintro q s ⟨j, G1, Z1, M1, hj, hq, hle, rfl⟩ ih
  refine rn_ ?_; intros
  refine x_if rfl rfl rfl rfl (fun hjl => ?_) (fun hjl => ?_)
  · have hlt : j < L.length := by simp at hjl; omega
    obtain ⟨c1, o1, sl, rfl, hatx, hrx, hbx⟩ := rV_at hL (i := j) hlt
    obtain ⟨asl, csl, rfl⟩ := VT.rep_slice hrx
    refine rn_ ?_; intros
    refine go_q (by rw [hnt]; rfl) (quiet_index (by rw [hty]; rfl) (by rw [hty]; rfl) rfl rfl rfl (by omega) (by omega)) ?_
    refine go_q (by rw [hnt]; rfl) (quiet_load (by rw [hty]; rfl) rfl (by simp [TK.agg]) (hatx.mono hle) rfl) ?_
    refine rn_ ?_; intros
    refine go_call (by rw [hnt]; rfl) (by rw [hP]; kernel_rfl) rfl (hP ▸ copy_ok L[j] _ _ (VT.rep_mono hle hrx) (by omega)) ?_
    rintro v G2 (hle2 : Le G1 G2) hv0
    obtain ⟨hsm, hv0⟩ | ⟨hsm, _⟩ := hv0
    rotate_left
    · rw [hs _ (List.getElem_mem hlt)] at hsm; cases hsm
    obtain ⟨ad2, cap2, rfl, hr2⟩ := hv0
    have henc : encR L j [.int .i64 j, .agg #[.int .i64 L[j].k, .int .i64 L[j].n, .slice ad2 L[j].l.length cap2]] G2 := ⟨_, _, _, List.getElem?_eq_getElem hlt, rfl, hr2⟩
    refine rn_ ?_; intros
    refine go_yield 0 hy' (by rw [hnt]; rfl) rfl rfl rfl rfl hlt henc (fun Z2 M2 => ?_) (fun Z2 M2 => ?_)
    · refine rn_ ?_; intros
      repeat (first | (refine go_gsplit rfl rfl (fun hc => absurd hc (by first | decide +kernel | (simp; first | done | fail))) (fun _ => ?_); refine st_ ?_; (refine rn_ ?_; intros)) | (refine go_gsplit rfl rfl (fun _ => ?_) (fun hc => absurd hc (by first | decide +kernel | (simp; first | done | fail))); refine st_ ?_; (refine rn_ ?_; intros)) | (refine x_split rfl rfl rfl (fun hc => absurd hc (by first | decide +kernel | (simp; first | done | fail))) (fun _ => ?_); refine st_ ?_; (refine ru_ ?_; intros)) | (refine x_split rfl rfl rfl (fun _ => ?_) (fun hc => absurd hc (by first | decide +kernel | (simp; first | done | fail))); refine st_ ?_; (refine ru_ ?_; intros)))
      refine rn_ ?_; intros
      rw [wr (n := (j : Int) + 1) (by omega) (by omega)]
      refine go_keep [0, 5, 6, 7] [0] ?_
      refine st_ ?_
      exact ih (L.length - (j + 1)) _ (by omega) ⟨j + 1, G2, Z2, M2, by omega, rfl, hle.trans hle2, rfl⟩
    · refine rn_ ?_; intros
      repeat (first | (refine go_gsplit rfl rfl (fun hc => absurd hc (by first | decide +kernel | (simp; first | done | fail))) (fun _ => ?_); refine st_ ?_; (refine rn_ ?_; intros)) | (refine go_gsplit rfl rfl (fun _ => ?_) (fun hc => absurd hc (by first | decide +kernel | (simp; first | done | fail))); refine st_ ?_; (refine rn_ ?_; intros)) | (refine x_split rfl rfl rfl (fun hc => absurd hc (by first | decide +kernel | (simp; first | done | fail))) (fun _ => ?_); refine st_ ?_; (refine ru_ ?_; intros)) | (refine x_split rfl rfl rfl (fun _ => ?_) (fun hc => absurd hc (by first | decide +kernel | (simp; first | done | fail))); refine st_ ?_; (refine ru_ ?_; intros)))
      refine rn_ ?_; intros
      refine go_endZ hQ hmb hmh hG0 rfl (by rw [hty]; simp only [so, sq, zy, zz, tyE, SO', SQ', opQ, opStore, opAlloc, ev, putS, dOk, cv, SV.cs, SV.one, SV.bool?, eqB, Value.oneCell', ldOwn, binInt, binConst, binBool, binStr, isC, TK.agg, rv, rv1, ldV, resOne, resV, Nat.reduceAdd, Nat.reduceMul, Nat.reduceSub, Nat.reduceLT, Nat.reduceLeDiff, Nat.reduceEqDiff, Nat.reduceBEq, reduceIte, reduceCtorEq, eq_self]; try rfl) rfl rfl ?_
      exact .inr rfl
  · have hje : j = L.length := by simp at hjl; omega
    subst hje
    refine rn_ ?_; intros
    refine go_endZ hQ hmb hmh hG0 rfl (by rw [hty]; simp only [so, sq, zy, zz, tyE, SO', SQ', opQ, opStore, opAlloc, ev, putS, dOk, cv, SV.cs, SV.one, SV.bool?, eqB, Value.oneCell', ldOwn, binInt, binConst, binBool, binStr, isC, TK.agg, rv, rv1, ldV, resOne, resV, Nat.reduceAdd, Nat.reduceMul, Nat.reduceSub, Nat.reduceLT, Nat.reduceLeDiff, Nat.reduceEqDiff, Nat.reduceBEq, reduceIte, reduceCtorEq, eq_self]; try rfl) rfl rfl ?_
    exact .inl rfl
end Go.Proofs.Ytpmmbjcgabnloaa
namespace Go.Sx
set_option linter.unusedSimpArgs false
set_option linter.unusedVariables false
open Go.RowKit
section
variable {C : Ctx} {R : Array Oper} {d : Option Tmp} {t : TypeId} {pos : String} {aft : Array Edge} {K : List KI} {s : St}
theorem hu_twoL (i j : Nat) (own1 : List (Nat × Nat × OO)) {own0 : List (Nat × Nat × OO)} {G0 : Hp} {n p : Nat} {listed : Array Bool} {op op' : Op} {g g' : Option (Nat × Bool)} {d' : Option Tmp} {t' : TypeId} {pos' : String} {aft' : Array Edge} (hi : R[i]? = some ⟨d, op, t, pos, aft, g⟩) (hj : R[j]? = some ⟨d', op', t', pos', aft', g'⟩) (hr : Region.ready .any R listed = [i, j]) (hl : (listed.setIfInBounds j true).getD p true = true)
    (h : SGo C (.ops R [⟨d, op, t, pos, aft, g⟩] :: .hs (Hold C own0 G0) :: .hu (Hold C own0 G0) p R n (listed.setIfInBounds i true) :: K) s)
    (h' : SGo C (.ops R [⟨d', op', t', pos', aft', g'⟩] :: .h (Hold C own1 G0) R n (listed.setIfInBounds j true) :: K) s) : SGo C (.hu (Hold C own0 G0) p R (n + 1) listed :: K) s := by
  intro a w hS
  have h1 := h a w hS
  have h2 := h' a w hS
  show wpAnyHU _ _ _ _ _ _ _ _ _ _ _
  refine ⟨fun q => (by rw [hr] at q; cases q), fun q hq => ?_⟩
  rw [hr] at hq
  simp only [List.mem_cons, List.not_mem_nil, or_false] at hq
  rcases hq with rfl | rfl
  · exact hu_step hi (.inl rfl) h1
  · exact hu_step hj (.inr ⟨own1, rfl, hl⟩) h2
end
end Go.Sx
namespace Go.Proofs.Ytpmmbjcgabnloaa
set_option linter.unusedSimpArgs false
set_option linter.unusedVariables false
open Go.Sx
set_option maxHeartbeats 8000000
set_option maxRecDepth 20000
def itRet (L : List VT) (v : Value) (G : Hp) : Prop := ∃ f cap, v = .func (.func f) #[] cap.toArray ∧ canCall Try.prog f = true ∧ Iter Try.prog f cap G (encR L) L.length
theorem hRuns_ok (m : Int) (l : List Op) (sl : Value) (G : Hp) (hl : rO.S G l sl) (hn : l.length ≤ 100) : Pure Try.prog 30 [.int .i64 m, sl] G (itRet (runP m ⟨[], []⟩ l)) := by
  have hl63 := Rp.S_len hl
  obtain ⟨adl, capl, rfl⟩ := Rp.S_slice hl
  refine enterX ty tyok Try.func30 rfl Try.ntmps30 [.v (.int .i64 m), .v (.slice adl l.length capl)] (by simp) ?_
  intro C hP hQ hnt hty hmb hmh hro; have hQp := qp_body hQ; refine st_ ?_
  refine rn_ ?_; intros
  rename_i b0 b1
  refine go_call (by rw [hnt]; rfl) (by rw [hP]; kernel_rfl) rfl (hP ▸ effects_ok G) ?_
  rintro v G1 (hle1 : Le G G1) ⟨mp, rfl, hmp⟩
  refine rn_ ?_; intros
  rcases eff_of m with ⟨hk0, hg0⟩ | ⟨K, mo, pt, f, he⟩
  · refine go_q (v := .tuple #[.agg #[.int .i64 0, .int .i64 0, .bool false, .nilFunc], .bool false]) (by rw [hnt]; rfl) ((quiet_lookupG (ok := true) (z := .agg #[.int .i64 0, .int .i64 0, .bool false, .nilFunc]) (by rw [hty]; rfl) (by rw [hty]; rfl) (by rw [hP]; exact ⟨_, (by kernel_rfl : Try.prog.info? 89 = some Try.t89), rfl⟩) rfl rfl hmp).cast (by rw [hg0]; rfl)) ?_
    refine rn_ ?_; intros
    rename_i bf
    refine go_nilrow 41 28 3 rfl (by omega) ?_
    refine go_keep [1, 5, 6, 7, 8, 9] [0, 1, 2, 41] ?_
    refine st_ ?_
    refine x_loop rfl (fun q st => q = 0 ∧ st = ⟨[(1, .v (.slice adl l.length capl)), (5, .p 0 b0 0), (6, .p 1 b1 0), (7, .p 2 bf 0), (8, .v (.bool false)), (9, .v (.int .i64 0))],
      [(0, b0, .c 44 [.v (.slice none 0 0), .v (.slice none 0 0)]), (1, b1, .c 26 [.v (.slice none 0 0)]), (2, bf, .c 89 [.v (.int .i64 0), .v (.int .i64 0), .v (.bool false), .v .nilFunc]), (41, 0, .row (.slice none 0 0) 28 3 0 [])], G1, []⟩) ⟨rfl, rfl⟩ ?_
    rintro q st ⟨rfl, rfl⟩ ih
    refine rn_ ?_; intros
    repeat (first | (refine go_gsplit rfl rfl (fun hc => absurd hc (by first | decide +kernel | (simp; first | done | fail))) (fun _ => ?_); refine st_ ?_; (refine rn_ ?_; intros)) | (refine go_gsplit rfl rfl (fun _ => ?_) (fun hc => absurd hc (by first | decide +kernel | (simp; first | done | fail))); refine st_ ?_; (refine rn_ ?_; intros)) | (refine x_split rfl rfl rfl (fun hc => absurd hc (by first | decide +kernel | (simp; first | done | fail))) (fun _ => ?_); refine st_ ?_; (refine ru_ ?_; intros)) | (refine x_split rfl rfl rfl (fun _ => ?_) (fun hc => absurd hc (by first | decide +kernel | (simp; first | done | fail))); refine st_ ?_; (refine ru_ ?_; intros)))
    repeat (refine go_gundef rfl (by rw [hnt]; rfl) rfl ?_; (refine st_ ?_; (refine rn_ ?_; intros)))
    refine rn_ ?_; intros
    have hst : runP m ⟨[], []⟩ l = [] := by
      cases l with
      | nil => rfl
      | cons o r => exact runP_stop (fun h => by rw [kns0_rgt hk0] at h; cases h.1)
    obtain ⟨vs, hvs⟩ : ∃ vs : List VT, vs = [] := ⟨_, rfl⟩
    have hvl : vs.length = 0 := by rw [hvs]; rfl
    have hL : rV.L G1 vs [] := by rw [hvs]; rfl
    have hsmv : ∀ x ∈ vs, sml x = true := by rw [hvs]; intro x h; cases h
    have hst : runP m ⟨[], []⟩ l = vs := by rw [hst, hvs]
    refine rn_ ?_; intros
    refine go_pubL rV 41 rfl (by omega) (ts := vs) hvl.symm (by omega) (Rp.L_mono (Le.refl _) hL) ?_
    intro G8 ad8 cap8 (hle8 : Le G1 G8) he8 hS8
    rw [← he8] at hS8
    refine st_ ?_
    refine go_pub 1 rfl (by omega) ?_
    intro G9 (hle9 : Le G8 G9) hG9
    have hat9 := at_block hG9
    simp only [dens, SV.den] at hat9
    refine st_ ?_
    refine x_ret rfl hQ hmb (by rw [hty]; rfl) rfl ?_; simp only [SV.den, resV]
    refine ⟨57, [.pointer (some ⟨b1, 0, none⟩)], by simp [dens, SV.den], by kernel_rfl, ?_⟩
    rw [hst]
    exact runs1_ok vs b1 _ G9 (Rp.S_mono hle9 hS8) hsmv hat9
  · refine go_q (v := .tuple #[effV K mo pt f, .bool true]) (by rw [hnt]; rfl) ((quiet_lookupG (ok := true) (z := .agg #[.int .i64 0, .int .i64 0, .bool false, .nilFunc]) (by rw [hty]; rfl) (by rw [hty]; rfl) (by rw [hP]; exact ⟨_, (by kernel_rfl : Try.prog.info? 89 = some Try.t89), rfl⟩) rfl rfl hmp).cast (by rw [he.get]; rfl)) ?_
    simp only [effV]
    refine rn_ ?_; intros
    rename_i bf
    have hK := he.kn
    refine go_nilrow 41 28 3 rfl (by omega) ?_
    refine go_nilrow 61 28 3 rfl (by omega) ?_
    refine go_nilrow 62 55 4 rfl (by omega) ?_
    refine go_qrow (G0 := G) 61 rfl ?_
    intro Z0 bz0
    refine st_ ?_
    refine go_keep [1, 5, 6, 7, 8, 9] [0, 1, 2, 41, 61, 62] ?_
    refine st_ ?_
    refine x_loop rfl (fun q st => ∃ (k : Nat) (G' : Hp) (s : MS) (vs : List VT) (xs ys zs : List Value) (vv pv : Value) (ado : Option Addr) (capo : Nat) (bz : Nat) (Z : Nat → Prop) (bp bo : Nat), k ≤ l.length ∧ q = l.length - k ∧ Le G G' ∧ runP m ⟨[], []⟩ l = vs ++ runP m s (l.drop k) ∧ vs.length = k ∧ (∀ x ∈ vs, sml x = true) ∧ rV.L G' vs xs ∧ rV.L G' s.vals ys ∧ rPo.L G' s.ps zs ∧ s.inv m ∧ s.vals.length ≤ k ∧ s.ps.length ≤ k ∧
      st = ⟨[(1, .v (.slice adl l.length capl)), (5, .p 0 b0 0), (6, .p 1 b1 0), (7, .p 2 bf 0), (8, .v (.bool true)), (9, .v (.int .i64 k))],
        [(0, b0, .c 44 [.v vv, .v pv]), (1, b1, .c 26 [.v (.slice ado k capo)]), (2, bf, .c 89 [.v (.int .i64 K), .v (.int .i64 mo), .v (.bool pt), .v (.func (.func f) #[] #[])]),
         (41, bo, .row (.slice ado k capo) 28 3 k xs), (61, bz, .z (ZQ G 28 3 vv s.vals.length ys) Z Z), (62, bp, .row pv 55 4 s.ps.length zs)], G', []⟩)
      ⟨0, G1, ⟨[], []⟩, [], [], [], [], _, _, none, 0, _, _, _, _, by omega, rfl, hle1, rfl, rfl, fun x h => (by cases h), rfl, rfl, rfl, ⟨⟨fun x h => (by cases h), fun x h => (by cases h)⟩, fun x h => (by cases h), fun _ => rfl⟩, by simp, by simp, rfl⟩ ?_
    rintro q st ⟨k, G2, s, vs, xs, ys, zs, vv, pv, ado, capo, bz, Z, bp, bo, hk, hq, hle1, hrun, hvl, hsmv, hL, hLv, hLp, hinv, hsl, hspl, rfl⟩ ih
    refine rn_ ?_; intros
    repeat (first | (refine go_gsplit rfl rfl (fun hc => absurd hc (by first | decide +kernel | (simp; first | done | fail))) (fun _ => ?_); refine st_ ?_; (refine rn_ ?_; intros)) | (refine go_gsplit rfl rfl (fun _ => ?_) (fun hc => absurd hc (by first | decide +kernel | (simp; first | done | fail))); refine st_ ?_; (refine rn_ ?_; intros)) | (refine x_split rfl rfl rfl (fun hc => absurd hc (by first | decide +kernel | (simp; first | done | fail))) (fun _ => ?_); refine st_ ?_; (refine ru_ ?_; intros)) | (refine x_split rfl rfl rfl (fun _ => ?_) (fun hc => absurd hc (by first | decide +kernel | (simp; first | done | fail))); refine st_ ?_; (refine ru_ ?_; intros)))
    refine x_if rfl rfl rfl rfl (fun hjl => ?_) (fun hjl => ?_)
    · have hlt : k < l.length := by simp at hjl; omega
      obtain ⟨c1, o1, sa, sr, rfl, hat, hor⟩ := rO_at hl hlt
      obtain ⟨asa, csa, rfl⟩ := VT.rep_slice hor.a
      obtain ⟨asr, csr, rfl⟩ := VT.rep_slice hor.r
      refine rn_ ?_; intros
      refine x_held [(2, bf, .c 89 [.v (.int .i64 K), .v (.int .i64 mo), .v (.bool pt), .v (.func (.func f) #[] #[])])] rfl (by rw [hP]; kernel_rfl) rfl rfl rfl ?_; refine st_ ?_
      refine h_take 0 rfl (by kernel_rfl) (by kernel_rfl) (by kernel_rfl) hQp (by rw [hnt]; rfl) (allIn (by repeat (first | exact trivial | refine ⟨rfl, ?_⟩))) (by first | exact Le.refl _ | assumption) (quiet_op (by rw [hty]; first | rfl | (refine st_ ?_; rfl))) ?_; refine st_ ?_
      refine h_take 1 rfl (by kernel_rfl) (by kernel_rfl) (by kernel_rfl) hQp (by rw [hnt]; rfl) (allIn (by repeat (first | exact trivial | refine ⟨rfl, ?_⟩))) (by first | exact Le.refl _ | assumption) (quiet_op (by rw [hty]; first | rfl | (refine st_ ?_; rfl))) ?_; refine st_ ?_
      refine h_take 2 rfl (by kernel_rfl) (by kernel_rfl) (by kernel_rfl) hQp (by rw [hnt]; rfl) (allIn (by repeat (first | exact trivial | refine ⟨rfl, ?_⟩))) (by first | exact Le.refl _ | assumption) (quiet_op (by rw [hty]; first | rfl | (refine st_ ?_; rfl))) ?_; refine st_ ?_
      refine h_take 3 rfl (by kernel_rfl) (by kernel_rfl) (by kernel_rfl) hQp (by rw [hnt]; rfl) (allIn (by repeat (first | exact trivial | refine ⟨rfl, ?_⟩))) (by first | exact Le.refl _ | assumption) (quiet_op (by rw [hty]; first | rfl | (refine st_ ?_; rfl))) ?_; refine st_ ?_
      refine h_take 4 rfl (by kernel_rfl) (by kernel_rfl) (by kernel_rfl) hQp (by rw [hnt]; rfl) (allIn (by repeat (first | exact trivial | refine ⟨rfl, ?_⟩))) (by first | exact Le.refl _ | assumption) (x := .v (.pointer (some ⟨c1, o1 + k * 11, none⟩))) ((quiet_index (by rw [hty]; rfl) (by rw [hty]; rfl) rfl rfl rfl (by omega) (by omega)).cast (by simp [SV.den])) ?_
      refine st_ ?_
      refine h_take 5 rfl (by kernel_rfl) (by kernel_rfl) (by kernel_rfl) hQp (by rw [hnt]; rfl) (allIn (by repeat (first | exact trivial | refine ⟨rfl, ?_⟩))) (by first | exact Le.refl _ | assumption) (x := .a (opC l[k] (.slice asa l[k].arg.l.length csa) (.slice asr l[k].res.l.length csr))) ((quiet_load (by rw [hty]; rfl) rfl (fun q => by cases q) (hat.mono hle1) rfl).cast (by simp only [ldV, SV.den, dens]; rfl)) ?_
      simp only [opC]
      refine st_ ?_
      refine cut_tail 1 (fun s' => ∃ b3, s' = ⟨[(1, .v (.slice (some ⟨c1, o1, none⟩) l.length capl)), (5, .p 0 b0 0), (6, .p 1 b1 0), (7, .p 2 bf 0), (8, .v (.bool true)), (9, .v (.int .i64 k)), (10, .p 63 b3 0), (11, .v (.bool (rgtO K l[k])))],
        [(0, b0, .c 44 [.v vv, .v pv]), (1, b1, .c 26 [.v (.slice ado k capo)]), (2, bf, .c 89 [.v (.int .i64 K), .v (.int .i64 mo), .v (.bool pt), .v (.func (.func f) #[] #[])]),
         (41, bo, .row (.slice ado k capo) 28 3 k xs), (61, bz, .z (ZQ G 28 3 vv s.vals.length ys) Z Z), (62, bp, .row pv 55 4 s.ps.length zs), (63, b3, .c 28 [.v (.int .i64 0), .v (.int .i64 0), .v (.slice none 0 0)])], G2, []⟩) ?_ ?_
      rotate_left
      · intro key
        simp only [List.drop_succ_cons, List.drop_zero] at key
        refine h_two 6 7 rfl rfl (by kernel_rfl) ?_ ?_
        · refine go_callf (by rw [hnt]; rfl) (by rw [hP]; kernel_rfl) rfl (hP ▸ valid_ok2 K mo pt _ l[k] _ _ G2 rfl (hor.mono hle1)) ?_; refine rn_ ?_; intros
          refine h_hs (allIn (by repeat (first | exact trivial | refine ⟨rfl, ?_⟩))) (by first | exact Le.refl _ | assumption) ?_
          refine h_one 7 rfl (by kernel_rfl) ?_
          refine rn_ ?_; intros
          refine h_hs (allIn (by repeat (first | exact trivial | refine ⟨rfl, ?_⟩))) (by first | exact Le.refl _ | assumption) ?_
          refine h_one 8 rfl (by kernel_rfl) ?_
          refine rn_ ?_; intros
          refine h_hs (allIn (by repeat (first | exact trivial | refine ⟨rfl, ?_⟩))) (by first | exact Le.refl _ | assumption) ?_
          refine h_one 9 rfl (by kernel_rfl) ?_
          refine rn_ ?_; intros
          refine h_hs (allIn (by repeat (first | exact trivial | refine ⟨rfl, ?_⟩))) (by first | exact Le.refl _ | assumption) ?_
          refine h_end (by kernel_rfl) ?_
          refine go_keep [1, 5, 6, 7, 8, 9, 10, 11] [0, 1, 2, 41, 61, 62, 63] ?_
          refine st_ ?_
          exact key _ ⟨_, rfl⟩
        · refine rn_ ?_; intros
          refine h_hs (allIn (by repeat (first | exact trivial | refine ⟨rfl, ?_⟩))) (by first | exact Le.refl _ | assumption) ?_
          refine h_one 6 rfl (by kernel_rfl) ?_
          refine go_callf (by rw [hnt]; rfl) (by rw [hP]; kernel_rfl) rfl (hP ▸ valid_ok2 K mo pt _ l[k] _ _ G2 rfl (hor.mono hle1)) ?_; refine rn_ ?_; intros
          refine h_hs (allIn (by repeat (first | exact trivial | refine ⟨rfl, ?_⟩))) (by first | exact Le.refl _ | assumption) ?_
          refine h_one 8 rfl (by kernel_rfl) ?_
          refine rn_ ?_; intros
          refine h_hs (allIn (by repeat (first | exact trivial | refine ⟨rfl, ?_⟩))) (by first | exact Le.refl _ | assumption) ?_
          refine h_one 9 rfl (by kernel_rfl) ?_
          refine rn_ ?_; intros
          refine h_hs (allIn (by repeat (first | exact trivial | refine ⟨rfl, ?_⟩))) (by first | exact Le.refl _ | assumption) ?_
          refine h_end (by kernel_rfl) ?_
          refine go_keep [1, 5, 6, 7, 8, 9, 10, 11] [0, 1, 2, 41, 61, 62, 63] ?_
          refine st_ ?_
          exact key _ ⟨_, rfl⟩
      rintro s' ⟨b3, rfl⟩
      simp only [List.drop_succ_cons, List.drop_zero]
      refine rn_ ?_; intros
      cases hrgk : rgtO K l[k]
      · (refine x_split rfl rfl rfl (fun hc => absurd hc (by first | decide +kernel | (simp; first | done | fail))) (fun _ => ?_); refine st_ ?_; (refine ru_ ?_; intros))
        refine x_draw rfl (by rw [hP]; kernel_rfl) rfl (by kernel_rfl) ?_
        refine runq 400 hty hnt ?_; refine st_ ?_
        (refine go_qsplit rfl rfl (fun _ => ?_) (fun hc => absurd hc (by simp)); refine st_ ?_; (try (refine runq 400 hty hnt ?_; refine st_ ?_)))
        repeat (refine q_gundef rfl (by rw [hnt]; rfl) rfl ?_; (refine st_ ?_; (try (refine runq 400 hty hnt ?_; refine st_ ?_))))
        refine q_end ?_; refine rn_ ?_; intros
        (try ((refine x_split rfl rfl rfl (fun _ => ?_) (fun hc => absurd hc (by first | decide +kernel | (simp; first | done | fail))); refine st_ ?_; (refine ru_ ?_; intros))))
        have hst : runP m ⟨[], []⟩ l = vs := by rw [hrun, List.drop_eq_getElem_cons hlt, runP_stop (by rw [← hK, hrgk]; simp), List.append_nil]
        refine rn_ ?_; intros
        refine go_pubL rV 41 rfl (by omega) (ts := vs) hvl.symm (by omega) (Rp.L_mono (Le.refl _) hL) ?_
        intro G8 ad8 cap8 (hle8 : Le G2 G8) he8 hS8
        rw [← he8] at hS8
        refine st_ ?_
        refine go_pub 1 rfl (by omega) ?_
        intro G9 (hle9 : Le G8 G9) hG9
        have hat9 := at_block hG9
        simp only [dens, SV.den] at hat9
        refine st_ ?_
        refine x_ret rfl hQ hmb (by rw [hty]; rfl) rfl ?_; simp only [SV.den, resV]
        refine ⟨57, [.pointer (some ⟨b1, 0, none⟩)], by simp [dens, SV.den], by kernel_rfl, ?_⟩
        rw [hst]
        exact runs1_ok vs b1 _ G9 (Rp.S_mono hle9 hS8) hsmv hat9
      (refine x_split rfl rfl rfl (fun _ => ?_) (fun hc => absurd hc (by first | decide +kernel | (simp; first | done | fail))); refine st_ ?_; (refine ru_ ?_; intros))
      have hrgm : rgtO (kns m) l[k] = true := by rw [← hK]; exact hrgk
      refine x_held [(2, bf, .c 89 [.v (.int .i64 K), .v (.int .i64 mo), .v (.bool pt), .v (.func (.func f) #[] #[])])] rfl (by rw [hP]; kernel_rfl) rfl rfl rfl ?_; refine st_ ?_
      refine h_take 0 rfl (by kernel_rfl) (by kernel_rfl) (by kernel_rfl) hQp (by rw [hnt]; rfl) (allIn (by repeat (first | exact trivial | refine ⟨rfl, ?_⟩))) (by first | exact Le.refl _ | assumption) (quiet_op (by rw [hty]; first | rfl | (refine st_ ?_; rfl))) ?_; refine st_ ?_
      refine h_take 1 rfl (by kernel_rfl) (by kernel_rfl) (by kernel_rfl) hQp (by rw [hnt]; rfl) (allIn (by repeat (first | exact trivial | refine ⟨rfl, ?_⟩))) (by first | exact Le.refl _ | assumption) (quiet_op (by rw [hty]; first | rfl | (refine st_ ?_; rfl))) ?_; refine st_ ?_
      refine h_take 2 rfl (by kernel_rfl) (by kernel_rfl) (by kernel_rfl) hQp (by rw [hnt]; rfl) (allIn (by repeat (first | exact trivial | refine ⟨rfl, ?_⟩))) (by first | exact Le.refl _ | assumption) (quiet_op (by rw [hty]; first | rfl | (refine st_ ?_; rfl))) ?_; refine st_ ?_
      refine h_take 3 rfl (by kernel_rfl) (by kernel_rfl) (by kernel_rfl) hQp (by rw [hnt]; rfl) (allIn (by repeat (first | exact trivial | refine ⟨rfl, ?_⟩))) (by first | exact Le.refl _ | assumption) (quiet_op (by rw [hty]; first | rfl | (refine st_ ?_; rfl))) ?_; refine st_ ?_
      refine h_take 4 rfl (by kernel_rfl) (by kernel_rfl) (by kernel_rfl) hQp (by rw [hnt]; rfl) (allIn (by repeat (first | exact trivial | refine ⟨rfl, ?_⟩))) (by first | exact Le.refl _ | assumption) (x := .v (.pointer (some ⟨c1, o1 + k * 11, none⟩))) ((quiet_index (by rw [hty]; rfl) (by rw [hty]; rfl) rfl rfl rfl (by omega) (by omega)).cast (by simp [SV.den])) ?_
      refine st_ ?_
      refine h_take 5 rfl (by kernel_rfl) (by kernel_rfl) (by kernel_rfl) hQp (by rw [hnt]; rfl) (allIn (by repeat (first | exact trivial | refine ⟨rfl, ?_⟩))) (by first | exact Le.refl _ | assumption) (x := .a (opC l[k] (.slice asa l[k].arg.l.length csa) (.slice asr l[k].res.l.length csr))) ((quiet_load (by rw [hty]; rfl) rfl (fun q => by cases q) (hat.mono hle1) rfl).cast (by simp only [ldV, SV.den, dens]; rfl)) ?_
      simp only [opC]
      refine st_ ?_
      refine h_one 6 rfl (by kernel_rfl) ?_
      refine go_callWv [0, 61, 62] (f := f) (cap := []) (by rw [hnt]; rfl) (hP ▸ he.can) rfl rfl rfl rfl rfl (.inl (by intro k hk; omega)) (hP ▸ he.run s l[k] _ _ b0 _ G G2 hle1 ⟨_, _, bz, Z, bp, ys, zs, rfl, hLv, hLp, by omega, by omega⟩ (hor.mono hle1) (by omega) (by omega) hinv.wf) ?_
      rintro v G3 ow' (hle23 : Le G2 G3) ⟨slr, rfl, hrr, hrb, vv2, pv2, bz2, Z2, bp2, ys2, zs2, rfl, hL2, hM2, hn1, hn2⟩
      simp only [setO]
      refine st_ ?_
      obtain ⟨asr2, csr2, rfl⟩ := VT.rep_slice hrr
      refine rn_ ?_; intros
      refine h_hs (allIn (by repeat (first | exact trivial | refine ⟨rfl, ?_⟩))) (by first | exact Le.refl _ | assumption) ?_
      refine h_take 7 rfl (by kernel_rfl) (by kernel_rfl) (by kernel_rfl) hQp (by rw [hnt]; rfl) (allIn (by repeat (first | exact trivial | refine ⟨rfl, ?_⟩))) (by first | exact Le.refl _ | assumption) (quiet_op (by rw [hty]; first | rfl | (refine st_ ?_; rfl))) ?_; refine st_ ?_
      refine h_take 8 rfl (by kernel_rfl) (by kernel_rfl) (by kernel_rfl) hQp (by rw [hnt]; rfl) (allIn (by repeat (first | exact trivial | refine ⟨rfl, ?_⟩))) (by first | exact Le.refl _ | assumption) (quiet_op (by rw [hty]; first | rfl | (refine st_ ?_; rfl))) ?_; refine st_ ?_
      refine h_take 9 rfl (by kernel_rfl) (by kernel_rfl) (by kernel_rfl) hQp (by rw [hnt]; rfl) (allIn (by repeat (first | exact trivial | refine ⟨rfl, ?_⟩))) (by first | exact Le.refl _ | assumption) (quiet_op (by rw [hty]; first | rfl | (refine st_ ?_; rfl))) ?_; refine st_ ?_
      refine h_one 10 rfl (by kernel_rfl) ?_
      refine rn_ ?_; intros
      refine h_hs (allIn (by repeat (first | exact trivial | refine ⟨rfl, ?_⟩))) (by first | exact Le.refl _ | assumption) ?_
      refine h_one 11 rfl (by kernel_rfl) ?_
      refine rn_ ?_; intros
      refine h_hs (allIn (by repeat (first | exact trivial | refine ⟨rfl, ?_⟩))) (by first | exact Le.refl _ | assumption) ?_
      refine h_end (by kernel_rfl) ?_
      refine go_keep [1, 5, 6, 7, 8, 9, 10, 11] [0, 1, 2, 41, 61, 62, 63] ?_
      refine st_ ?_
      have hinv2 := inv_do hinv hrgm
      have hdo := do_vd (m := m) (o := l[k]) hinv.vd (rgt_vld hrgm).1 (rgt_vld hrgm).2
      have hd1 := hdo.lv
      have hd2 := hdo.lp
      generalize hr0 : doP m s l[k] = r at *
      have hle03 := hle1.trans hle23
      refine rn_ ?_; intros
      refine x_draw rfl (by rw [hP]; kernel_rfl) rfl (by kernel_rfl) ?_
      refine runq 400 hty hnt ?_; refine st_ ?_
      cases hcan : r.2.2
      · (refine go_qsplit rfl rfl (fun _ => ?_) (fun hc => absurd hc (by simp)); refine st_ ?_; (try (refine runq 400 hty hnt ?_; refine st_ ?_)))
        repeat (refine q_gundef rfl (by rw [hnt]; rfl) rfl ?_; (refine st_ ?_; (try (refine runq 400 hty hnt ?_; refine st_ ?_))))
        refine q_end ?_; refine rn_ ?_; intros
        (try ((refine x_split rfl rfl rfl (fun _ => ?_) (fun hc => absurd hc (by first | decide +kernel | (simp; first | done | fail))); refine st_ ?_; (refine ru_ ?_; intros))))
        have hst : runP m ⟨[], []⟩ l = vs := by rw [hrun, List.drop_eq_getElem_cons hlt, runP_stop (by rw [hr0, hcan]; simp), List.append_nil]
        refine rn_ ?_; intros
        refine go_pubL rV 41 rfl (by omega) (ts := vs) hvl.symm (by omega) (Rp.L_mono hle23 hL) ?_
        intro G8 ad8 cap8 (hle8 : Le G3 G8) he8 hS8
        rw [← he8] at hS8
        refine st_ ?_
        refine go_pub 1 rfl (by omega) ?_
        intro G9 (hle9 : Le G8 G9) hG9
        have hat9 := at_block hG9
        simp only [dens, SV.den] at hat9
        refine st_ ?_
        refine x_ret rfl hQ hmb (by rw [hty]; rfl) rfl ?_; simp only [SV.den, resV]
        refine ⟨57, [.pointer (some ⟨b1, 0, none⟩)], by simp [dens, SV.den], by kernel_rfl, ?_⟩
        rw [hst]
        exact runs1_ok vs b1 _ G9 (Rp.S_mono hle9 hS8) hsmv hat9
      (refine go_qsplit rfl rfl (fun hc => absurd hc (by simp)) (fun _ => ?_); refine st_ ?_; (try (refine runq 400 hty hnt ?_; refine st_ ?_)))
      refine q_q (by rw [hnt]; rfl) (quiet_index (by rw [hty]; rfl) (by rw [hty]; rfl) rfl rfl rfl (by omega) (by omega)) ?_; refine runq 400 hty hnt ?_; refine st_ ?_
      refine q_q (v := .bool l[k].dn) (by rw [hnt]; rfl) ((quiet_load (vs := [.bool l[k].dn]) (by rw [hty]; rfl) rfl (by simp [TK.agg]) (by simpa [opL] using (hat.mono hle03).sub 10 1 (by simp [opL])) rfl).cast (by rfl)) ?_
      refine runq 400 hty hnt ?_; refine st_ ?_
      cases hdn : l[k].dn
      · (refine go_qsplit rfl rfl (fun hc => absurd hc (by simp)) (fun _ => ?_); refine st_ ?_; (try (refine runq 400 hty hnt ?_; refine st_ ?_)))
        repeat (refine q_gundef rfl (by rw [hnt]; rfl) rfl ?_; (refine st_ ?_; (try (refine runq 400 hty hnt ?_; refine st_ ?_))))
        refine q_end ?_; refine rn_ ?_; intros
        (try ((refine x_split rfl rfl rfl (fun hc => absurd hc (by first | decide +kernel | (simp; first | done | fail))) (fun _ => ?_); refine st_ ?_; (refine ru_ ?_; intros))))
        have hst : runP m ⟨[], []⟩ l = (vs ++ [r.2.1]) ++ runP m r.1 (l.drop (k + 1)) := by
          rw [hrun, List.drop_eq_getElem_cons hlt, runP_step (by rw [hr0, hrgm, hcan]; exact ⟨rfl, rfl, fun _ => by first | exact hsm | (rename_i hh; rw [hdn] at hh; cases hh)⟩), hr0]
          simp
        refine go_keep [1, 5, 6, 7, 8, 9, 10] [0, 1, 2, 41, 61, 62, 63] ?_
        refine st_ ?_
        refine rn_ ?_; intros
        refine x_heldP [(1, b1, .c 26 [.v (.slice ado k capo)]), (63, b3, .c 28 [.v (.int .i64 r.2.1.k), .v (.int .i64 r.2.1.n), .v (.slice asr2 r.2.1.l.length csr2)])] 8 rfl (by rw [hP]; kernel_rfl) rfl rfl rfl ?_
        refine st_ ?_
        refine hu_take 0 rfl (by kernel_rfl) (by kernel_rfl) (by kernel_rfl) (by kernel_rfl) rfl (fun c a w v => hQp c a w _ v) (by rw [hnt]; rfl) (allIn (by repeat (first | exact trivial | refine ⟨rfl, ?_⟩))) (by first | exact Le.refl _ | assumption) (quiet_op (by rw [hty]; first | rfl | (refine st_ ?_; rfl))) ?_; refine st_ ?_
        refine hu_take 1 rfl (by kernel_rfl) (by kernel_rfl) (by kernel_rfl) (by kernel_rfl) rfl (fun c a w v => hQp c a w _ v) (by rw [hnt]; rfl) (allIn (by repeat (first | exact trivial | refine ⟨rfl, ?_⟩))) (by first | exact Le.refl _ | assumption) (quiet_op (by rw [hty]; first | rfl | (refine st_ ?_; rfl))) ?_; refine st_ ?_
        refine hu_take 3 rfl (by kernel_rfl) (by kernel_rfl) (by kernel_rfl) (by kernel_rfl) rfl (fun c a w v => hQp c a w _ v) (by rw [hnt]; rfl) (allIn (by repeat (first | exact trivial | refine ⟨rfl, ?_⟩))) (by first | exact Le.refl _ | assumption) (quiet_op (by rw [hty]; first | rfl | (refine st_ ?_; rfl))) ?_; refine st_ ?_
        refine hu_two 2 4 rfl rfl (by kernel_rfl) ?_ ?_
        · refine go_call (by rw [hnt]; rfl) (by rw [hP]; kernel_rfl) rfl (hP ▸ copy_ok r.2.1 _ _ hrr (by omega)) ?_
          rintro v G4 (hle34 : Le G3 G4) hv0
          obtain ⟨_, hv0⟩ | ⟨hsm3, _⟩ := hv0
          rotate_left
          · rw [hdo.sm] at hsm3; cases hsm3
          obtain ⟨sl3, rfl, hr3⟩ := copied_cells hv0
          clear hv0
          obtain ⟨asl3, csl3, rfl⟩ := VT.rep_slice hr3
          refine rn_ ?_; intros
          refine h_hs (allIn (by repeat (first | exact trivial | refine ⟨rfl, ?_⟩))) (by first | exact Le.refl _ | assumption) ?_
          refine hu_one 4 rfl (by kernel_rfl) ?_
          refine rn_ ?_; intros
          refine h_hs (allIn (by repeat (first | exact trivial | refine ⟨rfl, ?_⟩))) (by first | exact Le.refl _ | assumption) ?_
          refine hu_one 5 rfl (by kernel_rfl) ?_
          refine go_append 41 (by rw [hnt]; rfl) (by rw [hty]; rfl) (by rw [hty]; rfl) (by decide) rfl rfl rfl (by omega) rfl (src_own 3 rfl rfl) rfl (by simp [dens, SV.den, Value.oneCell']) (by omega) (by simp only []; omega) ?_
          intro v'
          refine go_rowS 41 rfl ?_
          rintro ad4 cap4 rfl
          refine go_rowcases 41 rfl (fun _ h0 _ => by omega) ?_
          intro g capg hv' hcv hxl2
          cases hv'
          refine rn_ ?_; intros
          refine h_hs (allIn (by repeat (first | exact trivial | refine ⟨rfl, ?_⟩))) (by first | exact Le.refl _ | assumption) ?_
          have hxk : xs.length = k * 3 := by have := Rp.L_len hL; rw [hvl] at this; exact this
          have hlay : lay (xs ++ [.int .i64 0, .int .i64 0, .slice none 0 0]) (k * 3) [.int .i64 r.2.1.k, .int .i64 r.2.1.n, .slice asl3 r.2.1.l.length csl3] = some (xs ++ [.int .i64 r.2.1.k, .int .i64 r.2.1.n, .slice asl3 r.2.1.l.length csl3]) := by
            have := lay_at xs [.int .i64 0, .int .i64 0, .slice none 0 0] [.int .i64 r.2.1.k, .int .i64 r.2.1.n, .slice asl3 r.2.1.l.length csl3] [] rfl
            rw [hxk] at this
            simpa using this
          refine hu_twoL 6 8 [] rfl rfl (by kernel_rfl) rfl ?_ ?_
          · refine go_q (v := .pointer (some ⟨g, k * 3, none⟩)) (by rw [hnt]; rfl) ((quiet_index (by rw [hty]; rfl) (by rw [hty]; rfl) rfl rfl rfl (by omega) (by omega)).cast (by simp [SV.den])) ?_
            refine rn_ ?_; intros
            refine h_hs (allIn (by repeat (first | exact trivial | refine ⟨rfl, ?_⟩))) (by first | exact Le.refl _ | assumption) ?_
            refine hu_twoL 7 8 [] rfl rfl (by kernel_rfl) rfl ?_ ?_
            · refine go_storeR 41 rfl (by rw [hty]; rfl) rfl rfl rfl rfl rfl rfl hlay ?_
              refine rn_ ?_; intros
              refine h_hs (allIn (by repeat (first | exact trivial | refine ⟨rfl, ?_⟩))) (by first | exact Le.refl _ | assumption) ?_
              refine hu_last 8 [] rfl (by kernel_rfl) rfl ?_
              refine rn_ ?_; intros
              refine h_end (by kernel_rfl) ?_
              refine rn_ ?_; intros
              rw [wr (n := (k : Int) + 1) (by omega) (by omega)]
              refine go_keep [1, 5, 6, 7, 8, 9] [0, 1, 2, 41, 61, 62] ?_
              refine st_ ?_
              exact ih (l.length - (k + 1)) _ (by omega) ⟨k + 1, G4, r.1, vs ++ [r.2.1], _, _, _, _, _, _, _, _, _, _, _, by omega, rfl, hle03.trans hle34, hst, by simp [hvl], fun x hx => (by
                rcases List.mem_append.1 hx with hx | hx
                · exact hsmv x hx
                · simp at hx; subst hx; exact hdo.sm), Rp.L_append (Rp.L_mono (hle23.trans hle34) hL) (Rp.L_single ⟨_, rfl, hr3, hrb⟩), Rp.L_mono hle34 hL2, Rp.L_mono hle34 hM2, hinv2, by omega, by omega, rfl⟩
            · refine rn_ ?_; intros
              refine h_one 7 rfl (by kernel_rfl) ?_
              refine go_storeR 41 rfl (by rw [hty]; rfl) rfl rfl rfl rfl rfl rfl hlay ?_
              refine rn_ ?_; intros
              refine h_hs (allIn (by repeat (first | exact trivial | refine ⟨rfl, ?_⟩))) (by first | exact Le.refl _ | assumption) ?_
              refine h_end (by kernel_rfl) ?_
              refine rn_ ?_; intros
              rw [wr (n := (k : Int) + 1) (by omega) (by omega)]
              refine go_keep [1, 5, 6, 7, 8, 9] [0, 1, 2, 41, 61, 62] ?_
              refine st_ ?_
              exact ih (l.length - (k + 1)) _ (by omega) ⟨k + 1, G4, r.1, vs ++ [r.2.1], _, _, _, _, _, _, _, _, _, _, _, by omega, rfl, hle03.trans hle34, hst, by simp [hvl], fun x hx => (by
                rcases List.mem_append.1 hx with hx | hx
                · exact hsmv x hx
                · simp at hx; subst hx; exact hdo.sm), Rp.L_append (Rp.L_mono (hle23.trans hle34) hL) (Rp.L_single ⟨_, rfl, hr3, hrb⟩), Rp.L_mono hle34 hL2, Rp.L_mono hle34 hM2, hinv2, by omega, by omega, rfl⟩
          · refine rn_ ?_; intros
            refine h_one 6 rfl (by kernel_rfl) ?_
            refine go_q (v := .pointer (some ⟨g, k * 3, none⟩)) (by rw [hnt]; rfl) ((quiet_index (by rw [hty]; rfl) (by rw [hty]; rfl) rfl rfl rfl (by omega) (by omega)).cast (by simp [SV.den])) ?_
            refine rn_ ?_; intros
            refine h_hs (allIn (by repeat (first | exact trivial | refine ⟨rfl, ?_⟩))) (by first | exact Le.refl _ | assumption) ?_
            refine h_one 7 rfl (by kernel_rfl) ?_
            refine go_storeR 41 rfl (by rw [hty]; rfl) rfl rfl rfl rfl rfl rfl hlay ?_
            refine rn_ ?_; intros
            refine h_hs (allIn (by repeat (first | exact trivial | refine ⟨rfl, ?_⟩))) (by first | exact Le.refl _ | assumption) ?_
            refine h_end (by kernel_rfl) ?_
            refine rn_ ?_; intros
            rw [wr (n := (k : Int) + 1) (by omega) (by omega)]
            refine go_keep [1, 5, 6, 7, 8, 9] [0, 1, 2, 41, 61, 62] ?_
            refine st_ ?_
            exact ih (l.length - (k + 1)) _ (by omega) ⟨k + 1, G4, r.1, vs ++ [r.2.1], _, _, _, _, _, _, _, _, _, _, _, by omega, rfl, hle03.trans hle34, hst, by simp [hvl], fun x hx => (by
              rcases List.mem_append.1 hx with hx | hx
              · exact hsmv x hx
              · simp at hx; subst hx; exact hdo.sm), Rp.L_append (Rp.L_mono (hle23.trans hle34) hL) (Rp.L_single ⟨_, rfl, hr3, hrb⟩), Rp.L_mono hle34 hL2, Rp.L_mono hle34 hM2, hinv2, by omega, by omega, rfl⟩
        · refine rn_ ?_; intros
          refine h_hs (allIn (by repeat (first | exact trivial | refine ⟨rfl, ?_⟩))) (by first | exact Le.refl _ | assumption) ?_
          refine hu_one 2 rfl (by kernel_rfl) ?_
          refine go_call (by rw [hnt]; rfl) (by rw [hP]; kernel_rfl) rfl (hP ▸ copy_ok r.2.1 _ _ hrr (by omega)) ?_
          rintro v G4 (hle34 : Le G3 G4) hv0
          obtain ⟨_, hv0⟩ | ⟨hsm3, _⟩ := hv0
          rotate_left
          · rw [hdo.sm] at hsm3; cases hsm3
          obtain ⟨sl3, rfl, hr3⟩ := copied_cells hv0
          clear hv0
          obtain ⟨asl3, csl3, rfl⟩ := VT.rep_slice hr3
          refine rn_ ?_; intros
          refine h_hs (allIn (by repeat (first | exact trivial | refine ⟨rfl, ?_⟩))) (by first | exact Le.refl _ | assumption) ?_
          refine hu_one 5 rfl (by kernel_rfl) ?_
          refine go_append 41 (by rw [hnt]; rfl) (by rw [hty]; rfl) (by rw [hty]; rfl) (by decide) rfl rfl rfl (by omega) rfl (src_own 3 rfl rfl) rfl (by simp [dens, SV.den, Value.oneCell']) (by omega) (by simp only []; omega) ?_
          intro v'
          refine go_rowS 41 rfl ?_
          rintro ad4 cap4 rfl
          refine go_rowcases 41 rfl (fun _ h0 _ => by omega) ?_
          intro g capg hv' hcv hxl2
          cases hv'
          refine rn_ ?_; intros
          refine h_hs (allIn (by repeat (first | exact trivial | refine ⟨rfl, ?_⟩))) (by first | exact Le.refl _ | assumption) ?_
          have hxk : xs.length = k * 3 := by have := Rp.L_len hL; rw [hvl] at this; exact this
          have hlay : lay (xs ++ [.int .i64 0, .int .i64 0, .slice none 0 0]) (k * 3) [.int .i64 r.2.1.k, .int .i64 r.2.1.n, .slice asl3 r.2.1.l.length csl3] = some (xs ++ [.int .i64 r.2.1.k, .int .i64 r.2.1.n, .slice asl3 r.2.1.l.length csl3]) := by
            have := lay_at xs [.int .i64 0, .int .i64 0, .slice none 0 0] [.int .i64 r.2.1.k, .int .i64 r.2.1.n, .slice asl3 r.2.1.l.length csl3] [] rfl
            rw [hxk] at this
            simpa using this
          refine hu_twoL 6 8 [] rfl rfl (by kernel_rfl) rfl ?_ ?_
          · refine go_q (v := .pointer (some ⟨g, k * 3, none⟩)) (by rw [hnt]; rfl) ((quiet_index (by rw [hty]; rfl) (by rw [hty]; rfl) rfl rfl rfl (by omega) (by omega)).cast (by simp [SV.den])) ?_
            refine rn_ ?_; intros
            refine h_hs (allIn (by repeat (first | exact trivial | refine ⟨rfl, ?_⟩))) (by first | exact Le.refl _ | assumption) ?_
            refine hu_twoL 7 8 [] rfl rfl (by kernel_rfl) rfl ?_ ?_
            · refine go_storeR 41 rfl (by rw [hty]; rfl) rfl rfl rfl rfl rfl rfl hlay ?_
              refine rn_ ?_; intros
              refine h_hs (allIn (by repeat (first | exact trivial | refine ⟨rfl, ?_⟩))) (by first | exact Le.refl _ | assumption) ?_
              refine hu_last 8 [] rfl (by kernel_rfl) rfl ?_
              refine rn_ ?_; intros
              refine h_end (by kernel_rfl) ?_
              refine rn_ ?_; intros
              rw [wr (n := (k : Int) + 1) (by omega) (by omega)]
              refine go_keep [1, 5, 6, 7, 8, 9] [0, 1, 2, 41, 61, 62] ?_
              refine st_ ?_
              exact ih (l.length - (k + 1)) _ (by omega) ⟨k + 1, G4, r.1, vs ++ [r.2.1], _, _, _, _, _, _, _, _, _, _, _, by omega, rfl, hle03.trans hle34, hst, by simp [hvl], fun x hx => (by
                rcases List.mem_append.1 hx with hx | hx
                · exact hsmv x hx
                · simp at hx; subst hx; exact hdo.sm), Rp.L_append (Rp.L_mono (hle23.trans hle34) hL) (Rp.L_single ⟨_, rfl, hr3, hrb⟩), Rp.L_mono hle34 hL2, Rp.L_mono hle34 hM2, hinv2, by omega, by omega, rfl⟩
            · refine rn_ ?_; intros
              refine h_one 7 rfl (by kernel_rfl) ?_
              refine go_storeR 41 rfl (by rw [hty]; rfl) rfl rfl rfl rfl rfl rfl hlay ?_
              refine rn_ ?_; intros
              refine h_hs (allIn (by repeat (first | exact trivial | refine ⟨rfl, ?_⟩))) (by first | exact Le.refl _ | assumption) ?_
              refine h_end (by kernel_rfl) ?_
              refine rn_ ?_; intros
              rw [wr (n := (k : Int) + 1) (by omega) (by omega)]
              refine go_keep [1, 5, 6, 7, 8, 9] [0, 1, 2, 41, 61, 62] ?_
              refine st_ ?_
              exact ih (l.length - (k + 1)) _ (by omega) ⟨k + 1, G4, r.1, vs ++ [r.2.1], _, _, _, _, _, _, _, _, _, _, _, by omega, rfl, hle03.trans hle34, hst, by simp [hvl], fun x hx => (by
                rcases List.mem_append.1 hx with hx | hx
                · exact hsmv x hx
                · simp at hx; subst hx; exact hdo.sm), Rp.L_append (Rp.L_mono (hle23.trans hle34) hL) (Rp.L_single ⟨_, rfl, hr3, hrb⟩), Rp.L_mono hle34 hL2, Rp.L_mono hle34 hM2, hinv2, by omega, by omega, rfl⟩
          · refine rn_ ?_; intros
            refine h_one 6 rfl (by kernel_rfl) ?_
            refine go_q (v := .pointer (some ⟨g, k * 3, none⟩)) (by rw [hnt]; rfl) ((quiet_index (by rw [hty]; rfl) (by rw [hty]; rfl) rfl rfl rfl (by omega) (by omega)).cast (by simp [SV.den])) ?_
            refine rn_ ?_; intros
            refine h_hs (allIn (by repeat (first | exact trivial | refine ⟨rfl, ?_⟩))) (by first | exact Le.refl _ | assumption) ?_
            refine h_one 7 rfl (by kernel_rfl) ?_
            refine go_storeR 41 rfl (by rw [hty]; rfl) rfl rfl rfl rfl rfl rfl hlay ?_
            refine rn_ ?_; intros
            refine h_hs (allIn (by repeat (first | exact trivial | refine ⟨rfl, ?_⟩))) (by first | exact Le.refl _ | assumption) ?_
            refine h_end (by kernel_rfl) ?_
            refine rn_ ?_; intros
            rw [wr (n := (k : Int) + 1) (by omega) (by omega)]
            refine go_keep [1, 5, 6, 7, 8, 9] [0, 1, 2, 41, 61, 62] ?_
            refine st_ ?_
            exact ih (l.length - (k + 1)) _ (by omega) ⟨k + 1, G4, r.1, vs ++ [r.2.1], _, _, _, _, _, _, _, _, _, _, _, by omega, rfl, hle03.trans hle34, hst, by simp [hvl], fun x hx => (by
              rcases List.mem_append.1 hx with hx | hx
              · exact hsmv x hx
              · simp at hx; subst hx; exact hdo.sm), Rp.L_append (Rp.L_mono (hle23.trans hle34) hL) (Rp.L_single ⟨_, rfl, hr3, hrb⟩), Rp.L_mono hle34 hL2, Rp.L_mono hle34 hM2, hinv2, by omega, by omega, rfl⟩
      (refine go_qsplit rfl rfl (fun _ => ?_) (fun hc => absurd hc (by simp)); refine st_ ?_; (try (refine runq 400 hty hnt ?_; refine st_ ?_)))
      refine q_q (by rw [hnt]; rfl) (quiet_index (by rw [hty]; rfl) (by rw [hty]; rfl) rfl rfl rfl (by omega) (by omega)) ?_; refine runq 400 hty hnt ?_; refine st_ ?_
      refine q_q (v := .agg #[.int .i64 l[k].res.k, .int .i64 l[k].res.n, .slice asr l[k].res.l.length csr]) (by rw [hnt]; rfl) ((quiet_load (by rw [hty]; rfl) rfl (fun q => by cases q) (by simpa using opAt5 (hat.mono hle03)) rfl).cast (by simp only [ldV]; rfl)) ?_
      refine runq 400 hty hnt ?_; refine st_ ?_
      refine q_callf (by rw [hnt]; rfl) (by rw [hP]; kernel_rfl) rfl (hP ▸ same_ok r.2.1 l[k].res _ _ _ hrr (VT.rep_mono hle03 hor.r)) ?_; refine runq 400 hty hnt ?_; refine st_ ?_
      refine q_end ?_; refine rn_ ?_; intros
      rw [show (sml r.2.1 && sml l[k].res && veq r.2.1 l[k].res) = vsm r.2.1 l[k].res from rfl]
      cases hsm : vsm r.2.1 l[k].res
      · (refine x_split rfl rfl rfl (fun _ => ?_) (fun hc => absurd hc (by first | decide +kernel | (simp; first | done | fail))); refine st_ ?_; (refine ru_ ?_; intros))
        have hst : runP m ⟨[], []⟩ l = vs := by rw [hrun, List.drop_eq_getElem_cons hlt, runP_stop (by rw [hr0, hdn, hsm]; simp), List.append_nil]
        refine rn_ ?_; intros
        refine go_pubL rV 41 rfl (by omega) (ts := vs) hvl.symm (by omega) (Rp.L_mono hle23 hL) ?_
        intro G8 ad8 cap8 (hle8 : Le G3 G8) he8 hS8
        rw [← he8] at hS8
        refine st_ ?_
        refine go_pub 1 rfl (by omega) ?_
        intro G9 (hle9 : Le G8 G9) hG9
        have hat9 := at_block hG9
        simp only [dens, SV.den] at hat9
        refine st_ ?_
        refine x_ret rfl hQ hmb (by rw [hty]; rfl) rfl ?_; simp only [SV.den, resV]
        refine ⟨57, [.pointer (some ⟨b1, 0, none⟩)], by simp [dens, SV.den], by kernel_rfl, ?_⟩
        rw [hst]
        exact runs1_ok vs b1 _ G9 (Rp.S_mono hle9 hS8) hsmv hat9
      (refine x_split rfl rfl rfl (fun hc => absurd hc (by first | decide +kernel | (simp; first | done | fail))) (fun _ => ?_); refine st_ ?_; (refine ru_ ?_; intros))
      have hst : runP m ⟨[], []⟩ l = (vs ++ [r.2.1]) ++ runP m r.1 (l.drop (k + 1)) := by
        rw [hrun, List.drop_eq_getElem_cons hlt, runP_step (by rw [hr0, hrgm, hcan]; exact ⟨rfl, rfl, fun _ => by first | exact hsm | (rename_i hh; rw [hdn] at hh; cases hh)⟩), hr0]
        simp
      refine go_keep [1, 5, 6, 7, 8, 9, 10] [0, 1, 2, 41, 61, 62, 63] ?_
      refine st_ ?_
      refine rn_ ?_; intros
      refine x_heldP [(1, b1, .c 26 [.v (.slice ado k capo)]), (63, b3, .c 28 [.v (.int .i64 r.2.1.k), .v (.int .i64 r.2.1.n), .v (.slice asr2 r.2.1.l.length csr2)])] 8 rfl (by rw [hP]; kernel_rfl) rfl rfl rfl ?_
      refine st_ ?_
      refine hu_take 0 rfl (by kernel_rfl) (by kernel_rfl) (by kernel_rfl) (by kernel_rfl) rfl (fun c a w v => hQp c a w _ v) (by rw [hnt]; rfl) (allIn (by repeat (first | exact trivial | refine ⟨rfl, ?_⟩))) (by first | exact Le.refl _ | assumption) (quiet_op (by rw [hty]; first | rfl | (refine st_ ?_; rfl))) ?_; refine st_ ?_
      refine hu_take 1 rfl (by kernel_rfl) (by kernel_rfl) (by kernel_rfl) (by kernel_rfl) rfl (fun c a w v => hQp c a w _ v) (by rw [hnt]; rfl) (allIn (by repeat (first | exact trivial | refine ⟨rfl, ?_⟩))) (by first | exact Le.refl _ | assumption) (quiet_op (by rw [hty]; first | rfl | (refine st_ ?_; rfl))) ?_; refine st_ ?_
      refine hu_take 3 rfl (by kernel_rfl) (by kernel_rfl) (by kernel_rfl) (by kernel_rfl) rfl (fun c a w v => hQp c a w _ v) (by rw [hnt]; rfl) (allIn (by repeat (first | exact trivial | refine ⟨rfl, ?_⟩))) (by first | exact Le.refl _ | assumption) (quiet_op (by rw [hty]; first | rfl | (refine st_ ?_; rfl))) ?_; refine st_ ?_
      refine hu_two 2 4 rfl rfl (by kernel_rfl) ?_ ?_
      · refine go_call (by rw [hnt]; rfl) (by rw [hP]; kernel_rfl) rfl (hP ▸ copy_ok r.2.1 _ _ hrr (by omega)) ?_
        rintro v G4 (hle34 : Le G3 G4) hv0
        obtain ⟨_, hv0⟩ | ⟨hsm3, _⟩ := hv0
        rotate_left
        · rw [hdo.sm] at hsm3; cases hsm3
        obtain ⟨sl3, rfl, hr3⟩ := copied_cells hv0
        clear hv0
        obtain ⟨asl3, csl3, rfl⟩ := VT.rep_slice hr3
        refine rn_ ?_; intros
        refine h_hs (allIn (by repeat (first | exact trivial | refine ⟨rfl, ?_⟩))) (by first | exact Le.refl _ | assumption) ?_
        refine hu_one 4 rfl (by kernel_rfl) ?_
        refine rn_ ?_; intros
        refine h_hs (allIn (by repeat (first | exact trivial | refine ⟨rfl, ?_⟩))) (by first | exact Le.refl _ | assumption) ?_
        refine hu_one 5 rfl (by kernel_rfl) ?_
        refine go_append 41 (by rw [hnt]; rfl) (by rw [hty]; rfl) (by rw [hty]; rfl) (by decide) rfl rfl rfl (by omega) rfl (src_own 3 rfl rfl) rfl (by simp [dens, SV.den, Value.oneCell']) (by omega) (by simp only []; omega) ?_
        intro v'
        refine go_rowS 41 rfl ?_
        rintro ad4 cap4 rfl
        refine go_rowcases 41 rfl (fun _ h0 _ => by omega) ?_
        intro g capg hv' hcv hxl2
        cases hv'
        refine rn_ ?_; intros
        refine h_hs (allIn (by repeat (first | exact trivial | refine ⟨rfl, ?_⟩))) (by first | exact Le.refl _ | assumption) ?_
        have hxk : xs.length = k * 3 := by have := Rp.L_len hL; rw [hvl] at this; exact this
        have hlay : lay (xs ++ [.int .i64 0, .int .i64 0, .slice none 0 0]) (k * 3) [.int .i64 r.2.1.k, .int .i64 r.2.1.n, .slice asl3 r.2.1.l.length csl3] = some (xs ++ [.int .i64 r.2.1.k, .int .i64 r.2.1.n, .slice asl3 r.2.1.l.length csl3]) := by
          have := lay_at xs [.int .i64 0, .int .i64 0, .slice none 0 0] [.int .i64 r.2.1.k, .int .i64 r.2.1.n, .slice asl3 r.2.1.l.length csl3] [] rfl
          rw [hxk] at this
          simpa using this
        refine hu_twoL 6 8 [] rfl rfl (by kernel_rfl) rfl ?_ ?_
        · refine go_q (v := .pointer (some ⟨g, k * 3, none⟩)) (by rw [hnt]; rfl) ((quiet_index (by rw [hty]; rfl) (by rw [hty]; rfl) rfl rfl rfl (by omega) (by omega)).cast (by simp [SV.den])) ?_
          refine rn_ ?_; intros
          refine h_hs (allIn (by repeat (first | exact trivial | refine ⟨rfl, ?_⟩))) (by first | exact Le.refl _ | assumption) ?_
          refine hu_twoL 7 8 [] rfl rfl (by kernel_rfl) rfl ?_ ?_
          · refine go_storeR 41 rfl (by rw [hty]; rfl) rfl rfl rfl rfl rfl rfl hlay ?_
            refine rn_ ?_; intros
            refine h_hs (allIn (by repeat (first | exact trivial | refine ⟨rfl, ?_⟩))) (by first | exact Le.refl _ | assumption) ?_
            refine hu_last 8 [] rfl (by kernel_rfl) rfl ?_
            refine rn_ ?_; intros
            refine h_end (by kernel_rfl) ?_
            refine rn_ ?_; intros
            rw [wr (n := (k : Int) + 1) (by omega) (by omega)]
            refine go_keep [1, 5, 6, 7, 8, 9] [0, 1, 2, 41, 61, 62] ?_
            refine st_ ?_
            exact ih (l.length - (k + 1)) _ (by omega) ⟨k + 1, G4, r.1, vs ++ [r.2.1], _, _, _, _, _, _, _, _, _, _, _, by omega, rfl, hle03.trans hle34, hst, by simp [hvl], fun x hx => (by
              rcases List.mem_append.1 hx with hx | hx
              · exact hsmv x hx
              · simp at hx; subst hx; exact hdo.sm), Rp.L_append (Rp.L_mono (hle23.trans hle34) hL) (Rp.L_single ⟨_, rfl, hr3, hrb⟩), Rp.L_mono hle34 hL2, Rp.L_mono hle34 hM2, hinv2, by omega, by omega, rfl⟩
          · refine rn_ ?_; intros
            refine h_one 7 rfl (by kernel_rfl) ?_
            refine go_storeR 41 rfl (by rw [hty]; rfl) rfl rfl rfl rfl rfl rfl hlay ?_
            refine rn_ ?_; intros
            refine h_hs (allIn (by repeat (first | exact trivial | refine ⟨rfl, ?_⟩))) (by first | exact Le.refl _ | assumption) ?_
            refine h_end (by kernel_rfl) ?_
            refine rn_ ?_; intros
            rw [wr (n := (k : Int) + 1) (by omega) (by omega)]
            refine go_keep [1, 5, 6, 7, 8, 9] [0, 1, 2, 41, 61, 62] ?_
            refine st_ ?_
            exact ih (l.length - (k + 1)) _ (by omega) ⟨k + 1, G4, r.1, vs ++ [r.2.1], _, _, _, _, _, _, _, _, _, _, _, by omega, rfl, hle03.trans hle34, hst, by simp [hvl], fun x hx => (by
              rcases List.mem_append.1 hx with hx | hx
              · exact hsmv x hx
              · simp at hx; subst hx; exact hdo.sm), Rp.L_append (Rp.L_mono (hle23.trans hle34) hL) (Rp.L_single ⟨_, rfl, hr3, hrb⟩), Rp.L_mono hle34 hL2, Rp.L_mono hle34 hM2, hinv2, by omega, by omega, rfl⟩
        · refine rn_ ?_; intros
          refine h_one 6 rfl (by kernel_rfl) ?_
          refine go_q (v := .pointer (some ⟨g, k * 3, none⟩)) (by rw [hnt]; rfl) ((quiet_index (by rw [hty]; rfl) (by rw [hty]; rfl) rfl rfl rfl (by omega) (by omega)).cast (by simp [SV.den])) ?_
          refine rn_ ?_; intros
          refine h_hs (allIn (by repeat (first | exact trivial | refine ⟨rfl, ?_⟩))) (by first | exact Le.refl _ | assumption) ?_
          refine h_one 7 rfl (by kernel_rfl) ?_
          refine go_storeR 41 rfl (by rw [hty]; rfl) rfl rfl rfl rfl rfl rfl hlay ?_
          refine rn_ ?_; intros
          refine h_hs (allIn (by repeat (first | exact trivial | refine ⟨rfl, ?_⟩))) (by first | exact Le.refl _ | assumption) ?_
          refine h_end (by kernel_rfl) ?_
          refine rn_ ?_; intros
          rw [wr (n := (k : Int) + 1) (by omega) (by omega)]
          refine go_keep [1, 5, 6, 7, 8, 9] [0, 1, 2, 41, 61, 62] ?_
          refine st_ ?_
          exact ih (l.length - (k + 1)) _ (by omega) ⟨k + 1, G4, r.1, vs ++ [r.2.1], _, _, _, _, _, _, _, _, _, _, _, by omega, rfl, hle03.trans hle34, hst, by simp [hvl], fun x hx => (by
            rcases List.mem_append.1 hx with hx | hx
            · exact hsmv x hx
            · simp at hx; subst hx; exact hdo.sm), Rp.L_append (Rp.L_mono (hle23.trans hle34) hL) (Rp.L_single ⟨_, rfl, hr3, hrb⟩), Rp.L_mono hle34 hL2, Rp.L_mono hle34 hM2, hinv2, by omega, by omega, rfl⟩
      · refine rn_ ?_; intros
        refine h_hs (allIn (by repeat (first | exact trivial | refine ⟨rfl, ?_⟩))) (by first | exact Le.refl _ | assumption) ?_
        refine hu_one 2 rfl (by kernel_rfl) ?_
        refine go_call (by rw [hnt]; rfl) (by rw [hP]; kernel_rfl) rfl (hP ▸ copy_ok r.2.1 _ _ hrr (by omega)) ?_
        rintro v G4 (hle34 : Le G3 G4) hv0
        obtain ⟨_, hv0⟩ | ⟨hsm3, _⟩ := hv0
        rotate_left
        · rw [hdo.sm] at hsm3; cases hsm3
        obtain ⟨sl3, rfl, hr3⟩ := copied_cells hv0
        clear hv0
        obtain ⟨asl3, csl3, rfl⟩ := VT.rep_slice hr3
        refine rn_ ?_; intros
        refine h_hs (allIn (by repeat (first | exact trivial | refine ⟨rfl, ?_⟩))) (by first | exact Le.refl _ | assumption) ?_
        refine hu_one 5 rfl (by kernel_rfl) ?_
        refine go_append 41 (by rw [hnt]; rfl) (by rw [hty]; rfl) (by rw [hty]; rfl) (by decide) rfl rfl rfl (by omega) rfl (src_own 3 rfl rfl) rfl (by simp [dens, SV.den, Value.oneCell']) (by omega) (by simp only []; omega) ?_
        intro v'
        refine go_rowS 41 rfl ?_
        rintro ad4 cap4 rfl
        refine go_rowcases 41 rfl (fun _ h0 _ => by omega) ?_
        intro g capg hv' hcv hxl2
        cases hv'
        refine rn_ ?_; intros
        refine h_hs (allIn (by repeat (first | exact trivial | refine ⟨rfl, ?_⟩))) (by first | exact Le.refl _ | assumption) ?_
        have hxk : xs.length = k * 3 := by have := Rp.L_len hL; rw [hvl] at this; exact this
        have hlay : lay (xs ++ [.int .i64 0, .int .i64 0, .slice none 0 0]) (k * 3) [.int .i64 r.2.1.k, .int .i64 r.2.1.n, .slice asl3 r.2.1.l.length csl3] = some (xs ++ [.int .i64 r.2.1.k, .int .i64 r.2.1.n, .slice asl3 r.2.1.l.length csl3]) := by
          have := lay_at xs [.int .i64 0, .int .i64 0, .slice none 0 0] [.int .i64 r.2.1.k, .int .i64 r.2.1.n, .slice asl3 r.2.1.l.length csl3] [] rfl
          rw [hxk] at this
          simpa using this
        refine hu_twoL 6 8 [] rfl rfl (by kernel_rfl) rfl ?_ ?_
        · refine go_q (v := .pointer (some ⟨g, k * 3, none⟩)) (by rw [hnt]; rfl) ((quiet_index (by rw [hty]; rfl) (by rw [hty]; rfl) rfl rfl rfl (by omega) (by omega)).cast (by simp [SV.den])) ?_
          refine rn_ ?_; intros
          refine h_hs (allIn (by repeat (first | exact trivial | refine ⟨rfl, ?_⟩))) (by first | exact Le.refl _ | assumption) ?_
          refine hu_twoL 7 8 [] rfl rfl (by kernel_rfl) rfl ?_ ?_
          · refine go_storeR 41 rfl (by rw [hty]; rfl) rfl rfl rfl rfl rfl rfl hlay ?_
            refine rn_ ?_; intros
            refine h_hs (allIn (by repeat (first | exact trivial | refine ⟨rfl, ?_⟩))) (by first | exact Le.refl _ | assumption) ?_
            refine hu_last 8 [] rfl (by kernel_rfl) rfl ?_
            refine rn_ ?_; intros
            refine h_end (by kernel_rfl) ?_
            refine rn_ ?_; intros
            rw [wr (n := (k : Int) + 1) (by omega) (by omega)]
            refine go_keep [1, 5, 6, 7, 8, 9] [0, 1, 2, 41, 61, 62] ?_
            refine st_ ?_
            exact ih (l.length - (k + 1)) _ (by omega) ⟨k + 1, G4, r.1, vs ++ [r.2.1], _, _, _, _, _, _, _, _, _, _, _, by omega, rfl, hle03.trans hle34, hst, by simp [hvl], fun x hx => (by
              rcases List.mem_append.1 hx with hx | hx
              · exact hsmv x hx
              · simp at hx; subst hx; exact hdo.sm), Rp.L_append (Rp.L_mono (hle23.trans hle34) hL) (Rp.L_single ⟨_, rfl, hr3, hrb⟩), Rp.L_mono hle34 hL2, Rp.L_mono hle34 hM2, hinv2, by omega, by omega, rfl⟩
          · refine rn_ ?_; intros
            refine h_one 7 rfl (by kernel_rfl) ?_
            refine go_storeR 41 rfl (by rw [hty]; rfl) rfl rfl rfl rfl rfl rfl hlay ?_
            refine rn_ ?_; intros
            refine h_hs (allIn (by repeat (first | exact trivial | refine ⟨rfl, ?_⟩))) (by first | exact Le.refl _ | assumption) ?_
            refine h_end (by kernel_rfl) ?_
            refine rn_ ?_; intros
            rw [wr (n := (k : Int) + 1) (by omega) (by omega)]
            refine go_keep [1, 5, 6, 7, 8, 9] [0, 1, 2, 41, 61, 62] ?_
            refine st_ ?_
            exact ih (l.length - (k + 1)) _ (by omega) ⟨k + 1, G4, r.1, vs ++ [r.2.1], _, _, _, _, _, _, _, _, _, _, _, by omega, rfl, hle03.trans hle34, hst, by simp [hvl], fun x hx => (by
              rcases List.mem_append.1 hx with hx | hx
              · exact hsmv x hx
              · simp at hx; subst hx; exact hdo.sm), Rp.L_append (Rp.L_mono (hle23.trans hle34) hL) (Rp.L_single ⟨_, rfl, hr3, hrb⟩), Rp.L_mono hle34 hL2, Rp.L_mono hle34 hM2, hinv2, by omega, by omega, rfl⟩
        · refine rn_ ?_; intros
          refine h_one 6 rfl (by kernel_rfl) ?_
          refine go_q (v := .pointer (some ⟨g, k * 3, none⟩)) (by rw [hnt]; rfl) ((quiet_index (by rw [hty]; rfl) (by rw [hty]; rfl) rfl rfl rfl (by omega) (by omega)).cast (by simp [SV.den])) ?_
          refine rn_ ?_; intros
          refine h_hs (allIn (by repeat (first | exact trivial | refine ⟨rfl, ?_⟩))) (by first | exact Le.refl _ | assumption) ?_
          refine h_one 7 rfl (by kernel_rfl) ?_
          refine go_storeR 41 rfl (by rw [hty]; rfl) rfl rfl rfl rfl rfl rfl hlay ?_
          refine rn_ ?_; intros
          refine h_hs (allIn (by repeat (first | exact trivial | refine ⟨rfl, ?_⟩))) (by first | exact Le.refl _ | assumption) ?_
          refine h_end (by kernel_rfl) ?_
          refine rn_ ?_; intros
          rw [wr (n := (k : Int) + 1) (by omega) (by omega)]
          refine go_keep [1, 5, 6, 7, 8, 9] [0, 1, 2, 41, 61, 62] ?_
          refine st_ ?_
          exact ih (l.length - (k + 1)) _ (by omega) ⟨k + 1, G4, r.1, vs ++ [r.2.1], _, _, _, _, _, _, _, _, _, _, _, by omega, rfl, hle03.trans hle34, hst, by simp [hvl], fun x hx => (by
            rcases List.mem_append.1 hx with hx | hx
            · exact hsmv x hx
            · simp at hx; subst hx; exact hdo.sm), Rp.L_append (Rp.L_mono (hle23.trans hle34) hL) (Rp.L_single ⟨_, rfl, hr3, hrb⟩), Rp.L_mono hle34 hL2, Rp.L_mono hle34 hM2, hinv2, by omega, by omega, rfl⟩
    · have hge : k = l.length := by simp at hjl; omega
      have hst : runP m ⟨[], []⟩ l = vs := by rw [hrun, hge, List.drop_length, runP, List.append_nil]
      clear ih hjl hq hk
      refine rn_ ?_; intros
      refine go_pubL rV 41 rfl (by omega) (ts := vs) hvl.symm (by omega) (Rp.L_mono (Le.refl _) hL) ?_
      intro G8 ad8 cap8 (hle8 : Le G2 G8) he8 hS8
      rw [← he8] at hS8
      refine st_ ?_
      refine go_pub 1 rfl (by omega) ?_
      intro G9 (hle9 : Le G8 G9) hG9
      have hat9 := at_block hG9
      simp only [dens, SV.den] at hat9
      refine st_ ?_
      refine x_ret rfl hQ hmb (by rw [hty]; rfl) rfl ?_; simp only [SV.den, resV]
      refine ⟨57, [.pointer (some ⟨b1, 0, none⟩)], by simp [dens, SV.den], by kernel_rfl, ?_⟩
      rw [hst]
      exact runs1_ok vs b1 _ G9 (Rp.S_mono hle9 hS8) hsmv hat9
end Go.Proofs.Ytpmmbjcgabnloaa
namespace Go.Proofs.Ytpmmbjcgabnloaa
set_option linter.unusedSimpArgs false
set_option linter.unusedVariables false
open Go.Sx
def Way (m : Int) (l : List Op) : MS → List Nat → List Nat → Prop
  | _, S, [] => endsP l S = true
  | s, S, i :: p => ∃ t, nextP m l s S i = some t ∧ Way m l t (S ++ [i]) p
theorem srch_way {m : Int} {l : List Op} : ∀ {f : Nat} {s : MS} {S p : List Nat}, srch m l f s S = some p → Way m l s S p
  | 0, s, S, p, h => by
    rw [srch] at h
    split at h
    · cases h; assumption
    · cases h
  | f + 1, s, S, p, h => by
    rw [srch] at h
    split at h
    · cases h; assumption
    · obtain ⟨i, _, he⟩ := List.exists_of_findSome?_eq_some h
      split at he
      · cases he
      · rename_i t hn
        obtain ⟨q, hq, rfl⟩ := Option.map_eq_some_iff.1 he
        exact ⟨t, hn, srch_way hq⟩
theorem way_srch {m : Int} {l : List Op} : ∀ {p : List Nat} {f : Nat} {s : MS} {S : List Nat}, Way m l s S p → p.length ≤ f → (srch m l f s S).isSome = true
  | [], f, s, S, h, _ => by
    have h : endsP l S = true := h
    cases f <;> rw [srch, if_pos h] <;> rfl
  | i :: p, 0, s, S, _, hf => by simp at hf
  | i :: p, f + 1, s, S, ⟨t, hn, hw⟩, hf => by
    rw [srch]
    split
    · rfl
    · rw [List.findSome?_isSome_iff]
      obtain ⟨hi, _⟩ := next_some hn
      refine ⟨i, by simpa using hi, ?_⟩
      have := way_srch (f := f) hw (by simp at hf; omega)
      simp only [hn, Option.isSome_map]
      exact this
theorem way_in {m : Int} {l : List Op} : ∀ {p : List Nat} {s : MS} {S : List Nat}, Way m l s S p → (∀ i ∈ p, i < l.length ∧ i ∉ S) ∧ p.Nodup ∧ (∀ i, dnA l i = true → i < l.length → i ∈ S ∨ i ∈ p) ∧ (∀ a (h : a < p.length) i, i < l.length → ahA l p[a] i = true → i ∈ S ∨ i ∈ p.take a)
  | [], s, S, h => by
    have h : endsP l S = true := h
    refine ⟨fun i hi => (by cases hi), by simp, fun i hd hi => ?_, fun a ha => by simp at ha⟩
    rw [endsP, List.all_eq_true] at h
    have := h i (by simpa using hi)
    rw [hd] at this
    exact .inl (by simpa using this)
  | i :: p, s, S, ⟨t, hn, hw⟩ => by
    obtain ⟨h1, h2, h3, h4⟩ := way_in hw
    obtain ⟨hi, hc, _⟩ := next_some hn
    have hiS : i ∉ S := by simpa using hc
    refine ⟨fun j hj => ?_, ?_, fun j hd hj => ?_, fun a ha j hj hah => ?_⟩
    · rcases List.mem_cons.1 hj with rfl | hj
      · exact ⟨hi, hiS⟩
      · exact ⟨(h1 j hj).1, fun q => (h1 j hj).2 (by simp [q])⟩
    · rw [List.nodup_cons]
      exact ⟨fun q => (h1 i q).2 (by simp), h2⟩
    · rcases h3 j hd hj with q | q
      · rcases List.mem_append.1 q with q | q
        · exact .inl q
        · simp at q; subst q; exact .inr (by simp)
      · exact .inr (by simp [q])
    · cases a with
      | zero =>
        simp only [List.getElem_cons_zero] at hah
        have hm : mayP l S i = true := by
          rw [nextP] at hn
          split at hn
          · assumption
          · cases hn
        simp only [mayP, Bool.and_eq_true, List.all_eq_true] at hm
        have := hm.2 j (by simpa using hj)
        rw [hah] at this
        exact .inl (by simpa using this)
      | succ a =>
        simp only [List.getElem_cons_succ] at hah
        rcases h4 a (by simpa using ha) j hj hah with q | q
        · rcases List.mem_append.1 q with q | q
          · exact .inl q
          · simp at q; subst q; exact .inr (by simp)
        · exact .inr (by simp [q])
def picks (l : List Op) (p : List Nat) : List Op := p.filterMap fun i => l[i]?
theorem tell_run {m : Int} {s t : MS} {o : Op} {r : List Op} (hr : rgtO (kns m) o = true) (h : tellP m s o = some t) : runP m s (o :: r) = (doP m s o).2.1 :: runP m t r := by
  rw [tellP] at h
  split at h
  · rename_i hc
    cases h
    simp only [Bool.and_eq_true, Bool.or_eq_true, Bool.not_eq_true'] at hc
    exact runP_step ⟨hr, hc.1, fun hd => by rcases hc.2 with q | q; · rw [hd] at q; cases q
                                            · exact q⟩
  · cases h
theorem next_tell {m : Int} {l : List Op} {s t : MS} {S : List Nat} {i : Nat} (h : nextP m l s S i = some t) : ∃ hi : i < l.length, mayP l S i = true ∧ tellP m s l[i] = some t := by
  obtain ⟨hi, _⟩ := next_some h
  rw [nextP] at h
  split at h
  · rename_i hm
    rw [List.getElem?_eq_getElem hi] at h
    exact ⟨hi, hm, h⟩
  · cases h
theorem way_run {m : Int} {l : List Op} (hr : ∀ o ∈ l, rgtO (kns m) o = true) : ∀ {p : List Nat} {s : MS} {S : List Nat}, Way m l s S p → (runP m s (picks l p)).length = p.length ∧ (picks l p).length = p.length
  | [], s, S, h => by simp [picks, runP]
  | i :: p, s, S, ⟨t, hn, hw⟩ => by
    obtain ⟨hi, _, ht⟩ := next_tell hn
    have h := way_run hr hw
    have e : picks l (i :: p) = l[i] :: picks l p := by rw [picks, List.filterMap_cons, List.getElem?_eq_getElem hi]; rfl
    rw [e, tell_run (hr _ (List.getElem_mem hi)) ht]
    simp [h.1, h.2]
theorem row_lt {l : List Op} {K : Int} (hr : ∀ o ∈ l, rgtO K o = true) (hd : ∀ i (h : i < l.length), l[i].dn = true) (ha : ∀ i (h : i + 1 < l.length), ahd l[i] l[i + 1] = true) :
    ∀ (k i : Nat) (hk : k < l.length) (hik : i < k), (l[i]'(by omega)).to < l[k].fr
  | 0, i, _, h => by omega
  | k + 1, i, hk, h => by
    have h1 := ha k hk
    simp only [ahd, Bool.and_eq_true, decide_eq_true_eq] at h1
    rcases Nat.lt_or_ge i k with q | q
    · have h2 := row_lt hr hd ha k i (by omega) q
      have h3 := hr l[k] (List.getElem_mem _)
      simp only [rgtO, hd k (by omega), if_true, Bool.and_eq_true, decide_eq_true_eq] at h3
      omega
    · have : i = k := by omega
      subst this
      exact h1.2
theorem row_way {m : Int} {l : List Op} (hr : ∀ o ∈ l, rgtO (kns m) o = true) (hd : ∀ i (h : i < l.length), l[i].dn = true) (ha : ∀ i (h : i + 1 < l.length), ahd l[i] l[i + 1] = true) :
    ∀ (d j : Nat) (s : MS), j + d = l.length → ((∃ p, p.length ≤ d ∧ Way m l s (List.range j) p) ↔ (runP m s (l.drop j)).length = d)
  | 0, j, s, hj => by
    have : j = l.length := by omega
    subst this
    rw [List.drop_length, runP]
    refine ⟨fun _ => rfl, fun _ => ⟨[], by simp, ?_⟩⟩
    show endsP l (List.range l.length) = true
    rw [endsP, List.all_eq_true]
    intro i hi
    have : (List.range l.length).contains i = true := by simpa using hi
    rw [this, Bool.or_true]
  | d + 1, j, s, hj => by
    have hlt : j < l.length := by omega
    have hlt2 := row_lt hr hd ha
    have hrg : ∀ i (h : i < l.length), l[i].fr ≤ l[i].to := fun i h => by
      have h3 := hr l[i] (List.getElem_mem _)
      simp only [rgtO, hd i h, if_true, Bool.and_eq_true, decide_eq_true_eq] at h3
      exact h3.2.2
    rw [List.drop_eq_getElem_cons hlt]
    have hrj := hr l[j] (List.getElem_mem _)
    have hmay : mayP l (List.range j) j = true := by
      simp only [mayP, Bool.and_eq_true, List.all_eq_true]
      refine ⟨by simp, fun k hk => ?_⟩
      have hk : k < l.length := by simpa using hk
      rw [ahA, List.getElem?_eq_getElem hk, List.getElem?_eq_getElem hlt]
      simp only [ahd, hd k hk, Bool.true_and]
      rcases Nat.lt_trichotomy k j with q | q | q
      · simp [q]
      · subst q
        have := hrg k hk
        simp; omega
      · have h1 := hlt2 k j hk q
        have h2 := hrg j hlt
        have h3 := hrg k hk
        simp; omega
    have hnj : nextP m l s (List.range j) j = tellP m s l[j] := by rw [nextP, if_pos hmay, List.getElem?_eq_getElem hlt]
    constructor
    · rintro ⟨p, hp, hw⟩
      cases p with
      | nil =>
        have hw : endsP l (List.range j) = true := hw
        rw [endsP, List.all_eq_true] at hw
        have := hw j (by simpa using hlt)
        rw [dnA, List.getElem?_eq_getElem hlt] at this
        simp [hd j hlt] at this
      | cons i p =>
        obtain ⟨t, hn, hw⟩ := hw
        obtain ⟨hi, hm, ht⟩ := next_tell hn
        have hij : i = j := by
          have hc := may_not hm
          simp at hc
          rcases Nat.lt_or_ge j i with q | q
          · simp only [mayP, Bool.and_eq_true, List.all_eq_true] at hm
            have := hm.2 j (by simpa using hlt)
            rw [ahA, List.getElem?_eq_getElem hi, List.getElem?_eq_getElem hlt] at this
            have h1 := hlt2 i j hi q
            simp [ahd, hd j hlt, h1] at this
          · omega
        subst hij
        rw [← List.range_succ] at hw
        rw [tell_run hrj ht, List.length_cons, (row_way hr hd ha d (i + 1) t (by omega)).1 ⟨p, by simp at hp; omega, hw⟩]
    · intro h
      cases ht : tellP m s l[j] with
      | none =>
        rw [runP_stop (fun hc => by
          rw [tellP, hc.2.1, hd j hlt] at ht
          simp [hc.2.2 (hd j hlt)] at ht)] at h
        simp at h
      | some t =>
        rw [tell_run hrj ht, List.length_cons] at h
        obtain ⟨p, hp, hw⟩ := (row_way hr hd ha d (j + 1) t (by omega)).2 (by omega)
        refine ⟨j :: p, by simp; omega, t, hnj.trans ht, ?_⟩
        rw [← List.range_succ]
        exact hw
structure Op.wider (o w : Op) : Prop where
  th : w.th = o.th
  kd : w.kd = o.kd
  ar : w.arg = o.arg
  re : w.res = o.res
  dn : w.dn = o.dn
  f0 : 0 ≤ o.fr → 0 ≤ w.fr
  fr : w.fr ≤ o.fr
  to : o.to ≤ w.to
  nd : o.dn = false → w.to = o.to
theorem do_wider {m : Int} {s : MS} {o w : Op} (h : o.wider w) : doP m s w = doP m s o := by
  obtain ⟨th, kd, arg, res, fr, to, dn⟩ := o
  obtain ⟨th', kd', arg', res', fr', to', dn'⟩ := w
  obtain ⟨h1, h2, h3, h4, h5, _, _, _, _⟩ := h
  simp only at h1 h2 h3 h4 h5
  subst h1 h2 h3 h4 h5
  rfl
theorem tell_wider {m : Int} {s : MS} {o w : Op} (h : o.wider w) : tellP m s w = tellP m s o := by rw [tellP, tellP, do_wider h, h.dn, h.re]
theorem rgt_wider {K : Int} {o w : Op} (h : o.wider w) (hr : rgtO K o = true) : rgtO K w = true := by
  simp only [rgtO, Bool.and_eq_true, decide_eq_true_eq] at hr ⊢
  obtain ⟨⟨⟨⟨⟨h1, h2⟩, h3⟩, h4⟩, h5⟩, h6⟩ := hr
  rw [h.th, h.kd, h.ar, h.dn, h.re]
  refine ⟨⟨⟨⟨⟨h1, h2⟩, h3⟩, h.f0 h4⟩, h5⟩, ?_⟩
  cases hd : o.dn with
  | true =>
    rw [hd] at h6
    simp only [if_true, Bool.and_eq_true, decide_eq_true_eq] at h6 ⊢
    have := h.fr; have := h.to
    exact ⟨h6.1, by omega⟩
  | false =>
    rw [hd] at h6
    rw [h.nd hd]
    exact h6
theorem wider_refl (o : Op) : o.wider o := ⟨rfl, rfl, rfl, rfl, rfl, id, Int.le_refl _, Int.le_refl _, fun _ => rfl⟩
theorem may_wider {l l' : List Op} (hl : l'.length = l.length) (h : ∀ i (h : i < l.length), l[i].wider (l'[i]'(by omega))) {S : List Nat} {i : Nat} (hi : i < l.length) (hm : mayP l S i = true) : mayP l' S i = true := by
  simp only [mayP, Bool.and_eq_true, List.all_eq_true] at hm ⊢
  refine ⟨hm.1, fun k hk => ?_⟩
  have hk : k < l.length := by rw [hl] at hk; simpa using hk
  have h1 := hm.2 k (by simpa using hk)
  rw [ahA, List.getElem?_eq_getElem hi, List.getElem?_eq_getElem hk] at h1
  rw [ahA, List.getElem?_eq_getElem (by omega : i < l'.length), List.getElem?_eq_getElem (by omega : k < l'.length)]
  simp only [Bool.or_eq_true, Bool.not_eq_true', ahd] at h1 ⊢
  rcases h1 with h1 | h1
  · left
    have hk1 := h k hk
    have hi1 := h i hi
    rw [hk1.dn]
    rw [Bool.and_eq_false_iff] at h1 ⊢
    rcases h1 with h1 | h1
    · exact .inl h1
    · right
      have := hk1.to; have := hi1.fr
      simp at h1 ⊢; omega
  · exact .inr h1
theorem way_wider {m : Int} {l l' : List Op} (hl : l'.length = l.length) (h : ∀ i (h : i < l.length), l[i].wider (l'[i]'(by omega))) : ∀ {p : List Nat} {s : MS} {S : List Nat}, Way m l s S p → Way m l' s S p
  | [], s, S, hw => by
    have hw : endsP l S = true := hw
    show endsP l' S = true
    rw [endsP, List.all_eq_true] at hw ⊢
    intro i hi
    have hi : i < l.length := by rw [hl] at hi; simpa using hi
    have := hw i (by simpa using hi)
    rw [dnA, List.getElem?_eq_getElem hi] at this
    rw [dnA, List.getElem?_eq_getElem (by omega : i < l'.length)]
    simp only [(h i hi).dn]
    exact this
  | i :: p, s, S, ⟨t, hn, hw⟩ => by
    obtain ⟨hi, hm, ht⟩ := next_tell hn
    refine ⟨t, ?_, way_wider hl h hw⟩
    rw [nextP, if_pos (may_wider hl h hi hm), List.getElem?_eq_getElem (by omega : i < l'.length)]
    show tellP m s l'[i] = some t
    rw [tell_wider (h i hi), ht]
theorem ln_cases (m : Int) (l : List Op) (h8 : l.length ≤ 8) : lnR m l = ([], false, 2) ∨ ((∀ o ∈ l, rgtO (kns m) o = true) ∧ kns m ≠ 0 ∧ ((srch m l l.length ⟨[], []⟩ [] = none ∧ lnR m l = ([], false, 0)) ∨ ∃ p, srch m l l.length ⟨[], []⟩ [] = some p ∧ lnR m l = (p, true, 0))) := by
  rw [lnR]
  split
  · exact .inl rfl
  · rename_i h
    rw [if_neg (by omega)]
    refine .inr ⟨?_, fun q => h (.inl q), ?_⟩
    · have : (l.all fun o => rgtO (kns m) o) = true := by
        cases hq : (l.all fun o => rgtO (kns m) o) with
        | true => rfl
        | false => exact absurd (.inr hq) h
      rwa [List.all_eq_true] at this
    · cases hs : srch m l l.length ⟨[], []⟩ [] with
      | none => exact .inl ⟨rfl, rfl⟩
      | some p => exact .inr ⟨p, rfl, rfl⟩
theorem ln_row {m : Int} {l : List Op} (h8 : l.length ≤ 8) (he : (lnR m l).2.2 = 0) (hd : ∀ i (h : i < l.length), l[i].dn = true) (ha : ∀ i (h : i + 1 < l.length), ahd l[i] l[i + 1] = true) : (lnR m l).2.1 = decide ((runP m ⟨[], []⟩ l).length = l.length) := by
  rcases ln_cases m l h8 with h | ⟨hr, _, h⟩
  · rw [h] at he; cases he
  have hw := row_way hr hd ha l.length 0 ⟨[], []⟩ (by omega)
  rw [List.drop_zero] at hw
  rcases h with ⟨h1, h2⟩ | ⟨p, h1, h2⟩
  · rw [h2]
    symm
    show decide _ = false
    rw [decide_eq_false_iff_not, ← hw]
    rintro ⟨p, hp, hq⟩
    have : (srch m l l.length ⟨[], []⟩ []).isSome = true := way_srch hq hp
    rw [h1] at this
    cases this
  · rw [h2]
    symm
    show decide _ = true
    rw [decide_eq_true_eq, ← hw]
    exact ⟨p, (srch_len h1).1, srch_way h1⟩
theorem ln_wider {m : Int} {l l' : List Op} (h8 : l.length ≤ 8) (hi : (lnR m l).2.1 = true) (hl : l'.length = l.length) (h : ∀ i (h : i < l.length), l[i].wider (l'[i]'(by omega))) : (lnR m l').2.1 = true ∧ (lnR m l').2.2 = 0 := by
  rcases ln_cases m l h8 with h0 | ⟨hr, hk, ⟨_, h0⟩ | ⟨p, h1, h0⟩⟩
  · rw [h0] at hi; cases hi
  · rw [h0] at hi; cases hi
  have hw := way_wider hl h (srch_way h1)
  have hs := way_srch (f := l'.length) hw (by rw [hl]; exact (srch_len h1).1)
  have hr' : ∀ o ∈ l', rgtO (kns m) o = true := fun o ho => by
    obtain ⟨i, hi, rfl⟩ := List.getElem_of_mem ho
    exact rgt_wider (h i (by omega)) (hr _ (List.getElem_mem _))
  rw [lnR, if_neg (by rw [List.all_eq_true.2 hr']; simp [hk]), if_neg (by omega)]
  cases hq : srch m l' l'.length ⟨[], []⟩ [] with
  | none => rw [hq] at hs; cases hs
  | some q => exact ⟨rfl, rfl⟩
end Go.Proofs.Ytpmmbjcgabnloaa
namespace Go.Proofs.Ytpmmbjcgabnloaa
set_option linter.unusedSimpArgs false
set_option linter.unusedVariables false
open Go.Sx
def rowK (l : List Op) (k : Nat) : Bool := (List.range k).all fun i => dnA l i && (i == 0 || ahA l i (i - 1))
theorem rowK_step (l : List Op) (k : Nat) : rowK l (k + 1) = (rowK l k && (dnA l k && (k == 0 || ahA l k (k - 1)))) := by
  rw [rowK, rowK, List.range_succ, List.all_append]
  simp
theorem rowK_all {l : List Op} (h : rowK l l.length = true) : (∀ i (h : i < l.length), l[i].dn = true) ∧ (∀ i (h : i + 1 < l.length), ahd l[i] l[i + 1] = true) := by
  rw [rowK, List.all_eq_true] at h
  refine ⟨fun i hi => ?_, fun i hi => ?_⟩
  · have := h i (by simpa using hi)
    rw [Bool.and_eq_true, dnA, List.getElem?_eq_getElem hi] at this
    exact this.1
  · have := h (i + 1) (by simpa using hi)
    rw [Bool.and_eq_true, ahA, List.getElem?_eq_getElem hi, Nat.add_sub_cancel, List.getElem?_eq_getElem (by omega : i < l.length)] at this
    simpa using this.2
def whenN (p : List Nat) (k : Nat) : Int := if k ∈ p then (p.idxOf k : Int) + 1 else 0
theorem whenN_no {p : List Nat} {k : Nat} (h : k ∉ p) : whenN p k = 0 := by rw [whenN, if_neg h]
theorem whenN_pos {p : List Nat} {k : Nat} (h : k ∈ p) : 0 < whenN p k := by rw [whenN, if_pos h]; omega
theorem whenN_le (p : List Nat) (k : Nat) : whenN p k ≤ p.length := by
  rw [whenN]
  split
  · rename_i h
    have := List.idxOf_lt_length_of_mem h
    omega
  · omega
theorem whenN_add {p : List Nat} {j k : Nat} (h : j ∉ p) : whenN (p ++ [j]) k = if k = j then (p.length : Int) + 1 else whenN p k := by
  by_cases hk : k = j
  · subst hk
    rw [if_pos rfl, whenN, if_pos (by simp), List.idxOf_append, if_neg h]
    simp
  · rw [if_neg hk, whenN, whenN]
    by_cases hm : k ∈ p
    · rw [if_pos (by simp [hm]), if_pos hm, List.idxOf_append, if_pos hm]
    · rw [if_neg (by simp [hm, hk]), if_neg hm]
def whenL (n : Nat) (p : List Nat) : List Int := (List.range n).map (whenN p)
theorem whenL_len (n : Nat) (p : List Nat) : (whenL n p).length = n := by simp [whenL]
theorem whenL_get {n : Nat} {p : List Nat} {k : Nat} (h : k < (whenL n p).length) : (whenL n p)[k] = whenN p k := by simp [whenL]
theorem whenL_nil (n : Nat) : whenL n [] = List.replicate n 0 := by
  rw [List.eq_replicate_iff]
  refine ⟨whenL_len n [], fun x hx => ?_⟩
  obtain ⟨k, _, rfl⟩ := List.mem_map.1 hx
  simp [whenN]
theorem whenL_set {n : Nat} {p : List Nat} {j : Nat} (h : j ∉ p) : (whenL n p).set j ((p.length : Int) + 1) = whenL n (p ++ [j]) := by
  refine List.ext_getElem (by simp [whenL]) fun k h1 h2 => ?_
  rw [List.getElem_set, whenL_get]
  simp only [whenL, List.getElem_map, List.getElem_range]
  rw [whenN_add h]
  by_cases hk : j = k
  · rw [if_pos hk, if_pos hk.symm]
  · rw [if_neg hk, if_neg (fun q => hk q.symm)]
theorem way_when {m : Int} {l : List Op} {p : List Nat} {s : MS} (hw : Way m l s [] p) {i k : Nat} (hi : i < l.length) (hk : 0 < whenN p k) (ha : ahA l k i = true) : whenN p i < whenN p k := by
  obtain ⟨h1, h2, _, h4⟩ := way_in hw
  have hkp : k ∈ p := by
    by_cases q : k ∈ p
    · exact q
    · rw [whenN_no q] at hk; omega
  have hlt := List.idxOf_lt_length_of_mem hkp
  have hget : p[p.idxOf k] = k := List.getElem_idxOf hlt
  have := h4 (p.idxOf k) hlt i hi (by rw [hget]; exact ha)
  rcases this with q | q
  · cases q
  have hip : i ∈ p := List.mem_of_mem_take q
  rw [whenN, whenN, if_pos hip, if_pos hkp]
  have : p.idxOf i < p.idxOf k := by
    obtain ⟨b, hb, e⟩ := List.getElem_of_mem q
    rw [List.getElem_take] at e
    have hb' : b < p.idxOf k := by rw [List.length_take] at hb; omega
    have : p.idxOf i ≤ b := by
      rcases Nat.lt_or_ge b (p.idxOf i) with q2 | q2
      · have h5 := List.not_of_lt_findIdx (p := (· == i)) (xs := p) (i := b) q2
        simp [e] at h5
      · exact q2
    omega
  omega
theorem picks_step {l : List Op} {p : List Nat} {i : Nat} (hi : i < p.length) (hb : p[i] < l.length) : picks l (p.take (i + 1)) = picks l (p.take i) ++ [l[p[i]]] := by
  rw [← List.take_append_getElem hi, picks, picks, List.filterMap_append]
  simp [List.getElem?_eq_getElem hb]
def whV (n : Nat) (p : List Nat) : List Value := (whenL n p).map (.int .i64 ·)
theorem whV_len (n : Nat) (p : List Nat) : (whV n p).length = n := by simp [whV, whenL]
theorem whV_take {n : Nat} {p : List Nat} {k : Nat} (h : k < n) : ((whV n p).drop k).take 1 = [.int .i64 (whenN p k)] := by
  rw [List.drop_eq_getElem_cons (by rw [whV_len]; exact h)]
  simp [whV, whenL]
theorem whV_nil (n : Nat) : rep [Value.int .i64 0] n = whV n [] := by
  rw [whV, whenL_nil, List.map_replicate]
  induction n with
  | zero => rfl
  | succ n ih => rw [rep, ih, List.replicate_succ]; rfl
theorem whV_lay {n : Nat} {p : List Nat} {j : Nat} (hj : j < n) (h : j ∉ p) : lay (whV n p) j [.int .i64 ((p.length : Int) + 1)] = some (whV n (p ++ [j])) := by
  have hl := whV_len n p
  have h0 : whV n p = (whV n p).take j ++ ([(whV n p)[j]] ++ (whV n p).drop (j + 1)) := by
    rw [List.singleton_append, ← List.drop_eq_getElem_cons (by omega), List.take_append_drop]
  have h2 := lay_at ((whV n p).take j) [(whV n p)[j]] [.int .i64 ((p.length : Int) + 1)] ((whV n p).drop (j + 1)) rfl
  have h1 : ((whV n p).take j).length = j := by rw [List.length_take]; omega
  rw [h1, List.append_assoc, ← h0] at h2
  rw [h2]
  congr 1
  rw [whV, whV, ← whenL_set h, List.map_set, List.set_eq_take_append_cons_drop, if_pos (by simp [whenL]; exact hj)]
  simp
theorem layF (A B : List Value) (c0 c1 c2 c3 c4 c5 c6 c7 c8 c9 c10 n0 : Value) : lay (A ++ [c0, c1, c2, c3, c4, c5, c6, c7, c8, c9, c10] ++ B) (A.length + 8) [n0] = some (A ++ [c0, c1, c2, c3, c4, c5, c6, c7, n0, c9, c10] ++ B) := by
  have := lay_at (A ++ [c0, c1, c2, c3, c4, c5, c6, c7]) [c8] [n0] ([c9, c10] ++ B) rfl
  simpa using this
theorem cutB (A B L : List Value) {i : Nat} {v : Value} (h : L[i]? = some v) : ((A ++ L ++ B).drop (A.length + i)).take 1 = [v] := by
  obtain ⟨hi, rfl⟩ := List.getElem?_eq_some_iff.1 h
  rw [List.append_assoc, ← List.drop_drop, List.drop_left, List.drop_append_of_le_length (by omega), List.drop_eq_getElem_cons hi]
  rfl
theorem set_wider {l : List Op} {w : Nat} (hw : w < l.length) {o' : Op} (h : l[w].wider o') : ∀ i (hi : i < l.length), l[i].wider ((l.set w o')[i]'(by simpa using hi)) := by
  intro i hi
  by_cases hwi : w = i
  · subst hwi
    simpa using h
  · simp only [List.getElem_set, if_neg hwi]
    exact wider_refl _
end Go.Proofs.Ytpmmbjcgabnloaa
namespace Go.Proofs.Ytpmmbjcgabnloaa
set_option linter.unusedSimpArgs false
set_option linter.unusedVariables false
open Go.Sx
set_option maxHeartbeats 16000000
set_option maxRecDepth 20000
theorem historyHolds_ok (m : Int) (l : List Op) (sl : Value) (wh er la : Int) (G : Hp) (hl : rO.S G l sl) (hwh : isI64 wh) (her : 0 ≤ er ∧ er < 256) (hla : 0 ≤ la ∧ la < 256) : Pure Try.prog 8 [.int .i64 m, sl, .int .i64 wh, .int .u8 er, .int .u8 la] G (fun v _ => v = .bool true) := by
  have h10 := hl
  obtain ⟨ad1, cap1, rfl⟩ := Rp.S_slice hl
  have h63 := Rp.S_len hl
  refine enterM ty tyok Try.func8 rfl Try.ntmps8 [.v (.int .i64 m), .v (.slice ad1 l.length cap1), .v (.int .i64 wh), .v (.int .u8 er), .v (.int .u8 la)] (by simp) ?_
  intro C hP hQ hnt hty hmb hmh hro; have hQp := qp_bodyM hQ; refine st_ ?_
  refine rn_ ?_; intros
  refine go_marks 5 rfl (by omega) ?_
  refine st_ ?_
  refine rn_ ?_; intros
  refine go_callf (by rw [hnt]; rfl) (by rw [hP]; kernel_rfl) rfl (hP ▸ few_ok l _ 6 G h10) ?_; refine rn_ ?_; intros
  cases hfew : fewO l 6
  · (refine x_split rfl rfl rfl (fun _ => ?_) (fun hc => absurd hc (by first | decide +kernel | (simp; first | done | fail))); refine st_ ?_; (refine ru_ ?_; intros))
    refine rn_ ?_; intros
    refine go_callf (by rw [hnt]; rfl) (by rw [hP]; kernel_rfl) rfl (hP ▸ works29_ok G) ?_; refine rn_ ?_; intros
    refine x_retM 5 rfl hQ hmb rfl rfl rfl (by rw [hty]; simp only [so, sq, zy, zz, tyE, SO', SQ', opQ, opStore, opAlloc, ev, putS, dOk, cv, SV.cs, SV.one, SV.bool?, eqB, Value.oneCell', ldOwn, binInt, binConst, binBool, binStr, isC, TK.agg, rv, rv1, ldV, resOne, resV, Nat.reduceAdd, Nat.reduceMul, Nat.reduceSub, Nat.reduceLT, Nat.reduceLeDiff, Nat.reduceEqDiff, Nat.reduceBEq, reduceIte, reduceCtorEq, eq_self]; try rfl) ?_; simp only [SV.den, resV, dens]
  have hl6 : l.length ≤ 6 := by
    simp only [fewO, Bool.and_eq_true, decide_eq_true_eq] at hfew
    have := hfew.1
    omega
  (refine x_split rfl rfl rfl (fun hc => absurd hc (by first | decide +kernel | (simp; first | done | fail))) (fun _ => ?_); refine st_ ?_; (refine ru_ ?_; intros))
  refine rn_ ?_; intros
  refine go_call (by rw [hnt]; rfl) (by rw [hP]; kernel_rfl) rfl (hP ▸ hLine_ok m l _ G h10) ?_
  rintro v G1 (hle1 : Le G G1) ⟨s1, rfl, hS1⟩
  obtain ⟨ax, cx, rfl⟩ := Rp.S_slice hS1
  have hcs := ln_cases m l (by omega)
  obtain ⟨L, hL⟩ : ∃ L, L = lnR m l := ⟨_, rfl⟩
  rw [← hL] at hcs hS1 ⊢
  rw [List.length_map] at hS1 ⊢
  refine rn_ ?_; intros
  refine go_callf (by rw [hnt]; rfl) (by rw [hP]; kernel_rfl) rfl (hP ▸ num_ok L.2.2 G1) ?_; refine rn_ ?_; intros
  refine go_keep [0, 1, 2, 3, 4, 10, 11, 12, 43] [5] ?_
  refine st_ ?_
  by_cases he : L.2.2 = 0
  rotate_left
  · obtain ⟨e1, e2⟩ : L.1 = [] ∧ L.2.1 = false := by
      rcases hcs with h | ⟨_, _, ⟨_, h⟩ | ⟨p, _, h⟩⟩
      · rw [h]; exact ⟨rfl, rfl⟩
      · rw [h] at he; exact absurd rfl he
      · rw [h] at he; exact absurd rfl he
    rw [e1, e2]
    (refine x_split rfl rfl rfl (fun _ => ?_) (fun hc => absurd hc (by simpa using he)); refine st_ ?_; (refine ru_ ?_; intros))
    refine rn_ ?_; intros
    repeat (first | (refine go_gsplit rfl rfl (fun hc => absurd hc (by first | decide +kernel | (simp; first | done | fail))) (fun _ => ?_); refine st_ ?_; (refine rn_ ?_; intros)) | (refine go_gsplit rfl rfl (fun _ => ?_) (fun hc => absurd hc (by first | decide +kernel | (simp; first | done | fail))); refine st_ ?_; (refine rn_ ?_; intros)) | (refine x_split rfl rfl rfl (fun hc => absurd hc (by first | decide +kernel | (simp; first | done | fail))) (fun _ => ?_); refine st_ ?_; (refine ru_ ?_; intros)) | (refine x_split rfl rfl rfl (fun _ => ?_) (fun hc => absurd hc (by first | decide +kernel | (simp; first | done | fail))); refine st_ ?_; (refine ru_ ?_; intros)))
    refine go_callf (by rw [hnt]; rfl) (by rw [hP]; kernel_rfl) rfl (hP ▸ works29_ok G1) ?_; refine rn_ ?_; intros
    repeat (first | (refine go_gsplit rfl rfl (fun hc => absurd hc (by first | decide +kernel | (simp; first | done | fail))) (fun _ => ?_); refine st_ ?_; (refine rn_ ?_; intros)) | (refine go_gsplit rfl rfl (fun _ => ?_) (fun hc => absurd hc (by first | decide +kernel | (simp; first | done | fail))); refine st_ ?_; (refine rn_ ?_; intros)) | (refine x_split rfl rfl rfl (fun hc => absurd hc (by first | decide +kernel | (simp; first | done | fail))) (fun _ => ?_); refine st_ ?_; (refine ru_ ?_; intros)) | (refine x_split rfl rfl rfl (fun _ => ?_) (fun hc => absurd hc (by first | decide +kernel | (simp; first | done | fail))); refine st_ ?_; (refine ru_ ?_; intros)))
    refine rn_ ?_; intros
    refine x_retM 5 rfl hQ hmb rfl rfl rfl (by rw [hty]; simp only [so, sq, zy, zz, tyE, SO', SQ', opQ, opStore, opAlloc, ev, putS, dOk, cv, SV.cs, SV.one, SV.bool?, eqB, Value.oneCell', ldOwn, binInt, binConst, binBool, binStr, isC, TK.agg, rv, rv1, ldV, resOne, resV, Nat.reduceAdd, Nat.reduceMul, Nat.reduceSub, Nat.reduceLT, Nat.reduceLeDiff, Nat.reduceEqDiff, Nat.reduceBEq, reduceIte, reduceCtorEq, eq_self]; try rfl) ?_; simp only [SV.den, resV, dens]
  (refine x_split rfl rfl rfl (fun hc => absurd hc (by simpa using he)) (fun _ => ?_); refine st_ ?_; (refine ru_ ?_; intros))
  refine rn_ ?_; intros
  refine go_slot 14 (.v (.bool (rowK l 0))) rfl (by simp [SV.den, rowK]) ?_
  refine go_keep [0, 1, 2, 3, 4, 11, 12, 14, 15] [5] ?_
  refine st_ ?_
  refine x_loop rfl (fun q st => ∃ (j : Nat), j ≤ l.length ∧ q = l.length - j ∧
    st = ⟨[(0, .v (.int .i64 m)), (1, .v (.slice ad1 l.length cap1)), (2, .v (.int .i64 wh)), (3, .v (.int .u8 er)), (4, .v (.int .u8 la)), (11, .v (.slice ax L.1.length cx)), (12, .v (.bool L.2.1)), (14, .v (.bool (rowK l j))), (15, .v (.int .i64 j))],
      [(5, 0, dzO [])], G1, []⟩) ⟨0, by omega, rfl, rfl⟩ ?_
  rintro q st ⟨j, hj, hq, rfl⟩ ih
  refine rn_ ?_; intros
  refine x_if rfl rfl rfl rfl (fun hjl => ?_) (fun hjl => ?_)
  · have hlt : j < l.length := by simp at hjl; omega
    have hstep := rowK_step l j
    obtain ⟨c1, o1, sa, sr, rfl, hat, hor⟩ := rO_at hl hlt
    obtain ⟨asa, csa, rfl⟩ := VT.rep_slice hor.a
    obtain ⟨asr, csr, rfl⟩ := VT.rep_slice hor.r
    have hdA : dnA l j = l[j].dn := by rw [dnA, List.getElem?_eq_getElem hlt]
    refine rn_ ?_; intros
    refine x_draw rfl (by rw [hP]; kernel_rfl) rfl (by kernel_rfl) ?_
    refine runq 400 hty hnt ?_; refine st_ ?_
    cases hrk : rowK l j
    · (refine go_qsplit rfl rfl (fun hc => absurd hc (by simp)) (fun _ => ?_); refine st_ ?_; (try (refine runq 400 hty hnt ?_; refine st_ ?_)))
      repeat (refine q_gundef rfl (by rw [hnt]; rfl) rfl ?_; (refine st_ ?_; (try (refine runq 400 hty hnt ?_; refine st_ ?_))))
      refine q_end ?_; refine rn_ ?_; intros
      refine rn_ ?_; intros
      rw [wr (n := (j : Int) + 1) (by omega) (by omega)]
      refine go_slot 14 (.v (.bool (rowK l (j + 1)))) rfl (by rw [hstep, hrk, Bool.false_and]; first | rfl | simp [SV.den]) ?_
      refine go_keep [0, 1, 2, 3, 4, 11, 12, 14, 15] [5] ?_
      refine st_ ?_
      exact ih (l.length - (j + 1)) _ (by omega) ⟨j + 1, by omega, rfl, rfl⟩
    (refine go_qsplit rfl rfl (fun _ => ?_) (fun hc => absurd hc (by simp)); refine st_ ?_; (try (refine runq 400 hty hnt ?_; refine st_ ?_)))
    refine q_q (by rw [hnt]; rfl) (quiet_index (by rw [hty]; rfl) (by rw [hty]; rfl) rfl rfl rfl (by omega) (by omega)) ?_; refine runq 400 hty hnt ?_; refine st_ ?_
    refine q_q (v := .bool l[j].dn) (by rw [hnt]; rfl) ((quiet_load (vs := [.bool l[j].dn]) (by rw [hty]; rfl) rfl (by simp [TK.agg]) (by simpa [opL] using (hat.mono hle1).sub 10 1 (by simp [opL])) rfl).cast (by rfl)) ?_
    refine runq 400 hty hnt ?_; refine st_ ?_
    cases hdn : l[j].dn
    · (refine go_qsplit rfl rfl (fun hc => absurd hc (by simp)) (fun _ => ?_); refine st_ ?_; (try (refine runq 400 hty hnt ?_; refine st_ ?_)))
      repeat (refine q_gundef rfl (by rw [hnt]; rfl) rfl ?_; (refine st_ ?_; (try (refine runq 400 hty hnt ?_; refine st_ ?_))))
      refine q_end ?_; refine rn_ ?_; intros
      refine rn_ ?_; intros
      rw [wr (n := (j : Int) + 1) (by omega) (by omega)]
      refine go_slot 14 (.v (.bool (rowK l (j + 1)))) rfl (by rw [hstep, hrk, hdA, hdn, Bool.false_and, Bool.and_false]; first | rfl | simp [SV.den]) ?_
      refine go_keep [0, 1, 2, 3, 4, 11, 12, 14, 15] [5] ?_
      refine st_ ?_
      exact ih (l.length - (j + 1)) _ (by omega) ⟨j + 1, by omega, rfl, rfl⟩
    (refine go_qsplit rfl rfl (fun _ => ?_) (fun hc => absurd hc (by simp)); refine st_ ?_; (try (refine runq 400 hty hnt ?_; refine st_ ?_)))
    by_cases hj0 : j = 0
    · (refine go_qsplit rfl rfl (fun _ => ?_) (fun hc => absurd hc (by simp [hj0])); refine st_ ?_; (try (refine runq 400 hty hnt ?_; refine st_ ?_)))
      repeat (refine q_gundef rfl (by rw [hnt]; rfl) rfl ?_; (refine st_ ?_; (try (refine runq 400 hty hnt ?_; refine st_ ?_))))
      refine q_end ?_; refine rn_ ?_; intros
      refine rn_ ?_; intros
      rw [wr (n := (j : Int) + 1) (by omega) (by omega)]
      refine go_slot 14 (.v (.bool (rowK l (j + 1)))) rfl (by rw [hstep, hrk, hdA, hdn, show (j == 0) = true by simp [hj0]]; first | rfl | simp [SV.den]) ?_
      refine go_keep [0, 1, 2, 3, 4, 11, 12, 14, 15] [5] ?_
      refine st_ ?_
      exact ih (l.length - (j + 1)) _ (by omega) ⟨j + 1, by omega, rfl, rfl⟩
    (refine go_qsplit rfl rfl (fun hc => absurd hc (by simp; omega)) (fun _ => ?_); refine st_ ?_; (try (refine runq 400 hty hnt ?_; refine st_ ?_)))
    rw [wr (n := (j : Int) - 1) (by omega) (by omega), show (j : Int) - 1 = ((j - 1 : Nat) : Int) by omega]
    obtain ⟨c2, o2, sa2, sr2, hcc, hat2, hor2⟩ := rO_at hl (i := j - 1) (by omega)
    cases hcc
    obtain ⟨asa2, csa2, rfl⟩ := VT.rep_slice hor2.a
    obtain ⟨asr2, csr2, rfl⟩ := VT.rep_slice hor2.r
    have hahA : ahA l j (j - 1) = ahd l[j - 1] l[j] := by rw [ahA, List.getElem?_eq_getElem hlt, List.getElem?_eq_getElem (by omega : j - 1 < l.length)]
    refine q_q (v := .pointer (some ⟨c1, o1 + (j - 1) * 11, none⟩)) (by rw [hnt]; rfl) ((quiet_index (by rw [hty]; rfl) (by rw [hty]; rfl) rfl rfl rfl (by omega) (by omega)).cast (by simp [SV.den])) ?_
    refine runq 400 hty hnt ?_; refine st_ ?_
    refine q_q (v := .agg (opL l[j - 1] (.slice asa2 l[j - 1].arg.l.length csa2) (.slice asr2 l[j - 1].res.l.length csr2)).toArray) (by rw [hnt]; rfl) ((quiet_load (by rw [hty]; rfl) rfl (fun q => by cases q) (by simpa only [Int.toNat_natCast] using hat2.mono hle1) rfl).cast (by simp only [ldV]; rfl)) ?_
    simp only [opL]
    refine runq 400 hty hnt ?_; refine st_ ?_
    refine q_q (by rw [hnt]; rfl) (quiet_index (by rw [hty]; rfl) (by rw [hty]; rfl) rfl rfl rfl (by omega) (by omega)) ?_; refine runq 400 hty hnt ?_; refine st_ ?_
    refine q_q (v := .agg (opL l[j] (.slice asa l[j].arg.l.length csa) (.slice asr l[j].res.l.length csr)).toArray) (by rw [hnt]; rfl) ((quiet_load (by rw [hty]; rfl) rfl (fun q => by cases q) (by simpa only [Int.toNat_natCast] using hat.mono hle1) rfl).cast (by simp only [ldV]; rfl)) ?_
    simp only [opL]
    refine runq 400 hty hnt ?_; refine st_ ?_
    refine q_callf (by rw [hnt]; rfl) (by rw [hP]; kernel_rfl) rfl (hP ▸ ahead_ok l[j - 1] l[j] _ _ _ _ G1 (hor2.mono hle1) (hor.mono hle1)) ?_; refine runq 400 hty hnt ?_; refine st_ ?_
    refine q_end ?_; refine rn_ ?_; intros
    refine rn_ ?_; intros
    rw [wr (n := (j : Int) + 1) (by omega) (by omega)]
    refine go_slot 14 (.v (.bool (rowK l (j + 1)))) rfl (by rw [hstep, hrk, hdA, hdn, hahA, show (j == 0) = false by simp [hj0]]; first | rfl | simp [SV.den]) ?_
    refine go_keep [0, 1, 2, 3, 4, 11, 12, 14, 15] [5] ?_
    refine st_ ?_
    exact ih (l.length - (j + 1)) _ (by omega) ⟨j + 1, by omega, rfl, rfl⟩
  · have hge : j = l.length := by simp at hjl; omega
    subst hge
    clear ih hjl hq hj
    rcases hcs with h | ⟨hrg, hk0, hcs⟩
    · rw [h] at he; cases he
    refine rn_ ?_; intros
    refine cut_tail 1 (fun s' => ∃ (ds : List Nat) (G' : Hp), Le G1 G' ∧
      s' = ⟨[(0, .v (.int .i64 m)), (1, .v (.slice ad1 l.length cap1)), (2, .v (.int .i64 wh)), (3, .v (.int .u8 er)), (4, .v (.int .u8 la)), (11, .v (.slice ax L.1.length cx)), (12, .v (.bool L.2.1))],
      [(5, 0, dzO ds)], G', ds.map mkD⟩) ?_ ?_
    rotate_left
    · intro key
      simp only [List.drop_succ_cons, List.drop_zero] at key
      cases hrow : rowK l l.length
      · refine go_slot 84 (.b false) rfl rfl ?_
        refine x_iff rfl rfl rfl ?_
        refine x_skip rfl ?_
        refine go_keep [0, 1, 2, 3, 4, 11, 12] [5] ?_
        refine st_ ?_
        exact key _ ⟨[], G1, Le.refl _, rfl⟩
      (refine x_split rfl rfl rfl (fun _ => ?_) (fun hc => absurd hc (by first | decide +kernel | (simp; first | done | fail))); refine st_ ?_; (refine ru_ ?_; intros))
      refine go_call (by rw [hnt]; rfl) (by rw [hP]; kernel_rfl) rfl (hP ▸ hRuns_ok m l _ G1 (Rp.S_mono hle1 hl) (by omega)) ?_
      rintro v G2 (hle2 : Le G1 G2) ⟨pf, pcap, rfl, hpc, hit⟩
      refine rn_ ?_; intros
      refine go_q (by rw [hnt]; rfl) (quiet_feq (by rw [hty]; rfl) rfl rfl) ?_
      refine rn_ ?_; intros
      refine go_slot 89 (.b false) rfl rfl ?_
      refine rn_ ?_; intros
      rename_i b17
      refine go_keep [0, 1, 2, 3, 4, 11, 12, 17, 90] [5, 6] ?_
      refine st_ ?_
      refine x_range 5 rfl rfl (ps := #[91, 92]) rfl hro hmh rfl rfl (by rw [hP]; exact hpc) (by rw [hnt]; decide) (by rw [hP]; exact hit) (encR_mono _) (fun _ _ _ h => by obtain ⟨_, _, _, _, rfl, _⟩ := h; rfl)
        (fun i own => own = [(5, 0, dzO []), (6, b17, .c 3 [.v (.int .i64 i)])]) (fun _ _ => False)
        (fun i own h => by subst h; exact ⟨keys_lt rfl, (by repeat (first | exact plain_nil | refine plain_cons (fun _ h => h) ?_)), rfl⟩) (fun _ _ h => h.elim) rfl ?_ ?_ ?_
      · rintro C' C0 i own vs G5 lp D r hiN rfl (hle5 : Le G2 G5) ⟨z, adz, capz, hLi, rfl, hrz⟩ hR
        have hN := runP_len m ⟨[], []⟩ l
        have hnt2 := hR.nt.trans hnt; have hty2 := hR.ty.trans hty; have hP2 := hR.P.trans hP; clear hQ hQp hnt hty hP hmh hmb hro; have hnt := hnt2; have hty := hty2; have hP := hP2; have hmh := hR.mh; have hQp := hR.qp; simp only [putsS, List.toList_toArray]; refine st_ ?_
        refine rn_ ?_; intros
        refine go_br rfl hR.ready ?_
        refine st_ ?_
        refine rn_ ?_; intros
        rw [wr (n := (i : Int) + 1) (by omega) (by omega)]
        refine go_rend hR rfl rfl ?_
        simp only [rmk, reduceIte, Nat.reduceEqDiff]
        rfl
      · rintro D own G5 rfl (hle5 : Le G2 G5)
        have hln := ln_row (by omega) (by rw [← hL]; exact he) (rowK_all hrow).1 (rowK_all hrow).2
        rw [← hL] at hln
        refine st_ ?_
        refine go_blk ?_
        refine rn_ ?_; intros
        refine go_slot 100 (.b false) rfl (by rw [hln]; simp only [SV.den]; congr 1; symm; rw [bne_eq_false_iff_eq, Bool.eq_iff_iff, decide_eq_true_eq, beq_iff_eq]; omega) ?_
        refine x_iff rfl rfl rfl ?_
        refine x_skip rfl ?_
        refine go_keep [0, 1, 2, 3, 4, 11, 12] [5] ?_
        refine st_ ?_
        exact key _ ⟨[D], G5, hle2.trans hle5, rfl⟩
      · exact fun _ _ _ _ h => h.elim
    rintro s' ⟨ds, G2, hle2, rfl⟩
    simp only [List.drop_succ_cons, List.drop_zero]
    refine rn_ ?_; intros
    have hle02 := hle1.trans hle2
    rcases hcs with ⟨_, h⟩ | ⟨p, hsr, h⟩
    · obtain ⟨e1, e2⟩ : L.1 = [] ∧ L.2.1 = false := by rw [h]; exact ⟨rfl, rfl⟩
      rw [e1, e2]
      repeat (first | (refine go_gsplit rfl rfl (fun hc => absurd hc (by first | decide +kernel | (simp; first | done | fail))) (fun _ => ?_); refine st_ ?_; (refine rn_ ?_; intros)) | (refine go_gsplit rfl rfl (fun _ => ?_) (fun hc => absurd hc (by first | decide +kernel | (simp; first | done | fail))); refine st_ ?_; (refine rn_ ?_; intros)) | (refine x_split rfl rfl rfl (fun hc => absurd hc (by first | decide +kernel | (simp; first | done | fail))) (fun _ => ?_); refine st_ ?_; (refine ru_ ?_; intros)) | (refine x_split rfl rfl rfl (fun _ => ?_) (fun hc => absurd hc (by first | decide +kernel | (simp; first | done | fail))); refine st_ ?_; (refine ru_ ?_; intros)))
      refine rn_ ?_; intros
      repeat (first | (refine go_gsplit rfl rfl (fun hc => absurd hc (by first | decide +kernel | (simp; first | done | fail))) (fun _ => ?_); refine st_ ?_; (refine rn_ ?_; intros)) | (refine go_gsplit rfl rfl (fun _ => ?_) (fun hc => absurd hc (by first | decide +kernel | (simp; first | done | fail))); refine st_ ?_; (refine rn_ ?_; intros)) | (refine x_split rfl rfl rfl (fun hc => absurd hc (by first | decide +kernel | (simp; first | done | fail))) (fun _ => ?_); refine st_ ?_; (refine ru_ ?_; intros)) | (refine x_split rfl rfl rfl (fun _ => ?_) (fun hc => absurd hc (by first | decide +kernel | (simp; first | done | fail))); refine st_ ?_; (refine ru_ ?_; intros)))
      refine go_callf (by rw [hnt]; rfl) (by rw [hP]; kernel_rfl) rfl (hP ▸ works29_ok G2) ?_; refine rn_ ?_; intros
      repeat (first | (refine go_gsplit rfl rfl (fun hc => absurd hc (by first | decide +kernel | (simp; first | done | fail))) (fun _ => ?_); refine st_ ?_; (refine rn_ ?_; intros)) | (refine go_gsplit rfl rfl (fun _ => ?_) (fun hc => absurd hc (by first | decide +kernel | (simp; first | done | fail))); refine st_ ?_; (refine rn_ ?_; intros)) | (refine x_split rfl rfl rfl (fun hc => absurd hc (by first | decide +kernel | (simp; first | done | fail))) (fun _ => ?_); refine st_ ?_; (refine ru_ ?_; intros)) | (refine x_split rfl rfl rfl (fun _ => ?_) (fun hc => absurd hc (by first | decide +kernel | (simp; first | done | fail))); refine st_ ?_; (refine ru_ ?_; intros)))
      refine rn_ ?_; intros
      refine x_retM 5 rfl hQ hmb rfl rfl rfl (by rw [hty]; simp only [so, sq, zy, zz, tyE, SO', SQ', opQ, opStore, opAlloc, ev, putS, dOk, cv, SV.cs, SV.one, SV.bool?, eqB, Value.oneCell', ldOwn, binInt, binConst, binBool, binStr, isC, TK.agg, rv, rv1, ldV, resOne, resV, Nat.reduceAdd, Nat.reduceMul, Nat.reduceSub, Nat.reduceLT, Nat.reduceLeDiff, Nat.reduceEqDiff, Nat.reduceBEq, reduceIte, reduceCtorEq, eq_self]; try rfl) ?_; simp only [SV.den, resV, dens]
    obtain ⟨e1, e2⟩ : L.1 = p ∧ L.2.1 = true := by rw [h]; exact ⟨rfl, rfl⟩
    have hS2 := Rp.S_mono hle2 hS1
    rw [e1] at hS2
    rw [e1, e2]
    have hw := srch_way hsr
    obtain ⟨hp1, hp2, hp3, hp4⟩ := way_in hw
    have hpl := (srch_len hsr).1
    (refine x_split rfl rfl rfl (fun hc => absurd hc (by simp)) (fun _ => ?_); refine st_ ?_; (refine ru_ ?_; intros))
    refine rn_ ?_; intros
    refine go_make 8 (by rw [hnt]; rfl) (by rw [hty]; rfl) (by rw [hty]; rfl) rfl rfl (Nat.le_refl _) rfl (by omega) (by omega) (by simp only []; omega) (by simp) ?_
    intro gw
    refine rn_ ?_; intros
    refine go_nilrow 9 40 11 rfl (by omega) ?_
    refine go_keep [0, 1, 2, 3, 4, 11, 18, 19, 20] [5, 8, 9] ?_
    refine st_ ?_
    have hww : ∀ {xs ys : List Value}, xs = ys → xs = ys := id
    rw [whV_nil]
    refine x_loop rfl (fun q st => ∃ (i : Nat) (ar : Option Addr) (cr br : Nat) (xs : List Value), i ≤ p.length ∧ q = p.length - i ∧ rO.L G2 (picks l (p.take i)) xs ∧
      st = ⟨[(0, .v (.int .i64 m)), (1, .v (.slice ad1 l.length cap1)), (2, .v (.int .i64 wh)), (3, .v (.int .u8 er)), (4, .v (.int .u8 la)), (11, .v (.slice ax p.length cx)), (18, .v (.slice (some ⟨gw, 0, none⟩) l.length l.length)), (19, .v (.slice ar i cr)), (20, .v (.int .i64 i))],
        [(5, 0, dzO ds), (8, gw, .row (.slice (some ⟨gw, 0, none⟩) l.length l.length) 3 1 l.length (whV l.length (p.take i))), (9, br, .row (.slice ar i cr) 40 11 i xs)], G2, ds.map mkD⟩) ⟨0, none, 0, 0, [], by omega, rfl, rfl, rfl⟩ ?_
    rintro q st ⟨i, ar, cr, br, xs, hi, hq, hLr, rfl⟩ ih
    refine rn_ ?_; intros
    refine x_if rfl rfl rfl rfl (fun hil => ?_) (fun hil => ?_)
    · have hlt : i < p.length := by simp at hil; omega
      obtain ⟨hpi, _⟩ := hp1 p[i] (List.getElem_mem hlt)
      have hnt0 : p[i] ∉ p.take i := fun q => by
        obtain ⟨b, hb, e⟩ := List.getElem_of_mem q
        rw [List.getElem_take] at e
        rw [List.length_take] at hb
        have := (List.getElem_inj hp2).1 e
        omega
      obtain ⟨b, off, cap', c, hv, hato, hc⟩ := Rp.S_get hS2 (i := i) (by simpa using hlt)
      rw [List.length_map] at hv
      cases hv
      simp only [rI, List.getElem_map] at hato hc
      obtain ⟨rfl, _⟩ := hc
      rw [Nat.mul_one] at hato
      refine rn_ ?_; intros
      refine go_q (by rw [hnt]; rfl) (quiet_index (by rw [hty]; rfl) (by rw [hty]; rfl) rfl rfl rfl (by omega) (by omega)) ?_
      refine rn_ ?_; intros
      refine go_q (v := .int .i64 p[i]) (by rw [hnt]; rfl) ((quiet_load (vs := [.int .i64 p[i]]) (by rw [hty]; rfl) rfl (by simp [TK.agg]) (by simpa using hato) rfl).cast (by rfl)) ?_
      refine rn_ ?_; intros
      (refine go_gsplit rfl rfl (fun hc => absurd hc (by rw [Bool.not_eq_true]; exact decide_eq_false (by omega))) (fun _ => ?_); refine st_ ?_; (refine rn_ ?_; intros))
      (refine go_gsplit rfl rfl (fun hc => absurd hc (by rw [Bool.not_eq_true]; exact decide_eq_false (by omega))) (fun _ => ?_); refine st_ ?_; (refine rn_ ?_; intros))
      refine go_q (by rw [hnt]; rfl) (quiet_index (by rw [hty]; rfl) (by rw [hty]; rfl) rfl rfl rfl (by omega) (by omega)) ?_
      refine rn_ ?_; intros
      refine go_q (v := .int .i64 0) (by rw [hnt]; rfl) ((quiet_loadR (k := 8) (by rw [hty]; rfl) rfl (by simp [TK.agg]) rfl (by simp [whV_len]; omega)).cast (by simp only [ldV, Nat.zero_add, Int.toNat_natCast, Nat.mul_one]; rw [whV_take hpi, whenN_no hnt0]; rfl)) ?_
      refine rn_ ?_; intros
      (refine x_split rfl rfl rfl (fun hc => absurd hc (by first | decide +kernel | (simp; first | done | fail))) (fun _ => ?_); refine st_ ?_; (refine ru_ ?_; intros))
      refine rn_ ?_; intros
      rw [wr (n := (i : Int) + 1) (by omega) (by omega)]
      refine go_q (by rw [hnt]; rfl) (quiet_index (by rw [hty]; rfl) (by rw [hty]; rfl) rfl rfl rfl (by omega) (by omega)) ?_
      refine rn_ ?_; intros
      have hti : (p.take i).length = i := by rw [List.length_take]; omega
      have hps := picks_step hlt hpi
      have htk : p.take (i + 1) = p.take i ++ [p[i]] := (List.take_append_getElem hlt).symm
      refine go_storeR 8 (by rw [hnt]; rfl) (by rw [hty]; rfl) rfl rfl rfl rfl rfl rfl (by
        have := whV_lay hpi hnt0
        rw [hti, ← htk] at this
        simpa [dens, SV.den] using this) ?_
      obtain ⟨c2, o2, sa, sr, hcc, hat, hor⟩ := rO_at hl hpi
      cases hcc
      obtain ⟨asa, csa, rfl⟩ := VT.rep_slice hor.a
      obtain ⟨asr, csr, rfl⟩ := VT.rep_slice hor.r
      refine rn_ ?_; intros
      refine go_q (by rw [hnt]; rfl) (quiet_index (by rw [hty]; rfl) (by rw [hty]; rfl) rfl rfl rfl (by omega) (by omega)) ?_
      refine rn_ ?_; intros
      refine go_q (v := .agg (opL l[p[i]] (.slice asa l[p[i]].arg.l.length csa) (.slice asr l[p[i]].res.l.length csr)).toArray) (by rw [hnt]; rfl) ((quiet_load (by rw [hty]; rfl) rfl (fun q => by cases q) (by simpa only [Int.toNat_natCast] using hat.mono hle02) rfl).cast (by simp only [ldV]; rfl)) ?_
      simp only [opL]
      refine rn_ ?_; intros
      refine go_append 9 (by rw [hnt]; rfl) (by rw [hty]; rfl) (by rw [hty]; rfl) (by decide) rfl rfl rfl (by omega) rfl (src_own 11 rfl rfl) rfl (by simp [dens, SV.den, Value.oneCell']) (by omega) (by simp only []; omega) ?_
      intro v'
      refine go_rowS 9 rfl ?_
      rintro ar' cr' rfl
      refine rn_ ?_; intros
      rw [wr (n := (i : Int) + 1) (by omega) (by omega)]
      refine go_keep [0, 1, 2, 3, 4, 11, 18, 19, 20] [5, 8, 9] ?_
      refine st_ ?_
      exact ih (p.length - (i + 1)) _ (by omega) ⟨i + 1, ar', cr', br, _, by omega, rfl, by rw [hps]; exact Rp.L_append hLr (Rp.L_single ⟨_, _, rfl, hor.mono hle02⟩), by simp [dens, SV.den, opL]⟩
    have hge : i = p.length := by simp at hil; omega
    subst hge
    rw [List.take_length] at hLr ⊢
    clear ih hil hq hi
    refine rn_ ?_; intros
    have hpkl := (way_run hrg hw).2
    refine go_pubL rO 9 rfl (by omega) (ts := picks l p) hpkl.symm (by omega) hLr ?_
    intro G3 ad3 cap3 (hle3 : Le G2 G3) he3 hSr
    rw [← he3] at hSr
    refine st_ ?_
    refine go_pubL rI 8 rfl (by omega) (ts := whenL l.length p) (by rw [whenL_len]) (by omega) (rI_L.2 ⟨rfl, fun n hn => ?_⟩) ?_
    · obtain ⟨k, _, rfl⟩ := List.mem_map.1 hn
      have h1 := whenN_le p k
      have h2 : 0 ≤ whenN p k := by rw [whenN]; split <;> omega
      simp only [isI64]; omega
    intro G4 ad4 cap4 (hle4 : Le G3 G4) he4 hSw
    rw [← he4] at hSw
    have hle24 := hle3.trans hle4
    have hle04 := hle02.trans hle24
    refine st_ ?_
    refine go_keep [0, 1, 2, 3, 4, 18, 19, 22] [5] ?_
    refine st_ ?_
    have hwget : ∀ {k : Nat}, k < l.length → At G4 gw k [.int .i64 (whenN p k)] := fun {k} hk => by
      obtain ⟨bw, ow, cw, c, hv, hatw, hcw⟩ := Rp.S_get hSw (i := k) (by rw [whenL_len]; exact hk)
      rw [whenL_len] at hv
      cases hv
      simp only [rI, whenL_get, Nat.mul_one] at hatw hcw
      obtain ⟨rfl, _⟩ := hcw
      simpa using hatw
    refine x_loop rfl (fun q st => ∃ (i : Nat), i ≤ l.length ∧ q = l.length - i ∧
      st = ⟨[(0, .v (.int .i64 m)), (1, .v (.slice ad1 l.length cap1)), (2, .v (.int .i64 wh)), (3, .v (.int .u8 er)), (4, .v (.int .u8 la)), (18, .v (.slice (some ⟨gw, 0, none⟩) l.length l.length)), (19, .v (.slice ar p.length cr)), (22, .v (.int .i64 i))],
        [(5, 0, dzO ds)], G4, ds.map mkD⟩) ⟨0, by omega, rfl, rfl⟩ ?_
    rintro q st ⟨i, hi, hq, rfl⟩ ih
    refine rn_ ?_; intros
    refine x_if rfl rfl rfl rfl (fun hil => ?_) (fun hil => ?_)
    · have hlt : i < l.length := by simp at hil; omega
      obtain ⟨c1, o1, sa, sr, rfl, hat, hor⟩ := rO_at hl hlt
      obtain ⟨asa, csa, rfl⟩ := VT.rep_slice hor.a
      obtain ⟨asr, csr, rfl⟩ := VT.rep_slice hor.r
      refine rn_ ?_; intros
      refine go_q (by rw [hnt]; rfl) (quiet_index (by rw [hty]; rfl) (by rw [hty]; rfl) rfl rfl rfl (by omega) (by omega)) ?_
      refine rn_ ?_; intros
      refine go_q (v := .bool l[i].dn) (by rw [hnt]; rfl) ((quiet_load (vs := [.bool l[i].dn]) (by rw [hty]; rfl) rfl (by simp [TK.agg]) (by simpa [opL] using (hat.mono hle04).sub 10 1 (by simp [opL])) rfl).cast (by rfl)) ?_
      refine rn_ ?_; intros
      cases hdn : l[i].dn
      · (refine go_gsplit rfl rfl (fun hc => absurd hc (by first | decide +kernel | (simp; first | done | fail))) (fun _ => ?_); refine st_ ?_; (refine rn_ ?_; intros))
        refine go_keep [0, 1, 2, 3, 4, 18, 19, 22, 23] [5] ?_
        refine st_ ?_
        refine x_loop rfl (fun q st => ∃ (k : Nat), k ≤ l.length ∧ q = l.length - k ∧
          st = ⟨[(0, .v (.int .i64 m)), (1, .v (.slice (some ⟨c1, o1, none⟩) l.length cap1)), (2, .v (.int .i64 wh)), (3, .v (.int .u8 er)), (4, .v (.int .u8 la)), (18, .v (.slice (some ⟨gw, 0, none⟩) l.length l.length)), (19, .v (.slice ar p.length cr)), (22, .v (.int .i64 i)), (23, .v (.int .i64 k))],
            [(5, 0, dzO ds)], G4, ds.map mkD⟩) ⟨0, by omega, rfl, rfl⟩ ?_
        rintro q2 st ⟨k, hk, hq2, rfl⟩ ih2
        refine rn_ ?_; intros
        refine x_if rfl rfl rfl rfl (fun hkl => ?_) (fun hkl => ?_)
        · have hltk : k < l.length := by simp at hkl; omega
          obtain ⟨c2, o2, sa2, sr2, hcc, hat2, hor2⟩ := rO_at hl hltk
          cases hcc
          obtain ⟨asa2, csa2, rfl⟩ := VT.rep_slice hor2.a
          obtain ⟨asr2, csr2, rfl⟩ := VT.rep_slice hor2.r
          refine rn_ ?_; intros
          refine x_draw rfl (by rw [hP]; kernel_rfl) rfl (by kernel_rfl) ?_
          refine runq 400 hty hnt ?_; refine st_ ?_
          refine q_q (by rw [hnt]; rfl) (quiet_index (by rw [hty]; rfl) (by rw [hty]; rfl) rfl rfl rfl (by omega) (by omega)) ?_; refine runq 400 hty hnt ?_; refine st_ ?_
          refine q_q (v := .int .i64 (whenN p k)) (by rw [hnt]; rfl) ((quiet_load (vs := [.int .i64 (whenN p k)]) (by rw [hty]; rfl) rfl (by simp [TK.agg]) (by simpa using hwget hltk) rfl).cast (by rfl)) ?_
          refine runq 400 hty hnt ?_; refine st_ ?_
          by_cases hk0 : 0 < whenN p k
          rotate_left
          · (refine go_qsplit rfl rfl (fun hc => absurd hc (by simp; omega)) (fun _ => ?_); refine st_ ?_; (try (refine runq 400 hty hnt ?_; refine st_ ?_)))
            repeat (refine q_gundef rfl (by rw [hnt]; rfl) rfl ?_; (refine st_ ?_; (try (refine runq 400 hty hnt ?_; refine st_ ?_))))
            refine q_end ?_; refine rn_ ?_; intros
            refine rn_ ?_; intros
            rw [wr (n := (k : Int) + 1) (by omega) (by omega)]
            refine go_keep [0, 1, 2, 3, 4, 18, 19, 22, 23] [5] ?_
            refine st_ ?_
            exact ih2 (l.length - (k + 1)) _ (by omega) ⟨k + 1, by omega, rfl, rfl⟩
          (refine go_qsplit rfl rfl (fun _ => ?_) (fun hc => absurd hc (by simp; omega)); refine st_ ?_; (try (refine runq 400 hty hnt ?_; refine st_ ?_)))
          refine q_q (by rw [hnt]; rfl) (quiet_index (by rw [hty]; rfl) (by rw [hty]; rfl) rfl rfl rfl (by omega) (by omega)) ?_; refine runq 400 hty hnt ?_; refine st_ ?_
          refine q_q (v := .agg (opL l[i] (.slice asa l[i].arg.l.length csa) (.slice asr l[i].res.l.length csr)).toArray) (by rw [hnt]; rfl) ((quiet_load (by rw [hty]; rfl) rfl (fun q => by cases q) (by simpa only [Int.toNat_natCast] using hat.mono hle04) rfl).cast (by simp only [ldV]; rfl)) ?_
          simp only [opL]
          refine runq 400 hty hnt ?_; refine st_ ?_
          refine q_q (by rw [hnt]; rfl) (quiet_index (by rw [hty]; rfl) (by rw [hty]; rfl) rfl rfl rfl (by omega) (by omega)) ?_; refine runq 400 hty hnt ?_; refine st_ ?_
          refine q_q (v := .agg (opL l[k] (.slice asa2 l[k].arg.l.length csa2) (.slice asr2 l[k].res.l.length csr2)).toArray) (by rw [hnt]; rfl) ((quiet_load (by rw [hty]; rfl) rfl (fun q => by cases q) (by simpa only [Int.toNat_natCast] using hat2.mono hle04) rfl).cast (by simp only [ldV]; rfl)) ?_
          simp only [opL]
          refine runq 400 hty hnt ?_; refine st_ ?_
          refine q_callf (by rw [hnt]; rfl) (by rw [hP]; kernel_rfl) rfl (hP ▸ ahead_ok l[i] l[k] _ _ _ _ G4 (hor.mono hle04) (hor2.mono hle04)) ?_; refine runq 400 hty hnt ?_; refine st_ ?_
          cases hah : ahd l[i] l[k]
          · (refine go_qsplit rfl rfl (fun hc => absurd hc (by simp)) (fun _ => ?_); refine st_ ?_; (try (refine runq 400 hty hnt ?_; refine st_ ?_)))
            repeat (refine q_gundef rfl (by rw [hnt]; rfl) rfl ?_; (refine st_ ?_; (try (refine runq 400 hty hnt ?_; refine st_ ?_))))
            refine q_end ?_; refine rn_ ?_; intros
            refine rn_ ?_; intros
            rw [wr (n := (k : Int) + 1) (by omega) (by omega)]
            refine go_keep [0, 1, 2, 3, 4, 18, 19, 22, 23] [5] ?_
            refine st_ ?_
            exact ih2 (l.length - (k + 1)) _ (by omega) ⟨k + 1, by omega, rfl, rfl⟩
          have hwk := way_when hw hlt hk0 (by rw [ahA, List.getElem?_eq_getElem hltk, List.getElem?_eq_getElem hlt]; exact hah)
          (refine go_qsplit rfl rfl (fun _ => ?_) (fun hc => absurd hc (by simp)); refine st_ ?_; (try (refine runq 400 hty hnt ?_; refine st_ ?_)))
          refine q_q (by rw [hnt]; rfl) (quiet_index (by rw [hty]; rfl) (by rw [hty]; rfl) rfl rfl rfl (by omega) (by omega)) ?_; refine runq 400 hty hnt ?_; refine st_ ?_
          refine q_q (v := .int .i64 (whenN p i)) (by rw [hnt]; rfl) ((quiet_load (vs := [.int .i64 (whenN p i)]) (by rw [hty]; rfl) rfl (by simp [TK.agg]) (by simpa using hwget hlt) rfl).cast (by rfl)) ?_
          refine runq 400 hty hnt ?_; refine st_ ?_
          refine q_q (by rw [hnt]; rfl) (quiet_index (by rw [hty]; rfl) (by rw [hty]; rfl) rfl rfl rfl (by omega) (by omega)) ?_; refine runq 400 hty hnt ?_; refine st_ ?_
          refine q_q (v := .int .i64 (whenN p k)) (by rw [hnt]; rfl) ((quiet_load (vs := [.int .i64 (whenN p k)]) (by rw [hty]; rfl) rfl (by simp [TK.agg]) (by simpa using hwget hltk) rfl).cast (by rfl)) ?_
          refine runq 400 hty hnt ?_; refine st_ ?_
          refine q_end ?_; refine rn_ ?_; intros
          (refine x_split rfl rfl rfl (fun hc => absurd hc (by simp; omega)) (fun _ => ?_); refine st_ ?_; (refine ru_ ?_; intros))
          refine rn_ ?_; intros
          rw [wr (n := (k : Int) + 1) (by omega) (by omega)]
          refine go_keep [0, 1, 2, 3, 4, 18, 19, 22, 23] [5] ?_
          refine st_ ?_
          exact ih2 (l.length - (k + 1)) _ (by omega) ⟨k + 1, by omega, rfl, rfl⟩
        have hge2 : k = l.length := by simp at hkl; omega
        refine rn_ ?_; intros
        rw [wr (n := (i : Int) + 1) (by omega) (by omega)]
        refine go_keep [0, 1, 2, 3, 4, 18, 19, 22] [5] ?_
        refine st_ ?_
        exact ih (l.length - (i + 1)) _ (by omega) ⟨i + 1, by omega, rfl, rfl⟩
      · have hip : i ∈ p := by
          rcases hp3 i (by rw [dnA, List.getElem?_eq_getElem hlt]; exact hdn) hlt with q | q
          · cases q
          · exact q
        have hw0 := whenN_pos hip
        (refine go_gsplit rfl rfl (fun _ => ?_) (fun hc => absurd hc (by first | decide +kernel | (simp; first | done | fail))); refine st_ ?_; (refine rn_ ?_; intros))
        refine go_q (by rw [hnt]; rfl) (quiet_index (by rw [hty]; rfl) (by rw [hty]; rfl) rfl rfl rfl (by omega) (by omega)) ?_
        refine rn_ ?_; intros
        refine go_q (v := .int .i64 (whenN p i)) (by rw [hnt]; rfl) ((quiet_load (vs := [.int .i64 (whenN p i)]) (by rw [hty]; rfl) rfl (by simp [TK.agg]) (by simpa using hwget hlt) rfl).cast (by rfl)) ?_
        refine rn_ ?_; intros
        (refine x_split rfl rfl rfl (fun hc => absurd hc (by simp; omega)) (fun _ => ?_); refine st_ ?_; (refine ru_ ?_; intros))
        refine rn_ ?_; intros
        refine go_keep [0, 1, 2, 3, 4, 18, 19, 22, 23] [5] ?_
        refine st_ ?_
        refine x_loop rfl (fun q st => ∃ (k : Nat), k ≤ l.length ∧ q = l.length - k ∧
          st = ⟨[(0, .v (.int .i64 m)), (1, .v (.slice (some ⟨c1, o1, none⟩) l.length cap1)), (2, .v (.int .i64 wh)), (3, .v (.int .u8 er)), (4, .v (.int .u8 la)), (18, .v (.slice (some ⟨gw, 0, none⟩) l.length l.length)), (19, .v (.slice ar p.length cr)), (22, .v (.int .i64 i)), (23, .v (.int .i64 k))],
            [(5, 0, dzO ds)], G4, ds.map mkD⟩) ⟨0, by omega, rfl, rfl⟩ ?_
        rintro q2 st ⟨k, hk, hq2, rfl⟩ ih2
        refine rn_ ?_; intros
        refine x_if rfl rfl rfl rfl (fun hkl => ?_) (fun hkl => ?_)
        · have hltk : k < l.length := by simp at hkl; omega
          obtain ⟨c2, o2, sa2, sr2, hcc, hat2, hor2⟩ := rO_at hl hltk
          cases hcc
          obtain ⟨asa2, csa2, rfl⟩ := VT.rep_slice hor2.a
          obtain ⟨asr2, csr2, rfl⟩ := VT.rep_slice hor2.r
          refine rn_ ?_; intros
          refine x_draw rfl (by rw [hP]; kernel_rfl) rfl (by kernel_rfl) ?_
          refine runq 400 hty hnt ?_; refine st_ ?_
          refine q_q (by rw [hnt]; rfl) (quiet_index (by rw [hty]; rfl) (by rw [hty]; rfl) rfl rfl rfl (by omega) (by omega)) ?_; refine runq 400 hty hnt ?_; refine st_ ?_
          refine q_q (v := .int .i64 (whenN p k)) (by rw [hnt]; rfl) ((quiet_load (vs := [.int .i64 (whenN p k)]) (by rw [hty]; rfl) rfl (by simp [TK.agg]) (by simpa using hwget hltk) rfl).cast (by rfl)) ?_
          refine runq 400 hty hnt ?_; refine st_ ?_
          by_cases hk0 : 0 < whenN p k
          rotate_left
          · (refine go_qsplit rfl rfl (fun hc => absurd hc (by simp; omega)) (fun _ => ?_); refine st_ ?_; (try (refine runq 400 hty hnt ?_; refine st_ ?_)))
            repeat (refine q_gundef rfl (by rw [hnt]; rfl) rfl ?_; (refine st_ ?_; (try (refine runq 400 hty hnt ?_; refine st_ ?_))))
            refine q_end ?_; refine rn_ ?_; intros
            refine rn_ ?_; intros
            rw [wr (n := (k : Int) + 1) (by omega) (by omega)]
            refine go_keep [0, 1, 2, 3, 4, 18, 19, 22, 23] [5] ?_
            refine st_ ?_
            exact ih2 (l.length - (k + 1)) _ (by omega) ⟨k + 1, by omega, rfl, rfl⟩
          (refine go_qsplit rfl rfl (fun _ => ?_) (fun hc => absurd hc (by simp; omega)); refine st_ ?_; (try (refine runq 400 hty hnt ?_; refine st_ ?_)))
          refine q_q (by rw [hnt]; rfl) (quiet_index (by rw [hty]; rfl) (by rw [hty]; rfl) rfl rfl rfl (by omega) (by omega)) ?_; refine runq 400 hty hnt ?_; refine st_ ?_
          refine q_q (v := .agg (opL l[i] (.slice asa l[i].arg.l.length csa) (.slice asr l[i].res.l.length csr)).toArray) (by rw [hnt]; rfl) ((quiet_load (by rw [hty]; rfl) rfl (fun q => by cases q) (by simpa only [Int.toNat_natCast] using hat.mono hle04) rfl).cast (by simp only [ldV]; rfl)) ?_
          simp only [opL]
          refine runq 400 hty hnt ?_; refine st_ ?_
          refine q_q (by rw [hnt]; rfl) (quiet_index (by rw [hty]; rfl) (by rw [hty]; rfl) rfl rfl rfl (by omega) (by omega)) ?_; refine runq 400 hty hnt ?_; refine st_ ?_
          refine q_q (v := .agg (opL l[k] (.slice asa2 l[k].arg.l.length csa2) (.slice asr2 l[k].res.l.length csr2)).toArray) (by rw [hnt]; rfl) ((quiet_load (by rw [hty]; rfl) rfl (fun q => by cases q) (by simpa only [Int.toNat_natCast] using hat2.mono hle04) rfl).cast (by simp only [ldV]; rfl)) ?_
          simp only [opL]
          refine runq 400 hty hnt ?_; refine st_ ?_
          refine q_callf (by rw [hnt]; rfl) (by rw [hP]; kernel_rfl) rfl (hP ▸ ahead_ok l[i] l[k] _ _ _ _ G4 (hor.mono hle04) (hor2.mono hle04)) ?_; refine runq 400 hty hnt ?_; refine st_ ?_
          cases hah : ahd l[i] l[k]
          · (refine go_qsplit rfl rfl (fun hc => absurd hc (by simp)) (fun _ => ?_); refine st_ ?_; (try (refine runq 400 hty hnt ?_; refine st_ ?_)))
            repeat (refine q_gundef rfl (by rw [hnt]; rfl) rfl ?_; (refine st_ ?_; (try (refine runq 400 hty hnt ?_; refine st_ ?_))))
            refine q_end ?_; refine rn_ ?_; intros
            refine rn_ ?_; intros
            rw [wr (n := (k : Int) + 1) (by omega) (by omega)]
            refine go_keep [0, 1, 2, 3, 4, 18, 19, 22, 23] [5] ?_
            refine st_ ?_
            exact ih2 (l.length - (k + 1)) _ (by omega) ⟨k + 1, by omega, rfl, rfl⟩
          have hwk := way_when hw hlt hk0 (by rw [ahA, List.getElem?_eq_getElem hltk, List.getElem?_eq_getElem hlt]; exact hah)
          (refine go_qsplit rfl rfl (fun _ => ?_) (fun hc => absurd hc (by simp)); refine st_ ?_; (try (refine runq 400 hty hnt ?_; refine st_ ?_)))
          refine q_q (by rw [hnt]; rfl) (quiet_index (by rw [hty]; rfl) (by rw [hty]; rfl) rfl rfl rfl (by omega) (by omega)) ?_; refine runq 400 hty hnt ?_; refine st_ ?_
          refine q_q (v := .int .i64 (whenN p i)) (by rw [hnt]; rfl) ((quiet_load (vs := [.int .i64 (whenN p i)]) (by rw [hty]; rfl) rfl (by simp [TK.agg]) (by simpa using hwget hlt) rfl).cast (by rfl)) ?_
          refine runq 400 hty hnt ?_; refine st_ ?_
          refine q_q (by rw [hnt]; rfl) (quiet_index (by rw [hty]; rfl) (by rw [hty]; rfl) rfl rfl rfl (by omega) (by omega)) ?_; refine runq 400 hty hnt ?_; refine st_ ?_
          refine q_q (v := .int .i64 (whenN p k)) (by rw [hnt]; rfl) ((quiet_load (vs := [.int .i64 (whenN p k)]) (by rw [hty]; rfl) rfl (by simp [TK.agg]) (by simpa using hwget hltk) rfl).cast (by rfl)) ?_
          refine runq 400 hty hnt ?_; refine st_ ?_
          refine q_end ?_; refine rn_ ?_; intros
          (refine x_split rfl rfl rfl (fun hc => absurd hc (by simp; omega)) (fun _ => ?_); refine st_ ?_; (refine ru_ ?_; intros))
          refine rn_ ?_; intros
          rw [wr (n := (k : Int) + 1) (by omega) (by omega)]
          refine go_keep [0, 1, 2, 3, 4, 18, 19, 22, 23] [5] ?_
          refine st_ ?_
          exact ih2 (l.length - (k + 1)) _ (by omega) ⟨k + 1, by omega, rfl, rfl⟩
        have hge2 : k = l.length := by simp at hkl; omega
        refine rn_ ?_; intros
        rw [wr (n := (i : Int) + 1) (by omega) (by omega)]
        refine go_keep [0, 1, 2, 3, 4, 18, 19, 22] [5] ?_
        refine st_ ?_
        exact ih (l.length - (i + 1)) _ (by omega) ⟨i + 1, by omega, rfl, rfl⟩
    have hge : i = l.length := by simp at hil; omega
    subst hge
    clear ih hil hq hi
    refine rn_ ?_; intros
    have hwr := way_run hrg hw
    refine go_call (by rw [hnt]; rfl) (by rw [hP]; kernel_rfl) rfl (hP ▸ hRuns_ok m (picks l p) _ G4 (Rp.S_mono hle4 hSr) (by omega)) ?_
    rintro v G5 (hle5 : Le G4 G5) ⟨pf, pcap, rfl, hpc, hit⟩
    refine rn_ ?_; intros
    refine go_q (by rw [hnt]; rfl) (quiet_feq (by rw [hty]; rfl) rfl rfl) ?_
    refine rn_ ?_; intros
    refine go_slot 204 (.b false) rfl rfl ?_
    refine rn_ ?_; intros
    rename_i b25
    refine go_keep [0, 1, 2, 3, 4, 19, 25, 205] [5, 6] ?_
    refine st_ ?_
    have hle05 := hle04.trans hle5
    refine x_range 5 rfl rfl (ps := #[206, 207]) rfl hro hmh rfl rfl (by rw [hP]; exact hpc) (by rw [hnt]; decide) (by rw [hP]; exact hit) (encR_mono _) (fun _ _ _ h => by obtain ⟨_, _, _, _, rfl, _⟩ := h; rfl)
      (fun i own => own = [(5, 0, dzO ds), (6, b25, .c 3 [.v (.int .i64 i)])]) (fun _ _ => False)
      (fun i own h => by subst h; exact ⟨keys_lt rfl, (by repeat (first | exact plain_nil | refine plain_cons (fun _ h => h) ?_)), rfl⟩) (fun _ _ h => h.elim) rfl ?_ ?_ ?_
    · rintro C' C0 i own vs G6 lp D r hiN rfl (hle6 : Le G5 G6) ⟨z, adz, capz, hLi, rfl, hrz⟩ hR
      have hnt2 := hR.nt.trans hnt; have hty2 := hR.ty.trans hty; have hP2 := hR.P.trans hP; clear hQ hQp hnt hty hP hmh hmb hro; have hnt := hnt2; have hty := hty2; have hP := hP2; have hmh := hR.mh; have hQp := hR.qp; simp only [putsS, List.toList_toArray]; refine st_ ?_
      refine rn_ ?_; intros
      refine go_br rfl hR.ready ?_
      refine st_ ?_
      refine rn_ ?_; intros
      rw [wr (n := (i : Int) + 1) (by omega) (by omega)]
      refine go_rend hR rfl rfl ?_
      simp only [rmk, reduceIte, Nat.reduceEqDiff]
      rfl
    rotate_left
    · exact fun _ _ _ _ h => h.elim
    rintro D own G6 rfl (hle6 : Le G5 G6)
    have hle06 := hle05.trans hle6
    rw [hwr.1]
    refine st_ ?_
    refine go_blk ?_
    refine rn_ ?_; intros
    refine go_slot 213 (.b false) rfl (by simp [SV.den]) ?_
    refine go_keep [0, 1, 2, 3, 4, 213] [5] ?_
    refine st_ ?_
    refine x_iff rfl rfl rfl ?_
    refine x_skip rfl ?_
    refine rn_ ?_; intros
    by_cases hw0 : 0 ≤ wh
    rotate_left
    · (refine go_gsplit rfl rfl (fun hc => absurd hc (by simpa using hw0)) (fun _ => ?_); refine st_ ?_; (refine rn_ ?_; intros))
      repeat (refine go_gundef rfl (by rw [hnt]; rfl) rfl ?_; (refine st_ ?_; (refine rn_ ?_; intros)))
      refine rn_ ?_; intros
      refine go_callf (by rw [hnt]; rfl) (by rw [hP]; kernel_rfl) rfl (hP ▸ works29_ok G6) ?_; refine rn_ ?_; intros
      refine x_retM 5 rfl hQ hmb rfl rfl rfl (by rw [hty]; simp only [so, sq, zy, zz, tyE, SO', SQ', opQ, opStore, opAlloc, ev, putS, dOk, cv, SV.cs, SV.one, SV.bool?, eqB, Value.oneCell', ldOwn, binInt, binConst, binBool, binStr, isC, TK.agg, rv, rv1, ldV, resOne, resV, Nat.reduceAdd, Nat.reduceMul, Nat.reduceSub, Nat.reduceLT, Nat.reduceLeDiff, Nat.reduceEqDiff, Nat.reduceBEq, reduceIte, reduceCtorEq, eq_self]; try rfl) ?_; simp only [SV.den, resV, dens]
    (refine go_gsplit rfl rfl (fun _ => ?_) (fun hc => absurd hc (by simpa using hw0)); refine st_ ?_; (refine rn_ ?_; intros))
    by_cases hw1 : wh < l.length
    rotate_left
    · (refine x_split rfl rfl rfl (fun hc => absurd hc (by simpa using hw1)) (fun _ => ?_); refine st_ ?_; (refine ru_ ?_; intros))
      refine rn_ ?_; intros
      refine go_callf (by rw [hnt]; rfl) (by rw [hP]; kernel_rfl) rfl (hP ▸ works29_ok G6) ?_; refine rn_ ?_; intros
      refine x_retM 5 rfl hQ hmb rfl rfl rfl (by rw [hty]; simp only [so, sq, zy, zz, tyE, SO', SQ', opQ, opStore, opAlloc, ev, putS, dOk, cv, SV.cs, SV.one, SV.bool?, eqB, Value.oneCell', ldOwn, binInt, binConst, binBool, binStr, isC, TK.agg, rv, rv1, ldV, resOne, resV, Nat.reduceAdd, Nat.reduceMul, Nat.reduceSub, Nat.reduceLT, Nat.reduceLeDiff, Nat.reduceEqDiff, Nat.reduceBEq, reduceIte, reduceCtorEq, eq_self]; try rfl) ?_; simp only [SV.den, resV, dens]
    (refine x_split rfl rfl rfl (fun _ => ?_) (fun hc => absurd hc (by simpa using hw1)); refine st_ ?_; (refine ru_ ?_; intros))
    obtain ⟨w, rfl⟩ : ∃ w : Nat, wh = w := ⟨wh.toNat, by omega⟩
    have hwl : w < l.length := by omega
    refine rn_ ?_; intros
    obtain ⟨cs, hcs, hsrc⟩ := Rp.srcS (Rp.S_mono hle06 h10)
    have hcl := Rp.L_len hcs
    have hco := Rp.L_one hcs
    have h11 : rO.size = 11 := rfl
    rw [h11] at hcl
    refine go_litrow 6 (n := 0) (size := 11) rfl (by omega) rfl (by omega) ?_
    refine st_ ?_
    refine go_append_any 6 (by rw [hnt]; rfl) (by rw [hty]; rfl) (by rw [hty]; rfl) (by decide) rfl rfl rfl (by omega) rfl (hsrc.imp id fun f => f _ _ rfl) hcl hco (by omega) (by simp only []; omega) ?_
    intro v1
    refine go_rowS 6 rfl ?_
    rintro a7 c7 rfl
    refine go_rowcases 6 rfl (fun _ h0 _ => by omega) ?_
    intro g capg hv' hcv hxl2
    cases hv'
    refine st_ ?_
    obtain ⟨c, hc1, sa, sr, rfl, hor⟩ := Rp.L_get hcs hwl
    rw [h11] at hc1
    have hd8 := cut1 (i := 8) hc1 rfl (by omega)
    have hd9 := cut1 (i := 9) hc1 rfl (by omega)
    have hd10 := cut1 (i := 10) hc1 rfl (by omega)
    obtain ⟨asa, csa, rfl⟩ := VT.rep_slice hor.a
    obtain ⟨asr, csr, rfl⟩ := VT.rep_slice hor.r
    refine rn_ ?_; intros
    refine go_q (by rw [hnt]; rfl) (quiet_index (by rw [hty]; rfl) (by rw [hty]; rfl) rfl rfl rfl (by omega) (by omega)) ?_
    (try (refine runo0 400 hty hnt hmh ?_; simp only [so, sq, zy, zz, tyE, SO', SQ', opQ, opStore, opAlloc, ev, putS, dOk, cv, SV.cs, SV.one, SV.bool?, eqB, Value.oneCell', ldOwn, binInt, binConst, binBool, binStr, isC, TK.agg, rv, rv1, ldV, resOne, resV, Nat.reduceAdd, Nat.reduceMul, Nat.reduceSub, Nat.reduceLT, Nat.reduceLeDiff, Nat.reduceEqDiff, Nat.reduceBEq, Int.reduceEq, reduceIte, reduceCtorEq, eq_self])); (repeat (first | refine x_seq rfl ?_ | refine go_ops ?_ | refine go_blk ?_ | refine x_skip rfl ?_ | refine x_blk rfl rfl ?_ | refine x_exit rfl rfl rfl ?_ | refine x_ift rfl rfl rfl ?_ | refine x_iff rfl rfl rfl ?_ | refine x_label rfl ?_ | ((first | refine x_reg rfl rfl ?_ | (refine go_newx hty hnt hmh rfl rfl ?_; intro _)); refine runo0 400 hty hnt hmh ?_; simp only [so, sq, zy, zz, tyE, SO', SQ', opQ, opStore, opAlloc, ev, putS, dOk, cv, SV.cs, SV.one, SV.bool?, eqB, Value.oneCell', ldOwn, binInt, binConst, binBool, binStr, isC, TK.agg, rv, rv1, ldV, resOne, resV, Nat.reduceAdd, Nat.reduceMul, Nat.reduceSub, Nat.reduceLT, Nat.reduceLeDiff, Nat.reduceEqDiff, Nat.reduceBEq, Int.reduceEq, reduceIte, reduceCtorEq, eq_self])))
    refine go_q (v := .int .i64 l[w].fr) (by rw [hnt]; rfl) ((quiet_loadR (k := 6) (by rw [hty]; rfl) rfl (by simp [TK.agg]) rfl (by simp; omega)).cast (by simp only [ldV, Nat.zero_add, Int.toNat_natCast]; rw [hd8]; rfl)) ?_
    simp only [so, sq, zy, zz, tyE, SO', SQ', opQ, opStore, opAlloc, ev, putS, dOk, cv, SV.cs, SV.one, SV.bool?, eqB, Value.oneCell', ldOwn, binInt, binConst, binBool, binStr, isC, TK.agg, rv, rv1, ldV, resOne, resV, Nat.reduceAdd, Nat.reduceMul, Nat.reduceSub, Nat.reduceLT, Nat.reduceLeDiff, Nat.reduceEqDiff, Nat.reduceBEq, Int.reduceEq, reduceIte, reduceCtorEq, eq_self]
    (try (refine runo0 400 hty hnt hmh ?_; simp only [so, sq, zy, zz, tyE, SO', SQ', opQ, opStore, opAlloc, ev, putS, dOk, cv, SV.cs, SV.one, SV.bool?, eqB, Value.oneCell', ldOwn, binInt, binConst, binBool, binStr, isC, TK.agg, rv, rv1, ldV, resOne, resV, Nat.reduceAdd, Nat.reduceMul, Nat.reduceSub, Nat.reduceLT, Nat.reduceLeDiff, Nat.reduceEqDiff, Nat.reduceBEq, Int.reduceEq, reduceIte, reduceCtorEq, eq_self])); (repeat (first | refine x_seq rfl ?_ | refine go_ops ?_ | refine go_blk ?_ | refine x_skip rfl ?_ | refine x_blk rfl rfl ?_ | refine x_exit rfl rfl rfl ?_ | refine x_ift rfl rfl rfl ?_ | refine x_iff rfl rfl rfl ?_ | refine x_label rfl ?_ | ((first | refine x_reg rfl rfl ?_ | (refine go_newx hty hnt hmh rfl rfl ?_; intro _)); refine runo0 400 hty hnt hmh ?_; simp only [so, sq, zy, zz, tyE, SO', SQ', opQ, opStore, opAlloc, ev, putS, dOk, cv, SV.cs, SV.one, SV.bool?, eqB, Value.oneCell', ldOwn, binInt, binConst, binBool, binStr, isC, TK.agg, rv, rv1, ldV, resOne, resV, Nat.reduceAdd, Nat.reduceMul, Nat.reduceSub, Nat.reduceLT, Nat.reduceLeDiff, Nat.reduceEqDiff, Nat.reduceBEq, Int.reduceEq, reduceIte, reduceCtorEq, eq_self])))
    have hfi := hor.ok.fr
    have hti := hor.ok.to
    simp only [isI64] at hfi hti
    have hfr0 : 0 ≤ l[w].fr := by
      have hq := hrg l[w] (List.getElem_mem hwl)
      simp only [rgtO, Bool.and_eq_true, decide_eq_true_eq] at hq
      exact hq.1.1.2
    rw [wr (n := er) (by omega) (by omega), Int.tmod_eq_emod_of_nonneg her.1, wr (n := l[w].fr - er % 21) (by omega) (by omega)]
    obtain ⟨f', hf'⟩ : ∃ f' : Int, f' = if 0 < l[w].fr - er % 21 then l[w].fr - er % 21 else 0 := ⟨_, rfl⟩
    rw [← hf']
    have hf0 : 0 ≤ f' ∧ f' ≤ l[w].fr := by rw [hf']; split <;> omega
    have hLs : ∀ (o' : Op) (c' : List Value), rO.e G6 o' c' → rO.L G6 (l.set w o') (cs.take (w * 11) ++ c' ++ cs.drop (w * 11 + 11)) := fun o' c' h => Rp.L_set hcs h hwl
    have hAl : (cs.take (w * 11)).length = w * 11 := by rw [List.length_take]; omega
    have hxs : cs = cs.take (w * 11) ++ opL l[w] (.slice asa l[w].arg.l.length csa) (.slice asr l[w].res.l.length csr) ++ cs.drop (w * 11 + 11) := by
      rw [← hc1, List.append_assoc, ← List.drop_drop, List.take_append_drop, List.take_append_drop]
    clear hcs hsrc hco hxl2 hc1 hd8 hd9 hd10
    generalize cs.take (w * 11) = A at hLs hAl hxs
    generalize cs.drop (w * 11 + 11) = B at hLs hxs
    subst hxs
    simp only [List.length_append, opL, List.length_cons, List.length_nil] at hcl
    simp only [opL]
    refine go_q (by rw [hnt]; rfl) (quiet_index (by rw [hty]; rfl) (by rw [hty]; rfl) rfl rfl rfl (by omega) (by omega)) ?_
    refine rn_ ?_; intros
    refine go_storeR 6 (by rw [hnt]; rfl) (by rw [hty]; rfl) rfl rfl rfl rfl rfl rfl (by rw [← hAl]; exact layF A B _ _ _ _ _ _ _ _ _ _ _ _) ?_
    refine st_ ?_
    refine rn_ ?_; intros
    refine go_q (by rw [hnt]; rfl) (quiet_index (by rw [hty]; rfl) (by rw [hty]; rfl) rfl rfl rfl (by omega) (by omega)) ?_
    refine rn_ ?_; intros
    refine go_q (v := .bool l[w].dn) (by rw [hnt]; rfl) ((quiet_loadR (k := 6) (by rw [hty]; rfl) rfl (by simp [TK.agg]) rfl (by simp only [List.length_append, List.length_cons, List.length_nil]; omega)).cast (by simp only [ldV, Nat.zero_add, Int.toNat_natCast]; rw [← hAl, cutB A B _ rfl]; rfl)) ?_
    refine rn_ ?_; intros
    cases hdn : l[w].dn
    · (refine go_gsplit rfl rfl (fun hc => absurd hc (by simp)) (fun _ => ?_); refine st_ ?_; (refine rn_ ?_; intros))
      repeat (refine go_gundef rfl (by rw [hnt]; rfl) rfl ?_; (refine st_ ?_; (refine rn_ ?_; intros)))
      have hro' : Op.rep G6 ⟨l[w].th, l[w].kd, l[w].arg, l[w].res, f', l[w].to, l[w].dn⟩ (.slice asa l[w].arg.l.length csa) (.slice asr l[w].res.l.length csr) := ⟨⟨hor.ok.th, hor.ok.kd, by simp only [isI64]; omega, by simp only [isI64]; omega, hor.ok.ba, hor.ok.br⟩, hor.a, hor.r⟩
      have hLo := hLs _ _ ⟨_, _, rfl, hro'⟩
      have hwd := ln_wider (m := m) (l := l) (l' := l.set w ⟨l[w].th, l[w].kd, l[w].arg, l[w].res, f', l[w].to, l[w].dn⟩) (by omega) (by rw [← hL]; exact e2) (by simp) (set_wider hwl ⟨rfl, rfl, rfl, rfl, rfl, fun _ => hf0.1, hf0.2, by simp only []; omega, fun q => by first | rfl | (rw [hdn] at q; cases q)⟩)
      simp only [opL, hdn] at hLo
      rw [hdn] at hwd
      refine go_pubL rO 6 rfl (by omega) (by simp) (by omega) hLo ?_
      intro G7 ad7 cap7 (hle7 : Le G6 G7) he7 hS7
      rw [← he7] at hS7
      refine st_ ?_
      refine go_call (by rw [hnt]; rfl) (by rw [hP]; kernel_rfl) rfl (hP ▸ hLine_ok m _ _ G7 hS7) ?_
      rintro v G8 (hle8 : Le G7 G8) ⟨s8, rfl, hS8⟩
      rw [hwd.1, hwd.2]
      refine rn_ ?_; intros
      refine go_callf (by rw [hnt]; rfl) (by rw [hP]; kernel_rfl) rfl (hP ▸ num_ok 0 G8) ?_; refine rn_ ?_; intros
      repeat (first | (refine go_gsplit rfl rfl (fun hc => absurd hc (by first | decide +kernel | (simp; first | done | fail))) (fun _ => ?_); refine st_ ?_; (refine rn_ ?_; intros)) | (refine go_gsplit rfl rfl (fun _ => ?_) (fun hc => absurd hc (by first | decide +kernel | (simp; first | done | fail))); refine st_ ?_; (refine rn_ ?_; intros)) | (refine x_split rfl rfl rfl (fun hc => absurd hc (by first | decide +kernel | (simp; first | done | fail))) (fun _ => ?_); refine st_ ?_; (refine ru_ ?_; intros)) | (refine x_split rfl rfl rfl (fun _ => ?_) (fun hc => absurd hc (by first | decide +kernel | (simp; first | done | fail))); refine st_ ?_; (refine ru_ ?_; intros)))
      refine rn_ ?_; intros
      refine go_callf (by rw [hnt]; rfl) (by rw [hP]; kernel_rfl) rfl (hP ▸ works29_ok G8) ?_; refine rn_ ?_; intros
      refine x_retM 5 rfl hQ hmb rfl rfl rfl (by rw [hty]; simp only [so, sq, zy, zz, tyE, SO', SQ', opQ, opStore, opAlloc, ev, putS, dOk, cv, SV.cs, SV.one, SV.bool?, eqB, Value.oneCell', ldOwn, binInt, binConst, binBool, binStr, isC, TK.agg, rv, rv1, ldV, resOne, resV, Nat.reduceAdd, Nat.reduceMul, Nat.reduceSub, Nat.reduceLT, Nat.reduceLeDiff, Nat.reduceEqDiff, Nat.reduceBEq, reduceIte, reduceCtorEq, eq_self]; try rfl) ?_; simp only [SV.den, resV, dens]
    (refine go_gsplit rfl rfl (fun _ => ?_) (fun hc => absurd hc (by simp)); refine st_ ?_; (refine rn_ ?_; intros))
    refine go_q (by rw [hnt]; rfl) (quiet_index (by rw [hty]; rfl) (by rw [hty]; rfl) rfl rfl rfl (by omega) (by omega)) ?_
    refine rn_ ?_; intros
    refine go_q (v := .int .i64 l[w].to) (by rw [hnt]; rfl) ((quiet_loadR (k := 6) (by rw [hty]; rfl) rfl (by simp [TK.agg]) rfl (by simp only [List.length_append, List.length_cons, List.length_nil]; omega)).cast (by simp only [ldV, Nat.zero_add, Int.toNat_natCast]; rw [← hAl, cutB A B _ rfl]; rfl)) ?_
    refine rn_ ?_; intros
    by_cases hto : l[w].to ≤ 4611686018427387904
    rotate_left
    · (refine x_split rfl rfl rfl (fun hc => absurd hc (by simpa using hto)) (fun _ => ?_); refine st_ ?_; (refine ru_ ?_; intros))
      refine rn_ ?_; intros
      have hro' : Op.rep G6 ⟨l[w].th, l[w].kd, l[w].arg, l[w].res, f', l[w].to, l[w].dn⟩ (.slice asa l[w].arg.l.length csa) (.slice asr l[w].res.l.length csr) := ⟨⟨hor.ok.th, hor.ok.kd, by simp only [isI64]; omega, by simp only [isI64]; omega, hor.ok.ba, hor.ok.br⟩, hor.a, hor.r⟩
      have hLo := hLs _ _ ⟨_, _, rfl, hro'⟩
      have hwd := ln_wider (m := m) (l := l) (l' := l.set w ⟨l[w].th, l[w].kd, l[w].arg, l[w].res, f', l[w].to, l[w].dn⟩) (by omega) (by rw [← hL]; exact e2) (by simp) (set_wider hwl ⟨rfl, rfl, rfl, rfl, rfl, fun _ => hf0.1, hf0.2, by simp only []; omega, fun q => by first | rfl | (rw [hdn] at q; cases q)⟩)
      simp only [opL, hdn] at hLo
      rw [hdn] at hwd
      refine go_pubL rO 6 rfl (by omega) (by simp) (by omega) hLo ?_
      intro G7 ad7 cap7 (hle7 : Le G6 G7) he7 hS7
      rw [← he7] at hS7
      refine st_ ?_
      refine go_call (by rw [hnt]; rfl) (by rw [hP]; kernel_rfl) rfl (hP ▸ hLine_ok m _ _ G7 hS7) ?_
      rintro v G8 (hle8 : Le G7 G8) ⟨s8, rfl, hS8⟩
      rw [hwd.1, hwd.2]
      refine rn_ ?_; intros
      refine go_callf (by rw [hnt]; rfl) (by rw [hP]; kernel_rfl) rfl (hP ▸ num_ok 0 G8) ?_; refine rn_ ?_; intros
      repeat (first | (refine go_gsplit rfl rfl (fun hc => absurd hc (by first | decide +kernel | (simp; first | done | fail))) (fun _ => ?_); refine st_ ?_; (refine rn_ ?_; intros)) | (refine go_gsplit rfl rfl (fun _ => ?_) (fun hc => absurd hc (by first | decide +kernel | (simp; first | done | fail))); refine st_ ?_; (refine rn_ ?_; intros)) | (refine x_split rfl rfl rfl (fun hc => absurd hc (by first | decide +kernel | (simp; first | done | fail))) (fun _ => ?_); refine st_ ?_; (refine ru_ ?_; intros)) | (refine x_split rfl rfl rfl (fun _ => ?_) (fun hc => absurd hc (by first | decide +kernel | (simp; first | done | fail))); refine st_ ?_; (refine ru_ ?_; intros)))
      refine rn_ ?_; intros
      refine go_callf (by rw [hnt]; rfl) (by rw [hP]; kernel_rfl) rfl (hP ▸ works29_ok G8) ?_; refine rn_ ?_; intros
      refine x_retM 5 rfl hQ hmb rfl rfl rfl (by rw [hty]; simp only [so, sq, zy, zz, tyE, SO', SQ', opQ, opStore, opAlloc, ev, putS, dOk, cv, SV.cs, SV.one, SV.bool?, eqB, Value.oneCell', ldOwn, binInt, binConst, binBool, binStr, isC, TK.agg, rv, rv1, ldV, resOne, resV, Nat.reduceAdd, Nat.reduceMul, Nat.reduceSub, Nat.reduceLT, Nat.reduceLeDiff, Nat.reduceEqDiff, Nat.reduceBEq, reduceIte, reduceCtorEq, eq_self]; try rfl) ?_; simp only [SV.den, resV, dens]
    (refine x_split rfl rfl rfl (fun _ => ?_) (fun hc => absurd hc (by simpa using hto)); refine st_ ?_; (refine ru_ ?_; intros))
    (try (refine runo0 400 hty hnt hmh ?_; simp only [so, sq, zy, zz, tyE, SO', SQ', opQ, opStore, opAlloc, ev, putS, dOk, cv, SV.cs, SV.one, SV.bool?, eqB, Value.oneCell', ldOwn, binInt, binConst, binBool, binStr, isC, TK.agg, rv, rv1, ldV, resOne, resV, Nat.reduceAdd, Nat.reduceMul, Nat.reduceSub, Nat.reduceLT, Nat.reduceLeDiff, Nat.reduceEqDiff, Nat.reduceBEq, Int.reduceEq, reduceIte, reduceCtorEq, eq_self])); (repeat (first | refine x_seq rfl ?_ | refine go_ops ?_ | refine go_blk ?_ | refine x_skip rfl ?_ | refine x_blk rfl rfl ?_ | refine x_exit rfl rfl rfl ?_ | refine x_ift rfl rfl rfl ?_ | refine x_iff rfl rfl rfl ?_ | refine x_label rfl ?_ | ((first | refine x_reg rfl rfl ?_ | (refine go_newx hty hnt hmh rfl rfl ?_; intro _)); refine runo0 400 hty hnt hmh ?_; simp only [so, sq, zy, zz, tyE, SO', SQ', opQ, opStore, opAlloc, ev, putS, dOk, cv, SV.cs, SV.one, SV.bool?, eqB, Value.oneCell', ldOwn, binInt, binConst, binBool, binStr, isC, TK.agg, rv, rv1, ldV, resOne, resV, Nat.reduceAdd, Nat.reduceMul, Nat.reduceSub, Nat.reduceLT, Nat.reduceLeDiff, Nat.reduceEqDiff, Nat.reduceBEq, Int.reduceEq, reduceIte, reduceCtorEq, eq_self])))
    refine go_q (by rw [hnt]; rfl) (quiet_index (by rw [hty]; rfl) (by rw [hty]; rfl) rfl rfl rfl (by omega) (by omega)) ?_
    (try (refine runo0 400 hty hnt hmh ?_; simp only [so, sq, zy, zz, tyE, SO', SQ', opQ, opStore, opAlloc, ev, putS, dOk, cv, SV.cs, SV.one, SV.bool?, eqB, Value.oneCell', ldOwn, binInt, binConst, binBool, binStr, isC, TK.agg, rv, rv1, ldV, resOne, resV, Nat.reduceAdd, Nat.reduceMul, Nat.reduceSub, Nat.reduceLT, Nat.reduceLeDiff, Nat.reduceEqDiff, Nat.reduceBEq, Int.reduceEq, reduceIte, reduceCtorEq, eq_self])); (repeat (first | refine x_seq rfl ?_ | refine go_ops ?_ | refine go_blk ?_ | refine x_skip rfl ?_ | refine x_blk rfl rfl ?_ | refine x_exit rfl rfl rfl ?_ | refine x_ift rfl rfl rfl ?_ | refine x_iff rfl rfl rfl ?_ | refine x_label rfl ?_ | ((first | refine x_reg rfl rfl ?_ | (refine go_newx hty hnt hmh rfl rfl ?_; intro _)); refine runo0 400 hty hnt hmh ?_; simp only [so, sq, zy, zz, tyE, SO', SQ', opQ, opStore, opAlloc, ev, putS, dOk, cv, SV.cs, SV.one, SV.bool?, eqB, Value.oneCell', ldOwn, binInt, binConst, binBool, binStr, isC, TK.agg, rv, rv1, ldV, resOne, resV, Nat.reduceAdd, Nat.reduceMul, Nat.reduceSub, Nat.reduceLT, Nat.reduceLeDiff, Nat.reduceEqDiff, Nat.reduceBEq, Int.reduceEq, reduceIte, reduceCtorEq, eq_self])))
    refine go_q (v := .int .i64 l[w].to) (by rw [hnt]; rfl) ((quiet_loadR (k := 6) (by rw [hty]; rfl) rfl (by simp [TK.agg]) rfl (by simp only [List.length_append, List.length_cons, List.length_nil]; omega)).cast (by simp only [ldV, Nat.zero_add, Int.toNat_natCast]; rw [← hAl, cutB A B _ rfl]; rfl)) ?_
    simp only [so, sq, zy, zz, tyE, SO', SQ', opQ, opStore, opAlloc, ev, putS, dOk, cv, SV.cs, SV.one, SV.bool?, eqB, Value.oneCell', ldOwn, binInt, binConst, binBool, binStr, isC, TK.agg, rv, rv1, ldV, resOne, resV, Nat.reduceAdd, Nat.reduceMul, Nat.reduceSub, Nat.reduceLT, Nat.reduceLeDiff, Nat.reduceEqDiff, Nat.reduceBEq, Int.reduceEq, reduceIte, reduceCtorEq, eq_self]
    (try (refine runo0 400 hty hnt hmh ?_; simp only [so, sq, zy, zz, tyE, SO', SQ', opQ, opStore, opAlloc, ev, putS, dOk, cv, SV.cs, SV.one, SV.bool?, eqB, Value.oneCell', ldOwn, binInt, binConst, binBool, binStr, isC, TK.agg, rv, rv1, ldV, resOne, resV, Nat.reduceAdd, Nat.reduceMul, Nat.reduceSub, Nat.reduceLT, Nat.reduceLeDiff, Nat.reduceEqDiff, Nat.reduceBEq, Int.reduceEq, reduceIte, reduceCtorEq, eq_self])); (repeat (first | refine x_seq rfl ?_ | refine go_ops ?_ | refine go_blk ?_ | refine x_skip rfl ?_ | refine x_blk rfl rfl ?_ | refine x_exit rfl rfl rfl ?_ | refine x_ift rfl rfl rfl ?_ | refine x_iff rfl rfl rfl ?_ | refine x_label rfl ?_ | ((first | refine x_reg rfl rfl ?_ | (refine go_newx hty hnt hmh rfl rfl ?_; intro _)); refine runo0 400 hty hnt hmh ?_; simp only [so, sq, zy, zz, tyE, SO', SQ', opQ, opStore, opAlloc, ev, putS, dOk, cv, SV.cs, SV.one, SV.bool?, eqB, Value.oneCell', ldOwn, binInt, binConst, binBool, binStr, isC, TK.agg, rv, rv1, ldV, resOne, resV, Nat.reduceAdd, Nat.reduceMul, Nat.reduceSub, Nat.reduceLT, Nat.reduceLeDiff, Nat.reduceEqDiff, Nat.reduceBEq, Int.reduceEq, reduceIte, reduceCtorEq, eq_self])))
    rw [wr (n := la) (by omega) (by omega), Int.tmod_eq_emod_of_nonneg hla.1, wr (n := l[w].to + la % 21) (by omega) (by omega)]
    obtain ⟨t', ht'⟩ : ∃ t' : Int, t' = l[w].to + la % 21 := ⟨_, rfl⟩
    rw [← ht']
    refine go_q (by rw [hnt]; rfl) (quiet_index (by rw [hty]; rfl) (by rw [hty]; rfl) rfl rfl rfl (by omega) (by omega)) ?_
    refine rn_ ?_; intros
    refine go_storeR 6 (by rw [hnt]; rfl) (by rw [hty]; rfl) rfl rfl rfl rfl rfl rfl (by rw [← hAl]; exact layB A B _ _ _ _ _ _ _ _ _ _ _ _) ?_
    refine st_ ?_
    refine rn_ ?_; intros
    have hro' : Op.rep G6 ⟨l[w].th, l[w].kd, l[w].arg, l[w].res, f', t', l[w].dn⟩ (.slice asa l[w].arg.l.length csa) (.slice asr l[w].res.l.length csr) := ⟨⟨hor.ok.th, hor.ok.kd, by simp only [isI64]; omega, by simp only [isI64]; omega, hor.ok.ba, hor.ok.br⟩, hor.a, hor.r⟩
    have hLo := hLs _ _ ⟨_, _, rfl, hro'⟩
    have hwd := ln_wider (m := m) (l := l) (l' := l.set w ⟨l[w].th, l[w].kd, l[w].arg, l[w].res, f', t', l[w].dn⟩) (by omega) (by rw [← hL]; exact e2) (by simp) (set_wider hwl ⟨rfl, rfl, rfl, rfl, rfl, fun _ => hf0.1, hf0.2, by simp only []; omega, fun q => by first | rfl | (rw [hdn] at q; cases q)⟩)
    simp only [opL, hdn] at hLo
    rw [hdn] at hwd
    refine go_pubL rO 6 rfl (by omega) (by simp) (by omega) hLo ?_
    intro G7 ad7 cap7 (hle7 : Le G6 G7) he7 hS7
    rw [← he7] at hS7
    refine st_ ?_
    refine go_call (by rw [hnt]; rfl) (by rw [hP]; kernel_rfl) rfl (hP ▸ hLine_ok m _ _ G7 hS7) ?_
    rintro v G8 (hle8 : Le G7 G8) ⟨s8, rfl, hS8⟩
    rw [hwd.1, hwd.2]
    refine rn_ ?_; intros
    refine go_callf (by rw [hnt]; rfl) (by rw [hP]; kernel_rfl) rfl (hP ▸ num_ok 0 G8) ?_; refine rn_ ?_; intros
    repeat (first | (refine go_gsplit rfl rfl (fun hc => absurd hc (by first | decide +kernel | (simp; first | done | fail))) (fun _ => ?_); refine st_ ?_; (refine rn_ ?_; intros)) | (refine go_gsplit rfl rfl (fun _ => ?_) (fun hc => absurd hc (by first | decide +kernel | (simp; first | done | fail))); refine st_ ?_; (refine rn_ ?_; intros)) | (refine x_split rfl rfl rfl (fun hc => absurd hc (by first | decide +kernel | (simp; first | done | fail))) (fun _ => ?_); refine st_ ?_; (refine ru_ ?_; intros)) | (refine x_split rfl rfl rfl (fun _ => ?_) (fun hc => absurd hc (by first | decide +kernel | (simp; first | done | fail))); refine st_ ?_; (refine ru_ ?_; intros)))
    refine rn_ ?_; intros
    refine go_callf (by rw [hnt]; rfl) (by rw [hP]; kernel_rfl) rfl (hP ▸ works29_ok G8) ?_; refine rn_ ?_; intros
    refine x_retM 5 rfl hQ hmb rfl rfl rfl (by rw [hty]; simp only [so, sq, zy, zz, tyE, SO', SQ', opQ, opStore, opAlloc, ev, putS, dOk, cv, SV.cs, SV.one, SV.bool?, eqB, Value.oneCell', ldOwn, binInt, binConst, binBool, binStr, isC, TK.agg, rv, rv1, ldV, resOne, resV, Nat.reduceAdd, Nat.reduceMul, Nat.reduceSub, Nat.reduceLT, Nat.reduceLeDiff, Nat.reduceEqDiff, Nat.reduceBEq, reduceIte, reduceCtorEq, eq_self]; try rfl) ?_; simp only [SV.den, resV, dens]
end Go.Proofs.Ytpmmbjcgabnloaa
namespace Go.Proofs.Ytpmmbjcgabnloaa.historyHolds
set_option linter.unusedSimpArgs false
set_option linter.unusedVariables false
open Go.ChangeShapes Go.WideShapes Go.ChangeAt Go.RowKit

theorem wf_u8b {n : Int} (h : (Lit.int .u8 n).wf = true) : 0 ≤ n ∧ n < 256 := by
  have : 0 ≤ n ∧ n ≤ 255 := by simpa [Lit.wf, IntKind.min, IntKind.max, IntKind.signed, IntKind.bits] using h
  omega
set_option maxRecDepth 100000
theorem contract (H : Type) (enc : TypeId × Value → H) (W : World) (base : Nat) (args : Array Value) (ds gs : List (DataW H)) (before : List MemPlace)
    (hval : ∀ (j : Nat) t v, Try.f8.params[j]? = some t → args[j]? = some v → Value.okWide Try.prog W .any base t v)
    (hW : DataW.Whole enc Try.prog Try.f8.params.toList Rows.historyHoldsSpec.vars false W args.toList ds gs before) (hk : Rows.uptoSmall H (ds ++ gs) = true) :
    Calls Try.prog 8 args W fun e W' => ∃ v, e = .returned v ∧ Rows.historyHoldsSpec.post enc Try.prog Try.f8 false true false false W args v W' := by
  have hW' := hW
  obtain ⟨p, q, hA0, hV, rfl, hfz, hnd⟩ := hW
  have hA : DataW.TrodAll enc Try.prog W 0 (fun _ => true) true Try.f8.params.toList args.toList ds p := hA0
  rw [Try.params8] at hA hval
  obtain ⟨v0, vs0, d0, ds0, p0, q0, hargs, rfl, rfl, h0, r0⟩ := trodAll_cons hA
  obtain ⟨v1, vs1, d1, ds1, p1, q1, rfl, rfl, rfl, h1, r1⟩ := trodAll_cons r0
  obtain ⟨v2, vs2, d2, ds2, p2, q2, rfl, rfl, rfl, h2, r2⟩ := trodAll_cons r1
  obtain ⟨v3, vs3, d3, ds3, p3, q3, rfl, rfl, rfl, h3, r3⟩ := trodAll_cons r2
  obtain ⟨v4, vs4, d4, ds4, p4, q4, rfl, rfl, rfl, h4, r4⟩ := trodAll_cons r3
  obtain ⟨rfl, rfl, rfl⟩ := trodAll_nil r4
  obtain rfl : args = #[v0, v1, v2, v3, v4] := by cases args; simp_all
  obtain ⟨rfl, rfl⟩ := trodVars_none hV
  clear hA0
  obtain ⟨a0, rfl, rfl, rfl, w0⟩ := open_int Try.underlying3 (hval 0 3 v0 rfl rfl) h0
  obtain ⟨a2, rfl, rfl, rfl, w2⟩ := open_int Try.underlying3 (hval 2 3 v2 rfl rfl) h2
  obtain ⟨a3, rfl, rfl, rfl, w3⟩ := open_int Try.underlying5 (hval 3 5 v3 rfl rfl) h3
  obtain ⟨a4, rfl, rfl, rfl, w4⟩ := open_int Try.underlying5 (hval 4 5 v4 rfl rfl) h4
  simp only [List.append_nil, List.nil_append] at hW' hk
  have hbulk : Rows.uptoBulkAll [_, d1, _, _, _] ≤ 1048576 := of_decide_eq_true hk
  simp only [Rows.uptoBulkAll, Rows.uptoBulk, Nat.add_zero] at hbulk
  have h1k := h1
  obtain ⟨n1, hf1⟩ := h1
  obtain ⟨ad1, len1, cap1, rfl⟩ := okWide_slice Try.underlying31 (hval 1 31 v1 rfl rfl)
  obtain ⟨ns1, f1, hcs1, hr1⟩ := open_ops (w := W) (by omega) hf1
  obtain rfl : (Value.slice ad1 len1 cap1) = ns1 := by simpa [Value.cells] using hcs1
  have hlt1 : ∀ x ∈ p1, x.block < W.heap.size := fun x hx => by simpa using hW'.lt x (by simp [hx])
  refine (historyHolds_ok a0 f1 _ a2 a3 a4 (hp W) hr1 (wf_i64 w2) (wf_u8b w3) (wf_u8b w4) W (has_hp W)).mono ?_
  rintro e W' ⟨v, G', rfl, hg, rfl⟩
  have hb := hg.below
  exact ⟨_, rfl, post_below rfl rfl hW' (fun _ _ _ => (trodAll_cons_mk (shut_bool Try.underlying4 _) trodAll_mk0))
    (fun sp hsp => by have this := (trodAll_cons_mk (shut_int Try.underlying3 w0) (trodAll_cons_mk (WideElems.Trod_stays laidOut (by kernel_rfl) (of_decide_eq_true (by kernel_rfl)) h1k (fun x hx => hb.same (hlt1 x hx)) (fun x hx => hsp x (by simp [hx]))) (trodAll_cons_mk (shut_int Try.underlying3 w2) (trodAll_cons_mk (shut_int Try.underlying5 w3) (trodAll_cons_mk (shut_int Try.underlying5 w4) trodAll_mk0))))); simp only [List.append_nil, List.nil_append] at this; exact this)
    hb (ok_one (by kernel_rfl) rfl (okWide_bool_mk Try.underlying4 _))⟩

set_option maxRecDepth 100000 in
theorem lifted (os : Os) (started : os.Started) (H : Type) (enc : TypeId × Value → H) (F : Stop.Interp) :
    ReturnsInHanded {} Try.checked os 8 .any ((Rows.OpenSpec.upto Rows.historyHoldsSpec).pre6 enc Try.prog Try.f8 Rows.historyHoldsUptoRow.domain false) (((Rows.OpenSpec.upto Rows.historyHoldsSpec).at F).post enc Try.prog Try.f8 false true false false) := by
  refine returnsInHanded_of_cond (C := Try.checked) (s := Rows.OpenSpec.upto Rows.historyHoldsSpec) (k := Rows.uptoSmall) rfl own started (by kernel_rfl) Try.func8
    (OpenSpec.witness (enc := enc) (C := Try.checked) (s := Rows.OpenSpec.upto Rows.historyHoldsSpec) (k := Rows.uptoSmall) rfl false ⟨#[], #[.int .i64 0, .slice none 0 0, .int .i64 0, .int .u8 0, .int .u8 0], []⟩ 8 (by kernel_rfl) (by kernel_rfl) (by kernel_rfl)
      (x := ([.lit (.int .i64 0), .nil, .lit (.int .i64 0), .lit (.int .u8 0), .lit (.int .u8 0)], [], [])) (by kernel_rfl) rfl (by kernel_rfl)) ?_
  intro W base args ds gs before hval hW _ hk _
  exact contract H enc W base args ds gs before hval hW hk

theorem over : Rows.historyHoldsUptoRow.holds Try.pinned (Rows.OpenSpec.upto Rows.historyHoldsSpec) :=
  OpenClaim.holds_of_cond 8 Try.f8 rfl rfl rfl rfl rfl rfl rfl ⟨rfl, rfl, rfl, rfl, rfl⟩ rfl rfl rfl rfl rfl (by kernel_rfl) Try.func8 (by kernel_rfl)
    (of_decide_eq_true (by kernel_rfl)) (by unfold Func.isWrapper; first | (rw [if_pos (by decide +kernel)]; kernel_rfl) | (rw [if_neg (by decide +kernel)]; exact ⟨rfl, rfl⟩))
    (fun os started H enc _ F => lifted os started H enc F)

theorem proved : Rows.HistoryHoldsUptoSaid := over
end Go.Proofs.Ytpmmbjcgabnloaa.historyHolds

