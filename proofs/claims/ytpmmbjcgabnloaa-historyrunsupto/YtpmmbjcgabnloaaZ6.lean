/-
  Rows.HistoryRunsUptoSaid is proved here: for arguments of bulk at most 1048576.
-/
import Derived.Test.YtpmmbjcgabnloaaZ5
import Derived.Scope
set_option linter.unusedSimpArgs false
set_option linter.unusedVariables false
namespace Go.Proofs.Ytpmmbjcgabnloaa
set_option linter.unusedSimpArgs false
set_option linter.unusedVariables false
open Go.Sx
def runP (m : Int) : MS → List Op → List VT
  | _, [] => []
  | s, o :: r => if rgtO (kns m) o = true ∧ (doP m s o).2.2 = true ∧ (o.dn = true → vsm (doP m s o).2.1 o.res = true) then (doP m s o).2.1 :: runP m (doP m s o).1 r else []
theorem runP_len (m : Int) : ∀ (s : MS) (l : List Op), (runP m s l).length ≤ l.length
  | _, [] => by simp [runP]
  | s, o :: r => by
    rw [runP]
    split
    · have := runP_len m (doP m s o).1 r
      simp only [List.length_cons]; omega
    · simp
theorem runP_step {m : Int} {s : MS} {o : Op} {r : List Op} (h : rgtO (kns m) o = true ∧ (doP m s o).2.2 = true ∧ (o.dn = true → vsm (doP m s o).2.1 o.res = true)) : runP m s (o :: r) = (doP m s o).2.1 :: runP m (doP m s o).1 r := by rw [runP, if_pos h]
theorem runP_stop {m : Int} {s : MS} {o : Op} {r : List Op} (h : ¬ (rgtO (kns m) o = true ∧ (doP m s o).2.2 = true ∧ (o.dn = true → vsm (doP m s o).2.1 o.res = true))) : runP m s (o :: r) = [] := by rw [runP, if_neg h]
end Go.Proofs.Ytpmmbjcgabnloaa
namespace Go.Proofs.Ytpmmbjcgabnloaa
set_option linter.unusedSimpArgs false
set_option linter.unusedVariables false
open Go.Sx
set_option maxHeartbeats 8000000
set_option maxRecDepth 20000
theorem rRuns_ok (md : Int) (l : List Op) (sl : Value) (G : Hp) (hl : rO.S G l sl) (hn : l.length ≤ 100) : Pure Try.prog 29 [.int .i64 md, sl] G (fun v G' => rV.S G' (runP md ⟨[], []⟩ l) v) := by
  have hl63 := Rp.S_len hl
  obtain ⟨adl, capl, rfl⟩ := Rp.S_slice hl
  refine enterX ty tyok Try.func29 rfl Try.ntmps29 [.v (.int .i64 md), .v (.slice adl l.length capl)] (by simp) ?_
  intro C hP hQ hnt hty hmb hmh hro; have hQp := qp_body hQ; refine st_ ?_
  refine rn_ ?_; intros
  rename_i b0
  refine go_nilrow 41 28 3 rfl (by omega) ?_
  refine go_keep [0, 1, 4, 5, 6, 7] [0, 41] ?_
  refine st_ ?_
  refine x_loop rfl (fun q st => ∃ (k : Nat) (G' : Hp) (s : MS) (vs : List VT) (xs : List Value) (ad1 ad2 ado : Option Addr) (cap1 cap2 capo : Nat), k ≤ l.length ∧ q = l.length - k ∧ Le G G' ∧ runP md ⟨[], []⟩ l = vs ++ runP md s (l.drop k) ∧ vs.length = k ∧ rV.L G' vs xs ∧ s.rep G' (.slice ad1 s.vals.length cap1) (.slice ad2 s.ps.length cap2) ∧ CapOk (.slice ad1 s.vals.length cap1) ∧ s.inv md ∧ s.vals.length ≤ k ∧ s.ps.length ≤ k ∧
    st = ⟨[(0, .v (.int .i64 md)), (1, .v (.slice adl l.length capl)), (4, .v (.slice none 0 0)), (5, .p 0 b0 0), (6, .v (.slice ado k capo)), (7, .v (.int .i64 k))],
      [(0, b0, .c 44 [.v (.slice ad1 s.vals.length cap1), .v (.slice ad2 s.ps.length cap2)]), (41, 0, .row (.slice ado k capo) 28 3 k xs)], G', []⟩)
    ⟨0, G, ⟨[], []⟩, [], [], none, none, none, 0, 0, 0, by omega, rfl, Le.refl _, rfl, rfl, rfl, ⟨Rp.S_nil _ _, Rp.S_nil _ _⟩, (fun ad n c h => by cases h; simp), ⟨⟨fun x h => (by cases h), fun x h => (by cases h)⟩, fun x h => (by cases h), fun _ => rfl⟩, by simp, by simp, rfl⟩ ?_
  rintro q st ⟨k, G1, s, vs, xs, ad1, ad2, ado, cap1, cap2, capo, hk, hq, hle1, hrun, hvl, hL, hs, hc, hinv, hsl, hspl, rfl⟩ ih
  refine rn_ ?_; intros
  refine x_if rfl rfl rfl rfl (fun hjl => ?_) (fun hjl => ?_)
  · have hlt : k < l.length := by simp at hjl; omega
    obtain ⟨c1, o1, sa, sr, rfl, hat, hor⟩ := rO_at hl hlt
    obtain ⟨asa, csa, rfl⟩ := VT.rep_slice hor.a
    obtain ⟨asr, csr, rfl⟩ := VT.rep_slice hor.r
    refine rn_ ?_; intros
    refine go_q (by rw [hnt]; rfl) (quiet_index (by rw [hty]; rfl) (by rw [hty]; rfl) rfl rfl rfl (by omega) (by omega)) ?_
    refine rn_ ?_; intros
    refine go_q (v := .agg (opL l[k] (.slice asa l[k].arg.l.length csa) (.slice asr l[k].res.l.length csr)).toArray) (by rw [hnt]; rfl) ((quiet_load (by rw [hty]; rfl) rfl (fun q => by cases q) (by simpa only [Int.toNat_natCast] using hat.mono hle1) rfl).cast (by simp only [ldV]; rfl)) ?_
    simp only [opL]
    refine rn_ ?_; intros
    refine go_callf (by rw [hnt]; rfl) (by rw [hP]; kernel_rfl) rfl (hP ▸ rright_ok2 md l[k] _ _ G1 (hor.mono hle1)) ?_; refine rn_ ?_; intros
    cases hrgk : rgtO (kns md) l[k]
    · (refine x_split rfl rfl rfl (fun _ => ?_) (fun hc => absurd hc (by first | decide +kernel | (simp; first | done | fail))); refine st_ ?_; (refine ru_ ?_; intros))
      have hst : runP md ⟨[], []⟩ l = vs := by rw [hrun, List.drop_eq_getElem_cons hlt, runP_stop (by rw [hrgk]; simp), List.append_nil]
      refine rn_ ?_; intros
      refine go_pubL rV 41 rfl (by omega) (ts := vs) hvl.symm (by omega) (Rp.L_mono (Le.refl _) hL) ?_
      intro G9 ad9 cap9 (hle9 : Le G1 G9) he9 hS9
      rw [← he9] at hS9
      refine st_ ?_
      refine rn_ ?_; intros
      refine x_retc rfl hQ hmb rfl (by rw [hty]; simp only [so, sq, zy, zz, tyE, SO', SQ', opQ, opStore, opAlloc, ev, putS, dOk, cv, SV.cs, SV.one, SV.bool?, eqB, Value.oneCell', ldOwn, binInt, binConst, binBool, binStr, isC, TK.agg, rv, rv1, ldV, resOne, resV, Nat.reduceAdd, Nat.reduceMul, Nat.reduceSub, Nat.reduceLT, Nat.reduceLeDiff, Nat.reduceEqDiff, Nat.reduceBEq, reduceIte, reduceCtorEq, eq_self]; try rfl) rfl ?_; simp only [SV.den, resV, dens]
      rw [hst]
      exact hS9
    (refine x_split rfl rfl rfl (fun hc => absurd hc (by first | decide +kernel | (simp; first | done | fail))) (fun _ => ?_); refine st_ ?_; (refine ru_ ?_; intros))
    refine go_keep [0, 1, 4, 5, 6, 7] [0, 41] ?_
    refine st_ ?_
    refine rn_ ?_; intros
    refine x_held [(0, b0, .c 44 [.v (.slice ad1 s.vals.length cap1), .v (.slice ad2 s.ps.length cap2)])] rfl (by rw [hP]; kernel_rfl) rfl rfl rfl ?_; refine st_ ?_
    refine h_take 0 rfl (by kernel_rfl) (by kernel_rfl) (by kernel_rfl) hQp (by rw [hnt]; rfl) (allIn (by repeat (first | exact trivial | refine ⟨rfl, ?_⟩))) (by first | exact Le.refl _ | assumption) (quiet_op (by rw [hty]; first | rfl | (refine st_ ?_; rfl))) ?_; refine st_ ?_
    refine h_take 1 rfl (by kernel_rfl) (by kernel_rfl) (by kernel_rfl) hQp (by rw [hnt]; rfl) (allIn (by repeat (first | exact trivial | refine ⟨rfl, ?_⟩))) (by first | exact Le.refl _ | assumption) (quiet_op (by rw [hty]; first | rfl | (refine st_ ?_; rfl))) ?_; refine st_ ?_
    refine h_take 2 rfl (by kernel_rfl) (by kernel_rfl) (by kernel_rfl) hQp (by rw [hnt]; rfl) (allIn (by repeat (first | exact trivial | refine ⟨rfl, ?_⟩))) (by first | exact Le.refl _ | assumption) (quiet_op (by rw [hty]; first | rfl | (refine st_ ?_; rfl))) ?_; refine st_ ?_
    refine h_take 3 rfl (by kernel_rfl) (by kernel_rfl) (by kernel_rfl) hQp (by rw [hnt]; rfl) (allIn (by repeat (first | exact trivial | refine ⟨rfl, ?_⟩))) (by first | exact Le.refl _ | assumption) (quiet_op (by rw [hty]; first | rfl | (refine st_ ?_; rfl))) ?_; refine st_ ?_
    refine h_take 4 rfl (by kernel_rfl) (by kernel_rfl) (by kernel_rfl) hQp (by rw [hnt]; rfl) (allIn (by repeat (first | exact trivial | refine ⟨rfl, ?_⟩))) (by first | exact Le.refl _ | assumption) (x := .v (.pointer (some ⟨c1, o1 + k * 11, none⟩))) ((quiet_index (by rw [hty]; rfl) (by rw [hty]; rfl) rfl rfl rfl (by omega) (by omega)).cast (by simp [SV.den])) ?_
    refine st_ ?_
    refine h_take 5 rfl (by kernel_rfl) (by kernel_rfl) (by kernel_rfl) hQp (by rw [hnt]; rfl) (allIn (by repeat (first | exact trivial | refine ⟨rfl, ?_⟩))) (by first | exact Le.refl _ | assumption) (x := .a (opC l[k] (.slice asa l[k].arg.l.length csa) (.slice asr l[k].res.l.length csr))) ((quiet_load (by rw [hty]; rfl) rfl (fun q => by cases q) (hat.mono hle1) rfl).cast (by simp only [ldV, SV.den, dens]; rfl)) ?_
    simp only [opC]
    refine st_ ?_
    refine hf_start [⟨11, 8, 70, 44, [.v (.slice none 0 0), .v (.slice none 0 0)]⟩, ⟨12, 9, 71, 28, [.v (.int .i64 0), .v (.int .i64 0), .v (.slice none 0 0)]⟩] (n := 8) (listed' := #[true, true, true, true, true, true, false, false, false, false, false, true, true, false, false, false]) (by kernel_rfl) (by decide) ?_
    refine hf_call 6 rfl rfl (by repeat (first | exact aok_nil | refine aok_cons ⟨_, _, _, _, rfl, (by rw [hty]; rfl), rfl, (by rw [hnt]; decide), by omega⟩ ?_)) (by kernel_rfl) (by repeat (first | exact oA_nil | refine oA_cons rfl ?_)) (by kernel_rfl) (allIn (by repeat (first | exact trivial | refine ⟨rfl, ?_⟩))) (by first | exact Le.refl _ | assumption) (by rw [hnt]; rfl) rfl (by rw [hP]; kernel_rfl) rfl rfl (hP ▸ rdoes_ok md s l[k] _ _ _ _ G1 hs (hor.mono hle1) (by omega) (by omega) hc hinv.wf hrgk) ?_
    rintro v G2 (hle2 : Le G1 G2) ⟨v1, v2, slr, rfl, hs1, hr1, hrb1, hc1⟩
    obtain ⟨a3, c3, e3⟩ := Rp.S_slice hs1.v
    subst e3
    obtain ⟨a4, c4, e4⟩ := Rp.S_slice hs1.p
    subst e4
    obtain ⟨a5, c5, rfl⟩ := VT.rep_slice hr1
    refine st_ ?_
    refine hf_take 7 rfl rfl (by repeat (first | exact aok_nil | refine aok_cons ⟨_, _, _, _, rfl, (by rw [hty]; rfl), rfl, (by rw [hnt]; decide), by omega⟩ ?_)) (by repeat (first | exact oA_nil | refine oA_cons rfl ?_)) (by repeat (first | exact nD_nil | refine nD_cons rfl ?_)) (by kernel_rfl) (by kernel_rfl) hQp (allIn (by repeat (first | exact trivial | refine ⟨rfl, ?_⟩))) (by first | exact Le.refl _ | assumption) (by rw [hnt]; rfl) rfl (fun _ => by simp) (quiet_op (by rw [hty]; first | rfl | (refine st_ ?_; rfl))) ?_; refine st_ ?_
    refine hf_take 8 rfl rfl (by repeat (first | exact aok_nil | refine aok_cons ⟨_, _, _, _, rfl, (by rw [hty]; rfl), rfl, (by rw [hnt]; decide), by omega⟩ ?_)) (by repeat (first | exact oA_nil | refine oA_cons rfl ?_)) (by repeat (first | exact nD_nil | refine nD_cons rfl ?_)) (by kernel_rfl) (by kernel_rfl) hQp (allIn (by repeat (first | exact trivial | refine ⟨rfl, ?_⟩))) (by first | exact Le.refl _ | assumption) (by rw [hnt]; rfl) rfl (fun _ => by simp) (quiet_op (by rw [hty]; first | rfl | (refine st_ ?_; rfl))) ?_; refine st_ ?_
    refine hf_take 9 rfl rfl (by repeat (first | exact aok_nil | refine aok_cons ⟨_, _, _, _, rfl, (by rw [hty]; rfl), rfl, (by rw [hnt]; decide), by omega⟩ ?_)) (by repeat (first | exact oA_nil | refine oA_cons rfl ?_)) (by repeat (first | exact nD_nil | refine nD_cons rfl ?_)) (by kernel_rfl) (by kernel_rfl) hQp (allIn (by repeat (first | exact trivial | refine ⟨rfl, ?_⟩))) (by first | exact Le.refl _ | assumption) (by rw [hnt]; rfl) rfl (fun _ => by simp) (quiet_op (by rw [hty]; first | rfl | (refine st_ ?_; rfl))) ?_; refine st_ ?_
    refine hf_take 10 rfl rfl (by repeat (first | exact aok_nil | refine aok_cons ⟨_, _, _, _, rfl, (by rw [hty]; rfl), rfl, (by rw [hnt]; decide), by omega⟩ ?_)) (by repeat (first | exact oA_nil | refine oA_cons rfl ?_)) (by repeat (first | exact nD_nil | refine nD_cons rfl ?_)) (by kernel_rfl) (by kernel_rfl) hQp (allIn (by repeat (first | exact trivial | refine ⟨rfl, ?_⟩))) (by first | exact Le.refl _ | assumption) (by rw [hnt]; rfl) rfl (fun _ => by simp) (quiet_op (by rw [hty]; first | rfl | (refine st_ ?_; rfl))) ?_; refine st_ ?_
    refine hf_flush rfl (by repeat (first | exact aok_nil | refine aok_cons ⟨_, _, _, _, rfl, (by rw [hty]; rfl), rfl, (by rw [hnt]; decide), by omega⟩ ?_)) (by kernel_rfl) (by repeat (first | exact oA_nil | refine oA_cons rfl ?_)) (by kernel_rfl) (allIn (by repeat (first | exact trivial | refine ⟨rfl, ?_⟩))) (by first | exact Le.refl _ | assumption) ?_; intro bs m hm; obtain ⟨m, rfl⟩ : ∃ m', m = m' + 3 := ⟨m - 3, by omega⟩; simp only [addS, addO, List.contains_nil, Bool.false_eq_true, if_false]; refine st_ ?_
    refine h_one 13 rfl (by kernel_rfl) ?_
    refine rn_ ?_; intros
    refine h_hs (allIn (by repeat (first | exact trivial | refine ⟨rfl, ?_⟩))) (by first | exact Le.refl _ | assumption) ?_
    refine h_one 14 rfl (by kernel_rfl) ?_
    refine rn_ ?_; intros
    refine h_hs (allIn (by repeat (first | exact trivial | refine ⟨rfl, ?_⟩))) (by first | exact Le.refl _ | assumption) ?_
    refine h_one 15 rfl (by kernel_rfl) ?_
    refine rn_ ?_; intros
    refine h_hs (allIn (by repeat (first | exact trivial | refine ⟨rfl, ?_⟩))) (by first | exact Le.refl _ | assumption) ?_
    refine h_end (by kernel_rfl) ?_
    refine go_keep [0, 1, 4, 5, 6, 7, 8, 9, 10] [0, 41, 70, 71] ?_
    refine st_ ?_
    have hle12 := hle2
    have hle02 := hle1.trans hle2
    have hinv2 := inv_do hinv hrgk
    have hdo := do_vd (m := md) (o := l[k]) hinv.vd (rgt_vld hrgk).1 (rgt_vld hrgk).2
    have hd1 := hdo.lv
    have hd2 := hdo.lp
    generalize hr0 : doP md s l[k] = r at *
    refine rn_ ?_; intros
    refine x_draw rfl (by rw [hP]; kernel_rfl) rfl (by kernel_rfl) ?_
    refine runq 400 hty hnt ?_; refine st_ ?_
    cases hcan : r.2.2
    · (refine go_qsplit rfl rfl (fun _ => ?_) (fun hc => absurd hc (by simp)); refine st_ ?_; (try (refine runq 400 hty hnt ?_; refine st_ ?_)))
      repeat (refine q_gundef rfl (by rw [hnt]; rfl) rfl ?_; (refine st_ ?_; (try (refine runq 400 hty hnt ?_; refine st_ ?_))))
      refine q_end ?_; refine rn_ ?_; intros
      (try ((refine x_split rfl rfl rfl (fun _ => ?_) (fun hc => absurd hc (by first | decide +kernel | (simp; first | done | fail))); refine st_ ?_; (refine ru_ ?_; intros))))
      have hst : runP md ⟨[], []⟩ l = vs := by rw [hrun, List.drop_eq_getElem_cons hlt, runP_stop (by rw [hr0, hcan]; simp), List.append_nil]
      refine rn_ ?_; intros
      refine go_pubL rV 41 rfl (by omega) (ts := vs) hvl.symm (by omega) (Rp.L_mono hle12 hL) ?_
      intro G9 ad9 cap9 (hle9 : Le G2 G9) he9 hS9
      rw [← he9] at hS9
      refine st_ ?_
      refine rn_ ?_; intros
      refine x_retc rfl hQ hmb rfl (by rw [hty]; simp only [so, sq, zy, zz, tyE, SO', SQ', opQ, opStore, opAlloc, ev, putS, dOk, cv, SV.cs, SV.one, SV.bool?, eqB, Value.oneCell', ldOwn, binInt, binConst, binBool, binStr, isC, TK.agg, rv, rv1, ldV, resOne, resV, Nat.reduceAdd, Nat.reduceMul, Nat.reduceSub, Nat.reduceLT, Nat.reduceLeDiff, Nat.reduceEqDiff, Nat.reduceBEq, reduceIte, reduceCtorEq, eq_self]; try rfl) rfl ?_; simp only [SV.den, resV, dens]
      rw [hst]
      exact hS9
    (refine go_qsplit rfl rfl (fun hc => absurd hc (by simp)) (fun _ => ?_); refine st_ ?_; (try (refine runq 400 hty hnt ?_; refine st_ ?_)))
    refine q_q (by rw [hnt]; rfl) (quiet_index (by rw [hty]; rfl) (by rw [hty]; rfl) rfl rfl rfl (by omega) (by omega)) ?_; refine runq 400 hty hnt ?_; refine st_ ?_
    refine q_q (v := .bool l[k].dn) (by rw [hnt]; rfl) ((quiet_load (vs := [.bool l[k].dn]) (by rw [hty]; rfl) rfl (by simp [TK.agg]) (by simpa [opL] using (hat.mono hle02).sub 10 1 (by simp [opL])) rfl).cast (by rfl)) ?_
    refine runq 400 hty hnt ?_; refine st_ ?_
    cases hdn : l[k].dn
    · (refine go_qsplit rfl rfl (fun hc => absurd hc (by simp)) (fun _ => ?_); refine st_ ?_; (try (refine runq 400 hty hnt ?_; refine st_ ?_)))
      repeat (refine q_gundef rfl (by rw [hnt]; rfl) rfl ?_; (refine st_ ?_; (try (refine runq 400 hty hnt ?_; refine st_ ?_))))
      refine q_end ?_; refine rn_ ?_; intros
      have hst : runP md ⟨[], []⟩ l = (vs ++ [r.2.1]) ++ runP md r.1 (l.drop (k + 1)) := by
        rw [hrun, List.drop_eq_getElem_cons hlt, runP_step (by rw [hr0, hrgk, hcan]; exact ⟨rfl, rfl, fun _ => by first | exact hsm | (rename_i hh; rw [hdn] at hh; cases hh)⟩), hr0]
        simp
      refine go_append 41 (by rw [hnt]; rfl) (by rw [hty]; rfl) (by rw [hty]; rfl) (by decide) rfl rfl rfl (by omega) rfl (src_own 3 rfl rfl) rfl (by simp [dens, SV.den, Value.oneCell']) (by omega) (by simp only []; omega) ?_
      intro v'
      refine go_rowS 41 rfl ?_
      rintro ad4 cap4 rfl
      refine rn_ ?_; intros
      rw [wr (n := (k : Int) + 1) (by omega) (by omega)]
      refine go_keep [0, 1, 4, 5, 6, 7] [0, 41] ?_
      refine st_ ?_
      exact ih (l.length - (k + 1)) _ (by omega) ⟨k + 1, G2, r.1, vs ++ [r.2.1], _, a3, a4, ad4, c3, c4, cap4, by omega, rfl, hle02, hst, by simp [hvl], Rp.L_append (Rp.L_mono hle12 hL) (Rp.L_single ⟨_, rfl, hr1, hrb1⟩), hs1, hc1, hinv2, by omega, by omega, by simp [dens, SV.den]⟩
    (refine go_qsplit rfl rfl (fun _ => ?_) (fun hc => absurd hc (by simp)); refine st_ ?_; (try (refine runq 400 hty hnt ?_; refine st_ ?_)))
    refine q_q (by rw [hnt]; rfl) (quiet_index (by rw [hty]; rfl) (by rw [hty]; rfl) rfl rfl rfl (by omega) (by omega)) ?_; refine runq 400 hty hnt ?_; refine st_ ?_
    refine q_q (v := .agg #[.int .i64 l[k].res.k, .int .i64 l[k].res.n, .slice asr l[k].res.l.length csr]) (by rw [hnt]; rfl) ((quiet_load (by rw [hty]; rfl) rfl (fun q => by cases q) (by simpa using opAt5 (hat.mono hle02)) rfl).cast (by simp only [ldV]; rfl)) ?_
    refine runq 400 hty hnt ?_; refine st_ ?_
    refine q_callf (by rw [hnt]; rfl) (by rw [hP]; kernel_rfl) rfl (hP ▸ refSame_ok r.2.1 l[k].res _ _ _ hr1 (VT.rep_mono hle02 hor.r) (by omega) (by have h := hor.ok.br; omega)) ?_; refine runq 400 hty hnt ?_; refine st_ ?_
    refine q_end ?_; refine rn_ ?_; intros
    rw [show (sml r.2.1 && sml l[k].res && veq r.2.1 l[k].res) = vsm r.2.1 l[k].res from rfl]
    cases hsm : vsm r.2.1 l[k].res
    · (refine x_split rfl rfl rfl (fun _ => ?_) (fun hc => absurd hc (by first | decide +kernel | (simp; first | done | fail))); refine st_ ?_; (refine ru_ ?_; intros))
      have hst : runP md ⟨[], []⟩ l = vs := by rw [hrun, List.drop_eq_getElem_cons hlt, runP_stop (by rw [hr0, hdn, hsm]; simp), List.append_nil]
      refine rn_ ?_; intros
      refine go_pubL rV 41 rfl (by omega) (ts := vs) hvl.symm (by omega) (Rp.L_mono hle12 hL) ?_
      intro G9 ad9 cap9 (hle9 : Le G2 G9) he9 hS9
      rw [← he9] at hS9
      refine st_ ?_
      refine rn_ ?_; intros
      refine x_retc rfl hQ hmb rfl (by rw [hty]; simp only [so, sq, zy, zz, tyE, SO', SQ', opQ, opStore, opAlloc, ev, putS, dOk, cv, SV.cs, SV.one, SV.bool?, eqB, Value.oneCell', ldOwn, binInt, binConst, binBool, binStr, isC, TK.agg, rv, rv1, ldV, resOne, resV, Nat.reduceAdd, Nat.reduceMul, Nat.reduceSub, Nat.reduceLT, Nat.reduceLeDiff, Nat.reduceEqDiff, Nat.reduceBEq, reduceIte, reduceCtorEq, eq_self]; try rfl) rfl ?_; simp only [SV.den, resV, dens]
      rw [hst]
      exact hS9
    (refine x_split rfl rfl rfl (fun hc => absurd hc (by first | decide +kernel | (simp; first | done | fail))) (fun _ => ?_); refine st_ ?_; (refine ru_ ?_; intros))
    have hst : runP md ⟨[], []⟩ l = (vs ++ [r.2.1]) ++ runP md r.1 (l.drop (k + 1)) := by
      rw [hrun, List.drop_eq_getElem_cons hlt, runP_step (by rw [hr0, hrgk, hcan]; exact ⟨rfl, rfl, fun _ => by first | exact hsm | (rename_i hh; rw [hdn] at hh; cases hh)⟩), hr0]
      simp
    refine go_append 41 (by rw [hnt]; rfl) (by rw [hty]; rfl) (by rw [hty]; rfl) (by decide) rfl rfl rfl (by omega) rfl (src_own 3 rfl rfl) rfl (by simp [dens, SV.den, Value.oneCell']) (by omega) (by simp only []; omega) ?_
    intro v'
    refine go_rowS 41 rfl ?_
    rintro ad4 cap4 rfl
    refine rn_ ?_; intros
    rw [wr (n := (k : Int) + 1) (by omega) (by omega)]
    refine go_keep [0, 1, 4, 5, 6, 7] [0, 41] ?_
    refine st_ ?_
    exact ih (l.length - (k + 1)) _ (by omega) ⟨k + 1, G2, r.1, vs ++ [r.2.1], _, a3, a4, ad4, c3, c4, cap4, by omega, rfl, hle02, hst, by simp [hvl], Rp.L_append (Rp.L_mono hle12 hL) (Rp.L_single ⟨_, rfl, hr1, hrb1⟩), hs1, hc1, hinv2, by omega, by omega, by simp [dens, SV.den]⟩
  · have hge : k = l.length := by simp at hjl; omega
    subst hge
    rw [List.drop_length, runP, List.append_nil] at hrun
    clear ih hjl hq hk
    refine rn_ ?_; intros
    refine go_pubL rV 41 rfl (by omega) (ts := vs) hvl.symm (by omega) hL ?_
    intro G9 ad9 cap9 (hle9 : Le G1 G9) he9 hS9
    rw [← he9] at hS9
    refine st_ ?_
    refine rn_ ?_; intros
    refine x_retc rfl hQ hmb rfl (by rw [hty]; simp only [so, sq, zy, zz, tyE, SO', SQ', opQ, opStore, opAlloc, ev, putS, dOk, cv, SV.cs, SV.one, SV.bool?, eqB, Value.oneCell', ldOwn, binInt, binConst, binBool, binStr, isC, TK.agg, rv, rv1, ldV, resOne, resV, Nat.reduceAdd, Nat.reduceMul, Nat.reduceSub, Nat.reduceLT, Nat.reduceLeDiff, Nat.reduceEqDiff, Nat.reduceBEq, reduceIte, reduceCtorEq, eq_self]; try rfl) rfl ?_; simp only [SV.den, resV, dens]
    rw [hrun]
    exact hS9
end Go.Proofs.Ytpmmbjcgabnloaa
namespace Go.Sx
set_option linter.unusedSimpArgs false
set_option linter.unusedVariables false
open Go.RowKit
section
variable {F : Fence} {n : Nat} {P : Program} {Q : Exit → Act → World → Prop} {a : Act} {w : World} {b : Frame} {k : List Item} {cs : List Frame}
theorem stepR_scope {c : Code} : step P (lone (b.atR a (.code (.scope c) :: k)) cs w) = .next (lone (b.atR a (.code c :: .inScope c :: k)) cs w) :=
  step_lone_go (by simp [stepG, stepG.exec, Frame.atR])
theorem stepR_inScope {c : Code} : step P (lone (b.atR a (.inScope c :: k)) cs w) = .next (lone (b.atR a k) cs w) :=
  step_lone_go (by simp [stepG, stepG.exec, Frame.atR])
theorem wpIn_scope {c : Code} (h : c.wpIn F n P (Exit.noGoto Q) a w) : (Code.scope c).wpIn F n P Q a w := by
  intro b k cs hro hb hr
  have h0 : (lone (b.atR a (.code (.scope c) :: k)) cs w).fenced P F := fenced_calm hb hr rfl
  obtain ⟨e, a₁, w₁, hq, harr⟩ := h b (.inScope c :: k) cs hro hb hr
  cases e with
  | normal => exact ⟨.normal, a₁, w₁, hq, .head h0 stepR_scope (StepsIn.trans harr (.one (fenced_calm hb hr rfl) stepR_inScope))⟩
  | exit id =>
    have hx : exitTo id (.inScope c :: k) = exitTo id k := by simp [exitTo]
    exact ⟨.exit id, a₁, w₁, hq, fun k' hk => .head h0 stepR_scope (harr.1 k' (by rw [hx]; exact hk)),
      fun hr' hk => let ⟨k₁, h1, h2⟩ := harr.2 hr' (by rw [hx]; exact hk); ⟨k₁, h1, .head h0 stepR_scope h2⟩⟩
  | goto l => exact hq.elim
  | ret => exact ⟨_, a₁, w₁, hq, .of_steps (.one h0 stepR_scope) harr⟩
  | panic ch => exact ⟨_, a₁, w₁, hq, .of_steps (.one h0 stepR_scope) harr⟩
  | outgrown => exact ⟨_, a₁, w₁, hq, .of_steps (.one h0 stepR_scope) harr⟩
theorem wpK_goto {ro : Option Nat} {l : Nat} : ∀ (K : List KI) (a : Act) (w : World), wpK P ro Q K (.goto l) a w → Q (.goto l) a w
  | [], _, _, h => h
  | x :: K, a, w, h => by
    cases x <;> first | exact wpK_goto K a w h | exact h.elim
end
section
variable {C : Ctx} {K : List KI} {s : St} {k : Code}
theorem x_scope (ht : tag k = 11) (hq : ∀ l a w, ¬ C.Q (.goto l) a w) (h : SGo C (.code (c1 k) :: K) s) : SGo C (.code k :: K) s := by
  cases k <;> simp [tag] at ht
  · rename_i a b c; cases c <;> simp at ht
  · intro a w hS
    refine wpIn_scope (wpIn_mono (h a w hS) ?_)
    intro e a' w' he
    cases e <;> first | exact he | exact absurd (wpK_goto _ _ _ he) (hq _ _ _)
end
end Go.Sx
namespace Go.Proofs.Ytpmmbjcgabnloaa
set_option linter.unusedSimpArgs false
set_option linter.unusedVariables false
open Go.Sx
set_option maxHeartbeats 8000000
set_option maxRecDepth 20000
def encR (L : List VT) (k : Nat) (vs : List Value) (G : Hp) : Prop :=
  ∃ x ad cap, L[k]? = some x ∧ vs = [.int .i64 k, .agg #[.int .i64 x.k, .int .i64 x.n, .slice ad x.l.length cap]] ∧ x.rep G (.slice ad x.l.length cap)
theorem encR_mono (L : List VT) : ∀ k vs G G', Le G G' → encR L k vs G → encR L k vs G' := by
  rintro k vs G G' hle ⟨x, ad, cap, h1, h2, h3⟩
  exact ⟨x, ad, cap, h1, h2, VT.rep_mono hle h3⟩
theorem runs1_ok (L : List VT) (b : Nat) (sl : Value) (G : Hp) (hL : rV.S G L sl) (hs : ∀ x ∈ L, sml x = true) (hat : At G b 0 [sl]) : Iter Try.prog 57 [.pointer (some ⟨b, 0, none⟩)] G (encR L) L.length := by
  intro lp A B hy
  have h63 := Rp.S_len hL
  obtain ⟨adl, capl, rfl⟩ := Rp.S_slice hL
  refine enterZ ty tyok Try.func57 rfl Try.ntmps57 [.v (.func (.yield lp) #[] #[]), .v (.pointer (some ⟨b, 0, none⟩))] (by simp) ?_
  intro C Z M hP hQ hnt hty hmb hmh hro hG0; have hQp := qp_body hQ; refine st_ ?_
  have hy' : YOk C.P lp A B (encR L) L.length := by rw [hP]; exact hy
  refine x_scope rfl (by rw [hQ]; exact fun _ _ _ h => h) ?_
  refine rn_ ?_; intros
  refine go_q (by rw [hnt]; rfl) (quiet_load (by rw [hty]; rfl) rfl (by simp [TK.agg]) hat rfl) ?_
  refine rn_ ?_; intros
  refine go_keep [0, 5, 6, 7] [0] ?_
  refine st_ ?_
  refine x_loop rfl (fun q s => ∃ (j : Nat) (G' : Hp) (Z' M' : Nat → Prop), j ≤ L.length ∧ q = L.length - j ∧ Le G G' ∧
    s = ⟨[(0, .v (.func (.yield lp) #[] #[])), (5, .v (.slice adl L.length capl)), (6, .v (.int .i64 L.length)), (7, .v (.int .i64 j))], [(0, 0, .z (lim (A j) Z C.w0.heap.size) Z' M')], G', []⟩)
    ⟨0, G, Z, M, by omega, rfl, Le.refl _, rfl⟩ ?_
  rintro q s ⟨j, G1, Z1, M1, hj, hq, hle, rfl⟩ ih
  refine rn_ ?_; intros
  refine x_if rfl rfl rfl rfl (fun hjl => ?_) (fun hjl => ?_)
  · have hlt : j < L.length := by simp at hjl; omega
    obtain ⟨c1, o1, sl, rfl, hatx, hrx, hbx⟩ := rV_at hL (i := j) hlt
    obtain ⟨asl, csl, rfl⟩ := VT.rep_slice hrx
    refine rn_ ?_; intros
    refine go_q (by rw [hnt]; rfl) (quiet_index (by rw [hty]; rfl) (by rw [hty]; rfl) rfl rfl rfl (by omega) (by omega)) ?_
    refine go_q (by rw [hnt]; rfl) (quiet_load (by rw [hty]; rfl) rfl (by simp [TK.agg]) (hatx.mono hle) rfl) ?_
    refine rn_ ?_; intros
    refine go_call (by rw [hnt]; rfl) (by rw [hP]; kernel_rfl) rfl (hP ▸ copy_ok L[j] _ _ (VT.rep_mono hle hrx) (by omega)) ?_
    rintro v G2 (hle2 : Le G1 G2) hv0
    obtain ⟨hsm, hv0⟩ | ⟨hsm, _⟩ := hv0
    rotate_left
    · rw [hs _ (List.getElem_mem hlt)] at hsm; cases hsm
    obtain ⟨ad2, cap2, rfl, hr2⟩ := hv0
    have henc : encR L j [.int .i64 j, .agg #[.int .i64 L[j].k, .int .i64 L[j].n, .slice ad2 L[j].l.length cap2]] G2 := ⟨_, _, _, List.getElem?_eq_getElem hlt, rfl, hr2⟩
    refine rn_ ?_; intros
    refine go_yield 0 hy' (by rw [hnt]; rfl) rfl rfl rfl rfl hlt henc (fun Z2 M2 => ?_) (fun Z2 M2 => ?_)
    · refine rn_ ?_; intros
      repeat (first | (refine go_gsplit rfl rfl (fun hc => absurd hc (by first | decide +kernel | (simp; first | done | fail))) (fun _ => ?_); refine st_ ?_; (refine rn_ ?_; intros)) | (refine go_gsplit rfl rfl (fun _ => ?_) (fun hc => absurd hc (by first | decide +kernel | (simp; first | done | fail))); refine st_ ?_; (refine rn_ ?_; intros)) | (refine x_split rfl rfl rfl (fun hc => absurd hc (by first | decide +kernel | (simp; first | done | fail))) (fun _ => ?_); refine st_ ?_; (refine ru_ ?_; intros)) | (refine x_split rfl rfl rfl (fun _ => ?_) (fun hc => absurd hc (by first | decide +kernel | (simp; first | done | fail))); refine st_ ?_; (refine ru_ ?_; intros)))
      refine rn_ ?_; intros
      rw [wr (n := (j : Int) + 1) (by omega) (by omega)]
      refine go_keep [0, 5, 6, 7] [0] ?_
      refine st_ ?_
      exact ih (L.length - (j + 1)) _ (by omega) ⟨j + 1, G2, Z2, M2, by omega, rfl, hle.trans hle2, rfl⟩
    · refine rn_ ?_; intros
      repeat (first | (refine go_gsplit rfl rfl (fun hc => absurd hc (by first | decide +kernel | (simp; first | done | fail))) (fun _ => ?_); refine st_ ?_; (refine rn_ ?_; intros)) | (refine go_gsplit rfl rfl (fun _ => ?_) (fun hc => absurd hc (by first | decide +kernel | (simp; first | done | fail))); refine st_ ?_; (refine rn_ ?_; intros)) | (refine x_split rfl rfl rfl (fun hc => absurd hc (by first | decide +kernel | (simp; first | done | fail))) (fun _ => ?_); refine st_ ?_; (refine ru_ ?_; intros)) | (refine x_split rfl rfl rfl (fun _ => ?_) (fun hc => absurd hc (by first | decide +kernel | (simp; first | done | fail))); refine st_ ?_; (refine ru_ ?_; intros)))
      refine rn_ ?_; intros
      refine go_endZ hQ hmb hmh hG0 rfl (by rw [hty]; simp only [so, sq, zy, zz, tyE, SO', SQ', opQ, opStore, opAlloc, ev, putS, dOk, cv, SV.cs, SV.one, SV.bool?, eqB, Value.oneCell', ldOwn, binInt, binConst, binBool, binStr, isC, TK.agg, rv, rv1, ldV, resOne, resV, Nat.reduceAdd, Nat.reduceMul, Nat.reduceSub, Nat.reduceLT, Nat.reduceLeDiff, Nat.reduceEqDiff, Nat.reduceBEq, reduceIte, reduceCtorEq, eq_self]; try rfl) rfl rfl ?_
      exact .inr rfl
  · have hje : j = L.length := by simp at hjl; omega
    subst hje
    refine rn_ ?_; intros
    refine go_endZ hQ hmb hmh hG0 rfl (by rw [hty]; simp only [so, sq, zy, zz, tyE, SO', SQ', opQ, opStore, opAlloc, ev, putS, dOk, cv, SV.cs, SV.one, SV.bool?, eqB, Value.oneCell', ldOwn, binInt, binConst, binBool, binStr, isC, TK.agg, rv, rv1, ldV, resOne, resV, Nat.reduceAdd, Nat.reduceMul, Nat.reduceSub, Nat.reduceLT, Nat.reduceLeDiff, Nat.reduceEqDiff, Nat.reduceBEq, reduceIte, reduceCtorEq, eq_self]; try rfl) rfl rfl ?_
    exact .inl rfl
end Go.Proofs.Ytpmmbjcgabnloaa
namespace Go.Sx
set_option linter.unusedSimpArgs false
set_option linter.unusedVariables false
open Go.RowKit
section
variable {C : Ctx} {R : Array Oper} {d : Option Tmp} {t : TypeId} {pos : String} {aft : Array Edge} {K : List KI} {s : St}
theorem hu_twoL (i j : Nat) (own1 : List (Nat × Nat × OO)) {own0 : List (Nat × Nat × OO)} {G0 : Hp} {n p : Nat} {listed : Array Bool} {op op' : Op} {g g' : Option (Nat × Bool)} {d' : Option Tmp} {t' : TypeId} {pos' : String} {aft' : Array Edge} (hi : R[i]? = some ⟨d, op, t, pos, aft, g⟩) (hj : R[j]? = some ⟨d', op', t', pos', aft', g'⟩) (hr : Region.ready .any R listed = [i, j]) (hl : (listed.setIfInBounds j true).getD p true = true)
    (h : SGo C (.ops R [⟨d, op, t, pos, aft, g⟩] :: .hs (Hold C own0 G0) :: .hu (Hold C own0 G0) p R n (listed.setIfInBounds i true) :: K) s)
    (h' : SGo C (.ops R [⟨d', op', t', pos', aft', g'⟩] :: .h (Hold C own1 G0) R n (listed.setIfInBounds j true) :: K) s) : SGo C (.hu (Hold C own0 G0) p R (n + 1) listed :: K) s := by
  intro a w hS
  have h1 := h a w hS
  have h2 := h' a w hS
  show wpAnyHU _ _ _ _ _ _ _ _ _ _ _
  refine ⟨fun q => (by rw [hr] at q; cases q), fun q hq => ?_⟩
  rw [hr] at hq
  simp only [List.mem_cons, List.not_mem_nil, or_false] at hq
  rcases hq with rfl | rfl
  · exact hu_step hi (.inl rfl) h1
  · exact hu_step hj (.inr ⟨own1, rfl, hl⟩) h2
end
end Go.Sx
namespace Go.Proofs.Ytpmmbjcgabnloaa
set_option linter.unusedSimpArgs false
set_option linter.unusedVariables false
open Go.Sx
set_option maxHeartbeats 8000000
set_option maxRecDepth 20000
def itRet (L : List VT) (v : Value) (G : Hp) : Prop := ∃ f cap, v = .func (.func f) #[] cap.toArray ∧ canCall Try.prog f = true ∧ Iter Try.prog f cap G (encR L) L.length
theorem hRuns_ok (m : Int) (l : List Op) (sl : Value) (G : Hp) (hl : rO.S G l sl) (hn : l.length ≤ 100) : Pure Try.prog 30 [.int .i64 m, sl] G (itRet (runP m ⟨[], []⟩ l)) := by
  have hl63 := Rp.S_len hl
  obtain ⟨adl, capl, rfl⟩ := Rp.S_slice hl
  refine enterX ty tyok Try.func30 rfl Try.ntmps30 [.v (.int .i64 m), .v (.slice adl l.length capl)] (by simp) ?_
  intro C hP hQ hnt hty hmb hmh hro; have hQp := qp_body hQ; refine st_ ?_
  refine rn_ ?_; intros
  rename_i b0 b1
  refine go_call (by rw [hnt]; rfl) (by rw [hP]; kernel_rfl) rfl (hP ▸ effects_ok G) ?_
  rintro v G1 (hle1 : Le G G1) ⟨mp, rfl, hmp⟩
  refine rn_ ?_; intros
  rcases eff_of m with ⟨hk0, hg0⟩ | ⟨K, mo, pt, f, he⟩
  · refine go_q (v := .tuple #[.agg #[.int .i64 0, .int .i64 0, .bool false, .nilFunc], .bool false]) (by rw [hnt]; rfl) ((quiet_lookupG (ok := true) (z := .agg #[.int .i64 0, .int .i64 0, .bool false, .nilFunc]) (by rw [hty]; rfl) (by rw [hty]; rfl) (by rw [hP]; exact ⟨_, (by kernel_rfl : Try.prog.info? 89 = some Try.t89), rfl⟩) rfl rfl hmp).cast (by rw [hg0]; rfl)) ?_
    refine rn_ ?_; intros
    rename_i bf
    refine go_nilrow 41 28 3 rfl (by omega) ?_
    refine go_keep [1, 5, 6, 7, 8, 9] [0, 1, 2, 41] ?_
    refine st_ ?_
    refine x_loop rfl (fun q st => q = 0 ∧ st = ⟨[(1, .v (.slice adl l.length capl)), (5, .p 0 b0 0), (6, .p 1 b1 0), (7, .p 2 bf 0), (8, .v (.bool false)), (9, .v (.int .i64 0))],
      [(0, b0, .c 44 [.v (.slice none 0 0), .v (.slice none 0 0)]), (1, b1, .c 26 [.v (.slice none 0 0)]), (2, bf, .c 89 [.v (.int .i64 0), .v (.int .i64 0), .v (.bool false), .v .nilFunc]), (41, 0, .row (.slice none 0 0) 28 3 0 [])], G1, []⟩) ⟨rfl, rfl⟩ ?_
    rintro q st ⟨rfl, rfl⟩ ih
    refine rn_ ?_; intros
    repeat (first | (refine go_gsplit rfl rfl (fun hc => absurd hc (by first | decide +kernel | (simp; first | done | fail))) (fun _ => ?_); refine st_ ?_; (refine rn_ ?_; intros)) | (refine go_gsplit rfl rfl (fun _ => ?_) (fun hc => absurd hc (by first | decide +kernel | (simp; first | done | fail))); refine st_ ?_; (refine rn_ ?_; intros)) | (refine x_split rfl rfl rfl (fun hc => absurd hc (by first | decide +kernel | (simp; first | done | fail))) (fun _ => ?_); refine st_ ?_; (refine ru_ ?_; intros)) | (refine x_split rfl rfl rfl (fun _ => ?_) (fun hc => absurd hc (by first | decide +kernel | (simp; first | done | fail))); refine st_ ?_; (refine ru_ ?_; intros)))
    repeat (refine go_gundef rfl (by rw [hnt]; rfl) rfl ?_; (refine st_ ?_; (refine rn_ ?_; intros)))
    refine rn_ ?_; intros
    have hst : runP m ⟨[], []⟩ l = [] := by
      cases l with
      | nil => rfl
      | cons o r => exact runP_stop (fun h => by rw [kns0_rgt hk0] at h; cases h.1)
    obtain ⟨vs, hvs⟩ : ∃ vs : List VT, vs = [] := ⟨_, rfl⟩
    have hvl : vs.length = 0 := by rw [hvs]; rfl
    have hL : rV.L G1 vs [] := by rw [hvs]; rfl
    have hsmv : ∀ x ∈ vs, sml x = true := by rw [hvs]; intro x h; cases h
    have hst : runP m ⟨[], []⟩ l = vs := by rw [hst, hvs]
    refine rn_ ?_; intros
    refine go_pubL rV 41 rfl (by omega) (ts := vs) hvl.symm (by omega) (Rp.L_mono (Le.refl _) hL) ?_
    intro G8 ad8 cap8 (hle8 : Le G1 G8) he8 hS8
    rw [← he8] at hS8
    refine st_ ?_
    refine go_pub 1 rfl (by omega) ?_
    intro G9 (hle9 : Le G8 G9) hG9
    have hat9 := at_block hG9
    simp only [dens, SV.den] at hat9
    refine st_ ?_
    refine x_ret rfl hQ hmb (by rw [hty]; rfl) rfl ?_; simp only [SV.den, resV]
    refine ⟨57, [.pointer (some ⟨b1, 0, none⟩)], by simp [dens, SV.den], by kernel_rfl, ?_⟩
    rw [hst]
    exact runs1_ok vs b1 _ G9 (Rp.S_mono hle9 hS8) hsmv hat9
  · refine go_q (v := .tuple #[effV K mo pt f, .bool true]) (by rw [hnt]; rfl) ((quiet_lookupG (ok := true) (z := .agg #[.int .i64 0, .int .i64 0, .bool false, .nilFunc]) (by rw [hty]; rfl) (by rw [hty]; rfl) (by rw [hP]; exact ⟨_, (by kernel_rfl : Try.prog.info? 89 = some Try.t89), rfl⟩) rfl rfl hmp).cast (by rw [he.get]; rfl)) ?_
    simp only [effV]
    refine rn_ ?_; intros
    rename_i bf
    have hK := he.kn
    refine go_nilrow 41 28 3 rfl (by omega) ?_
    refine go_nilrow 61 28 3 rfl (by omega) ?_
    refine go_nilrow 62 55 4 rfl (by omega) ?_
    refine go_qrow (G0 := G) 61 rfl ?_
    intro Z0 bz0
    refine st_ ?_
    refine go_keep [1, 5, 6, 7, 8, 9] [0, 1, 2, 41, 61, 62] ?_
    refine st_ ?_
    refine x_loop rfl (fun q st => ∃ (k : Nat) (G' : Hp) (s : MS) (vs : List VT) (xs ys zs : List Value) (vv pv : Value) (ado : Option Addr) (capo : Nat) (bz : Nat) (Z : Nat → Prop) (bp bo : Nat), k ≤ l.length ∧ q = l.length - k ∧ Le G G' ∧ runP m ⟨[], []⟩ l = vs ++ runP m s (l.drop k) ∧ vs.length = k ∧ (∀ x ∈ vs, sml x = true) ∧ rV.L G' vs xs ∧ rV.L G' s.vals ys ∧ rPo.L G' s.ps zs ∧ s.inv m ∧ s.vals.length ≤ k ∧ s.ps.length ≤ k ∧
      st = ⟨[(1, .v (.slice adl l.length capl)), (5, .p 0 b0 0), (6, .p 1 b1 0), (7, .p 2 bf 0), (8, .v (.bool true)), (9, .v (.int .i64 k))],
        [(0, b0, .c 44 [.v vv, .v pv]), (1, b1, .c 26 [.v (.slice ado k capo)]), (2, bf, .c 89 [.v (.int .i64 K), .v (.int .i64 mo), .v (.bool pt), .v (.func (.func f) #[] #[])]),
         (41, bo, .row (.slice ado k capo) 28 3 k xs), (61, bz, .z (ZQ G 28 3 vv s.vals.length ys) Z Z), (62, bp, .row pv 55 4 s.ps.length zs)], G', []⟩)
      ⟨0, G1, ⟨[], []⟩, [], [], [], [], _, _, none, 0, _, _, _, _, by omega, rfl, hle1, rfl, rfl, fun x h => (by cases h), rfl, rfl, rfl, ⟨⟨fun x h => (by cases h), fun x h => (by cases h)⟩, fun x h => (by cases h), fun _ => rfl⟩, by simp, by simp, rfl⟩ ?_
    rintro q st ⟨k, G2, s, vs, xs, ys, zs, vv, pv, ado, capo, bz, Z, bp, bo, hk, hq, hle1, hrun, hvl, hsmv, hL, hLv, hLp, hinv, hsl, hspl, rfl⟩ ih
    refine rn_ ?_; intros
    repeat (first | (refine go_gsplit rfl rfl (fun hc => absurd hc (by first | decide +kernel | (simp; first | done | fail))) (fun _ => ?_); refine st_ ?_; (refine rn_ ?_; intros)) | (refine go_gsplit rfl rfl (fun _ => ?_) (fun hc => absurd hc (by first | decide +kernel | (simp; first | done | fail))); refine st_ ?_; (refine rn_ ?_; intros)) | (refine x_split rfl rfl rfl (fun hc => absurd hc (by first | decide +kernel | (simp; first | done | fail))) (fun _ => ?_); refine st_ ?_; (refine ru_ ?_; intros)) | (refine x_split rfl rfl rfl (fun _ => ?_) (fun hc => absurd hc (by first | decide +kernel | (simp; first | done | fail))); refine st_ ?_; (refine ru_ ?_; intros)))
    refine x_if rfl rfl rfl rfl (fun hjl => ?_) (fun hjl => ?_)
    · have hlt : k < l.length := by simp at hjl; omega
      obtain ⟨c1, o1, sa, sr, rfl, hat, hor⟩ := rO_at hl hlt
      obtain ⟨asa, csa, rfl⟩ := VT.rep_slice hor.a
      obtain ⟨asr, csr, rfl⟩ := VT.rep_slice hor.r
      refine rn_ ?_; intros
      refine x_held [(2, bf, .c 89 [.v (.int .i64 K), .v (.int .i64 mo), .v (.bool pt), .v (.func (.func f) #[] #[])])] rfl (by rw [hP]; kernel_rfl) rfl rfl rfl ?_; refine st_ ?_
      refine h_take 0 rfl (by kernel_rfl) (by kernel_rfl) (by kernel_rfl) hQp (by rw [hnt]; rfl) (allIn (by repeat (first | exact trivial | refine ⟨rfl, ?_⟩))) (by first | exact Le.refl _ | assumption) (quiet_op (by rw [hty]; first | rfl | (refine st_ ?_; rfl))) ?_; refine st_ ?_
      refine h_take 1 rfl (by kernel_rfl) (by kernel_rfl) (by kernel_rfl) hQp (by rw [hnt]; rfl) (allIn (by repeat (first | exact trivial | refine ⟨rfl, ?_⟩))) (by first | exact Le.refl _ | assumption) (quiet_op (by rw [hty]; first | rfl | (refine st_ ?_; rfl))) ?_; refine st_ ?_
      refine h_take 2 rfl (by kernel_rfl) (by kernel_rfl) (by kernel_rfl) hQp (by rw [hnt]; rfl) (allIn (by repeat (first | exact trivial | refine ⟨rfl, ?_⟩))) (by first | exact Le.refl _ | assumption) (quiet_op (by rw [hty]; first | rfl | (refine st_ ?_; rfl))) ?_; refine st_ ?_
      refine h_take 3 rfl (by kernel_rfl) (by kernel_rfl) (by kernel_rfl) hQp (by rw [hnt]; rfl) (allIn (by repeat (first | exact trivial | refine ⟨rfl, ?_⟩))) (by first | exact Le.refl _ | assumption) (quiet_op (by rw [hty]; first | rfl | (refine st_ ?_; rfl))) ?_; refine st_ ?_
      refine h_take 4 rfl (by kernel_rfl) (by kernel_rfl) (by kernel_rfl) hQp (by rw [hnt]; rfl) (allIn (by repeat (first | exact trivial | refine ⟨rfl, ?_⟩))) (by first | exact Le.refl _ | assumption) (x := .v (.pointer (some ⟨c1, o1 + k * 11, none⟩))) ((quiet_index (by rw [hty]; rfl) (by rw [hty]; rfl) rfl rfl rfl (by omega) (by omega)).cast (by simp [SV.den])) ?_
      refine st_ ?_
      refine h_take 5 rfl (by kernel_rfl) (by kernel_rfl) (by kernel_rfl) hQp (by rw [hnt]; rfl) (allIn (by repeat (first | exact trivial | refine ⟨rfl, ?_⟩))) (by first | exact Le.refl _ | assumption) (x := .a (opC l[k] (.slice asa l[k].arg.l.length csa) (.slice asr l[k].res.l.length csr))) ((quiet_load (by rw [hty]; rfl) rfl (fun q => by cases q) (hat.mono hle1) rfl).cast (by simp only [ldV, SV.den, dens]; rfl)) ?_
      simp only [opC]
      refine st_ ?_
      refine cut_tail 1 (fun s' => ∃ b3, s' = ⟨[(1, .v (.slice (some ⟨c1, o1, none⟩) l.length capl)), (5, .p 0 b0 0), (6, .p 1 b1 0), (7, .p 2 bf 0), (8, .v (.bool true)), (9, .v (.int .i64 k)), (10, .p 63 b3 0), (11, .v (.bool (rgtO K l[k])))],
        [(0, b0, .c 44 [.v vv, .v pv]), (1, b1, .c 26 [.v (.slice ado k capo)]), (2, bf, .c 89 [.v (.int .i64 K), .v (.int .i64 mo), .v (.bool pt), .v (.func (.func f) #[] #[])]),
         (41, bo, .row (.slice ado k capo) 28 3 k xs), (61, bz, .z (ZQ G 28 3 vv s.vals.length ys) Z Z), (62, bp, .row pv 55 4 s.ps.length zs), (63, b3, .c 28 [.v (.int .i64 0), .v (.int .i64 0), .v (.slice none 0 0)])], G2, []⟩) ?_ ?_
      rotate_left
      · intro key
        simp only [List.drop_succ_cons, List.drop_zero] at key
        refine h_two 6 7 rfl rfl (by kernel_rfl) ?_ ?_
        · refine go_callf (by rw [hnt]; rfl) (by rw [hP]; kernel_rfl) rfl (hP ▸ valid_ok2 K mo pt _ l[k] _ _ G2 rfl (hor.mono hle1)) ?_; refine rn_ ?_; intros
          refine h_hs (allIn (by repeat (first | exact trivial | refine ⟨rfl, ?_⟩))) (by first | exact Le.refl _ | assumption) ?_
          refine h_one 7 rfl (by kernel_rfl) ?_
          refine rn_ ?_; intros
          refine h_hs (allIn (by repeat (first | exact trivial | refine ⟨rfl, ?_⟩))) (by first | exact Le.refl _ | assumption) ?_
          refine h_one 8 rfl (by kernel_rfl) ?_
          refine rn_ ?_; intros
          refine h_hs (allIn (by repeat (first | exact trivial | refine ⟨rfl, ?_⟩))) (by first | exact Le.refl _ | assumption) ?_
          refine h_one 9 rfl (by kernel_rfl) ?_
          refine rn_ ?_; intros
          refine h_hs (allIn (by repeat (first | exact trivial | refine ⟨rfl, ?_⟩))) (by first | exact Le.refl _ | assumption) ?_
          refine h_end (by kernel_rfl) ?_
          refine go_keep [1, 5, 6, 7, 8, 9, 10, 11] [0, 1, 2, 41, 61, 62, 63] ?_
          refine st_ ?_
          exact key _ ⟨_, rfl⟩
        · refine rn_ ?_; intros
          refine h_hs (allIn (by repeat (first | exact trivial | refine ⟨rfl, ?_⟩))) (by first | exact Le.refl _ | assumption) ?_
          refine h_one 6 rfl (by kernel_rfl) ?_
          refine go_callf (by rw [hnt]; rfl) (by rw [hP]; kernel_rfl) rfl (hP ▸ valid_ok2 K mo pt _ l[k] _ _ G2 rfl (hor.mono hle1)) ?_; refine rn_ ?_; intros
          refine h_hs (allIn (by repeat (first | exact trivial | refine ⟨rfl, ?_⟩))) (by first | exact Le.refl _ | assumption) ?_
          refine h_one 8 rfl (by kernel_rfl) ?_
          refine rn_ ?_; intros
          refine h_hs (allIn (by repeat (first | exact trivial | refine ⟨rfl, ?_⟩))) (by first | exact Le.refl _ | assumption) ?_
          refine h_one 9 rfl (by kernel_rfl) ?_
          refine rn_ ?_; intros
          refine h_hs (allIn (by repeat (first | exact trivial | refine ⟨rfl, ?_⟩))) (by first | exact Le.refl _ | assumption) ?_
          refine h_end (by kernel_rfl) ?_
          refine go_keep [1, 5, 6, 7, 8, 9, 10, 11] [0, 1, 2, 41, 61, 62, 63] ?_
          refine st_ ?_
          exact key _ ⟨_, rfl⟩
      rintro s' ⟨b3, rfl⟩
      simp only [List.drop_succ_cons, List.drop_zero]
      refine rn_ ?_; intros
      cases hrgk : rgtO K l[k]
      · (refine x_split rfl rfl rfl (fun hc => absurd hc (by first | decide +kernel | (simp; first | done | fail))) (fun _ => ?_); refine st_ ?_; (refine ru_ ?_; intros))
        refine x_draw rfl (by rw [hP]; kernel_rfl) rfl (by kernel_rfl) ?_
        refine runq 400 hty hnt ?_; refine st_ ?_
        (refine go_qsplit rfl rfl (fun _ => ?_) (fun hc => absurd hc (by simp)); refine st_ ?_; (try (refine runq 400 hty hnt ?_; refine st_ ?_)))
        repeat (refine q_gundef rfl (by rw [hnt]; rfl) rfl ?_; (refine st_ ?_; (try (refine runq 400 hty hnt ?_; refine st_ ?_))))
        refine q_end ?_; refine rn_ ?_; intros
        (try ((refine x_split rfl rfl rfl (fun _ => ?_) (fun hc => absurd hc (by first | decide +kernel | (simp; first | done | fail))); refine st_ ?_; (refine ru_ ?_; intros))))
        have hst : runP m ⟨[], []⟩ l = vs := by rw [hrun, List.drop_eq_getElem_cons hlt, runP_stop (by rw [← hK, hrgk]; simp), List.append_nil]
        refine rn_ ?_; intros
        refine go_pubL rV 41 rfl (by omega) (ts := vs) hvl.symm (by omega) (Rp.L_mono (Le.refl _) hL) ?_
        intro G8 ad8 cap8 (hle8 : Le G2 G8) he8 hS8
        rw [← he8] at hS8
        refine st_ ?_
        refine go_pub 1 rfl (by omega) ?_
        intro G9 (hle9 : Le G8 G9) hG9
        have hat9 := at_block hG9
        simp only [dens, SV.den] at hat9
        refine st_ ?_
        refine x_ret rfl hQ hmb (by rw [hty]; rfl) rfl ?_; simp only [SV.den, resV]
        refine ⟨57, [.pointer (some ⟨b1, 0, none⟩)], by simp [dens, SV.den], by kernel_rfl, ?_⟩
        rw [hst]
        exact runs1_ok vs b1 _ G9 (Rp.S_mono hle9 hS8) hsmv hat9
      (refine x_split rfl rfl rfl (fun _ => ?_) (fun hc => absurd hc (by first | decide +kernel | (simp; first | done | fail))); refine st_ ?_; (refine ru_ ?_; intros))
      have hrgm : rgtO (kns m) l[k] = true := by rw [← hK]; exact hrgk
      refine x_held [(2, bf, .c 89 [.v (.int .i64 K), .v (.int .i64 mo), .v (.bool pt), .v (.func (.func f) #[] #[])])] rfl (by rw [hP]; kernel_rfl) rfl rfl rfl ?_; refine st_ ?_
      refine h_take 0 rfl (by kernel_rfl) (by kernel_rfl) (by kernel_rfl) hQp (by rw [hnt]; rfl) (allIn (by repeat (first | exact trivial | refine ⟨rfl, ?_⟩))) (by first | exact Le.refl _ | assumption) (quiet_op (by rw [hty]; first | rfl | (refine st_ ?_; rfl))) ?_; refine st_ ?_
      refine h_take 1 rfl (by kernel_rfl) (by kernel_rfl) (by kernel_rfl) hQp (by rw [hnt]; rfl) (allIn (by repeat (first | exact trivial | refine ⟨rfl, ?_⟩))) (by first | exact Le.refl _ | assumption) (quiet_op (by rw [hty]; first | rfl | (refine st_ ?_; rfl))) ?_; refine st_ ?_
      refine h_take 2 rfl (by kernel_rfl) (by kernel_rfl) (by kernel_rfl) hQp (by rw [hnt]; rfl) (allIn (by repeat (first | exact trivial | refine ⟨rfl, ?_⟩))) (by first | exact Le.refl _ | assumption) (quiet_op (by rw [hty]; first | rfl | (refine st_ ?_; rfl))) ?_; refine st_ ?_
      refine h_take 3 rfl (by kernel_rfl) (by kernel_rfl) (by kernel_rfl) hQp (by rw [hnt]; rfl) (allIn (by repeat (first | exact trivial | refine ⟨rfl, ?_⟩))) (by first | exact Le.refl _ | assumption) (quiet_op (by rw [hty]; first | rfl | (refine st_ ?_; rfl))) ?_; refine st_ ?_
      refine h_take 4 rfl (by kernel_rfl) (by kernel_rfl) (by kernel_rfl) hQp (by rw [hnt]; rfl) (allIn (by repeat (first | exact trivial | refine ⟨rfl, ?_⟩))) (by first | exact Le.refl _ | assumption) (x := .v (.pointer (some ⟨c1, o1 + k * 11, none⟩))) ((quiet_index (by rw [hty]; rfl) (by rw [hty]; rfl) rfl rfl rfl (by omega) (by omega)).cast (by simp [SV.den])) ?_
      refine st_ ?_
      refine h_take 5 rfl (by kernel_rfl) (by kernel_rfl) (by kernel_rfl) hQp (by rw [hnt]; rfl) (allIn (by repeat (first | exact trivial | refine ⟨rfl, ?_⟩))) (by first | exact Le.refl _ | assumption) (x := .a (opC l[k] (.slice asa l[k].arg.l.length csa) (.slice asr l[k].res.l.length csr))) ((quiet_load (by rw [hty]; rfl) rfl (fun q => by cases q) (hat.mono hle1) rfl).cast (by simp only [ldV, SV.den, dens]; rfl)) ?_
      simp only [opC]
      refine st_ ?_
      refine h_one 6 rfl (by kernel_rfl) ?_
      refine go_callWv [0, 61, 62] (f := f) (cap := []) (by rw [hnt]; rfl) (hP ▸ he.can) rfl rfl rfl rfl rfl (.inl (by intro k hk; omega)) (hP ▸ he.run s l[k] _ _ b0 _ G G2 hle1 ⟨_, _, bz, Z, bp, ys, zs, rfl, hLv, hLp, by omega, by omega⟩ (hor.mono hle1) (by omega) (by omega) hinv.wf) ?_
      rintro v G3 ow' (hle23 : Le G2 G3) ⟨slr, rfl, hrr, hrb, vv2, pv2, bz2, Z2, bp2, ys2, zs2, rfl, hL2, hM2, hn1, hn2⟩
      simp only [setO]
      refine st_ ?_
      obtain ⟨asr2, csr2, rfl⟩ := VT.rep_slice hrr
      refine rn_ ?_; intros
      refine h_hs (allIn (by repeat (first | exact trivial | refine ⟨rfl, ?_⟩))) (by first | exact Le.refl _ | assumption) ?_
      refine h_take 7 rfl (by kernel_rfl) (by kernel_rfl) (by kernel_rfl) hQp (by rw [hnt]; rfl) (allIn (by repeat (first | exact trivial | refine ⟨rfl, ?_⟩))) (by first | exact Le.refl _ | assumption) (quiet_op (by rw [hty]; first | rfl | (refine st_ ?_; rfl))) ?_; refine st_ ?_
      refine h_take 8 rfl (by kernel_rfl) (by kernel_rfl) (by kernel_rfl) hQp (by rw [hnt]; rfl) (allIn (by repeat (first | exact trivial | refine ⟨rfl, ?_⟩))) (by first | exact Le.refl _ | assumption) (quiet_op (by rw [hty]; first | rfl | (refine st_ ?_; rfl))) ?_; refine st_ ?_
      refine h_take 9 rfl (by kernel_rfl) (by kernel_rfl) (by kernel_rfl) hQp (by rw [hnt]; rfl) (allIn (by repeat (first | exact trivial | refine ⟨rfl, ?_⟩))) (by first | exact Le.refl _ | assumption) (quiet_op (by rw [hty]; first | rfl | (refine st_ ?_; rfl))) ?_; refine st_ ?_
      refine h_one 10 rfl (by kernel_rfl) ?_
      refine rn_ ?_; intros
      refine h_hs (allIn (by repeat (first | exact trivial | refine ⟨rfl, ?_⟩))) (by first | exact Le.refl _ | assumption) ?_
      refine h_one 11 rfl (by kernel_rfl) ?_
      refine rn_ ?_; intros
      refine h_hs (allIn (by repeat (first | exact trivial | refine ⟨rfl, ?_⟩))) (by first | exact Le.refl _ | assumption) ?_
      refine h_end (by kernel_rfl) ?_
      refine go_keep [1, 5, 6, 7, 8, 9, 10, 11] [0, 1, 2, 41, 61, 62, 63] ?_
      refine st_ ?_
      have hinv2 := inv_do hinv hrgm
      have hdo := do_vd (m := m) (o := l[k]) hinv.vd (rgt_vld hrgm).1 (rgt_vld hrgm).2
      have hd1 := hdo.lv
      have hd2 := hdo.lp
      generalize hr0 : doP m s l[k] = r at *
      have hle03 := hle1.trans hle23
      refine rn_ ?_; intros
      refine x_draw rfl (by rw [hP]; kernel_rfl) rfl (by kernel_rfl) ?_
      refine runq 400 hty hnt ?_; refine st_ ?_
      cases hcan : r.2.2
      · (refine go_qsplit rfl rfl (fun _ => ?_) (fun hc => absurd hc (by simp)); refine st_ ?_; (try (refine runq 400 hty hnt ?_; refine st_ ?_)))
        repeat (refine q_gundef rfl (by rw [hnt]; rfl) rfl ?_; (refine st_ ?_; (try (refine runq 400 hty hnt ?_; refine st_ ?_))))
        refine q_end ?_; refine rn_ ?_; intros
        (try ((refine x_split rfl rfl rfl (fun _ => ?_) (fun hc => absurd hc (by first | decide +kernel | (simp; first | done | fail))); refine st_ ?_; (refine ru_ ?_; intros))))
        have hst : runP m ⟨[], []⟩ l = vs := by rw [hrun, List.drop_eq_getElem_cons hlt, runP_stop (by rw [hr0, hcan]; simp), List.append_nil]
        refine rn_ ?_; intros
        refine go_pubL rV 41 rfl (by omega) (ts := vs) hvl.symm (by omega) (Rp.L_mono hle23 hL) ?_
        intro G8 ad8 cap8 (hle8 : Le G3 G8) he8 hS8
        rw [← he8] at hS8
        refine st_ ?_
        refine go_pub 1 rfl (by omega) ?_
        intro G9 (hle9 : Le G8 G9) hG9
        have hat9 := at_block hG9
        simp only [dens, SV.den] at hat9
        refine st_ ?_
        refine x_ret rfl hQ hmb (by rw [hty]; rfl) rfl ?_; simp only [SV.den, resV]
        refine ⟨57, [.pointer (some ⟨b1, 0, none⟩)], by simp [dens, SV.den], by kernel_rfl, ?_⟩
        rw [hst]
        exact runs1_ok vs b1 _ G9 (Rp.S_mono hle9 hS8) hsmv hat9
      (refine go_qsplit rfl rfl (fun hc => absurd hc (by simp)) (fun _ => ?_); refine st_ ?_; (try (refine runq 400 hty hnt ?_; refine st_ ?_)))
      refine q_q (by rw [hnt]; rfl) (quiet_index (by rw [hty]; rfl) (by rw [hty]; rfl) rfl rfl rfl (by omega) (by omega)) ?_; refine runq 400 hty hnt ?_; refine st_ ?_
      refine q_q (v := .bool l[k].dn) (by rw [hnt]; rfl) ((quiet_load (vs := [.bool l[k].dn]) (by rw [hty]; rfl) rfl (by simp [TK.agg]) (by simpa [opL] using (hat.mono hle03).sub 10 1 (by simp [opL])) rfl).cast (by rfl)) ?_
      refine runq 400 hty hnt ?_; refine st_ ?_
      cases hdn : l[k].dn
      · (refine go_qsplit rfl rfl (fun hc => absurd hc (by simp)) (fun _ => ?_); refine st_ ?_; (try (refine runq 400 hty hnt ?_; refine st_ ?_)))
        repeat (refine q_gundef rfl (by rw [hnt]; rfl) rfl ?_; (refine st_ ?_; (try (refine runq 400 hty hnt ?_; refine st_ ?_))))
        refine q_end ?_; refine rn_ ?_; intros
        (try ((refine x_split rfl rfl rfl (fun hc => absurd hc (by first | decide +kernel | (simp; first | done | fail))) (fun _ => ?_); refine st_ ?_; (refine ru_ ?_; intros))))
        have hst : runP m ⟨[], []⟩ l = (vs ++ [r.2.1]) ++ runP m r.1 (l.drop (k + 1)) := by
          rw [hrun, List.drop_eq_getElem_cons hlt, runP_step (by rw [hr0, hrgm, hcan]; exact ⟨rfl, rfl, fun _ => by first | exact hsm | (rename_i hh; rw [hdn] at hh; cases hh)⟩), hr0]
          simp
        refine go_keep [1, 5, 6, 7, 8, 9, 10] [0, 1, 2, 41, 61, 62, 63] ?_
        refine st_ ?_
        refine rn_ ?_; intros
        refine x_heldP [(1, b1, .c 26 [.v (.slice ado k capo)]), (63, b3, .c 28 [.v (.int .i64 r.2.1.k), .v (.int .i64 r.2.1.n), .v (.slice asr2 r.2.1.l.length csr2)])] 8 rfl (by rw [hP]; kernel_rfl) rfl rfl rfl ?_
        refine st_ ?_
        refine hu_take 0 rfl (by kernel_rfl) (by kernel_rfl) (by kernel_rfl) (by kernel_rfl) rfl (fun c a w v => hQp c a w _ v) (by rw [hnt]; rfl) (allIn (by repeat (first | exact trivial | refine ⟨rfl, ?_⟩))) (by first | exact Le.refl _ | assumption) (quiet_op (by rw [hty]; first | rfl | (refine st_ ?_; rfl))) ?_; refine st_ ?_
        refine hu_take 1 rfl (by kernel_rfl) (by kernel_rfl) (by kernel_rfl) (by kernel_rfl) rfl (fun c a w v => hQp c a w _ v) (by rw [hnt]; rfl) (allIn (by repeat (first | exact trivial | refine ⟨rfl, ?_⟩))) (by first | exact Le.refl _ | assumption) (quiet_op (by rw [hty]; first | rfl | (refine st_ ?_; rfl))) ?_; refine st_ ?_
        refine hu_take 3 rfl (by kernel_rfl) (by kernel_rfl) (by kernel_rfl) (by kernel_rfl) rfl (fun c a w v => hQp c a w _ v) (by rw [hnt]; rfl) (allIn (by repeat (first | exact trivial | refine ⟨rfl, ?_⟩))) (by first | exact Le.refl _ | assumption) (quiet_op (by rw [hty]; first | rfl | (refine st_ ?_; rfl))) ?_; refine st_ ?_
        refine hu_two 2 4 rfl rfl (by kernel_rfl) ?_ ?_
        · refine go_call (by rw [hnt]; rfl) (by rw [hP]; kernel_rfl) rfl (hP ▸ copy_ok r.2.1 _ _ hrr (by omega)) ?_
          rintro v G4 (hle34 : Le G3 G4) hv0
          obtain ⟨_, hv0⟩ | ⟨hsm3, _⟩ := hv0
          rotate_left
          · rw [hdo.sm] at hsm3; cases hsm3
          obtain ⟨sl3, rfl, hr3⟩ := copied_cells hv0
          clear hv0
          obtain ⟨asl3, csl3, rfl⟩ := VT.rep_slice hr3
          refine rn_ ?_; intros
          refine h_hs (allIn (by repeat (first | exact trivial | refine ⟨rfl, ?_⟩))) (by first | exact Le.refl _ | assumption) ?_
          refine hu_one 4 rfl (by kernel_rfl) ?_
          refine rn_ ?_; intros
          refine h_hs (allIn (by repeat (first | exact trivial | refine ⟨rfl, ?_⟩))) (by first | exact Le.refl _ | assumption) ?_
          refine hu_one 5 rfl (by kernel_rfl) ?_
          refine go_append 41 (by rw [hnt]; rfl) (by rw [hty]; rfl) (by rw [hty]; rfl) (by decide) rfl rfl rfl (by omega) rfl (src_own 3 rfl rfl) rfl (by simp [dens, SV.den, Value.oneCell']) (by omega) (by simp only []; omega) ?_
          intro v'
          refine go_rowS 41 rfl ?_
          rintro ad4 cap4 rfl
          refine go_rowcases 41 rfl (fun _ h0 _ => by omega) ?_
          intro g capg hv' hcv hxl2
          cases hv'
          refine rn_ ?_; intros
          refine h_hs (allIn (by repeat (first | exact trivial | refine ⟨rfl, ?_⟩))) (by first | exact Le.refl _ | assumption) ?_
          have hxk : xs.length = k * 3 := by have := Rp.L_len hL; rw [hvl] at this; exact this
          have hlay : lay (xs ++ [.int .i64 0, .int .i64 0, .slice none 0 0]) (k * 3) [.int .i64 r.2.1.k, .int .i64 r.2.1.n, .slice asl3 r.2.1.l.length csl3] = some (xs ++ [.int .i64 r.2.1.k, .int .i64 r.2.1.n, .slice asl3 r.2.1.l.length csl3]) := by
            have := lay_at xs [.int .i64 0, .int .i64 0, .slice none 0 0] [.int .i64 r.2.1.k, .int .i64 r.2.1.n, .slice asl3 r.2.1.l.length csl3] [] rfl
            rw [hxk] at this
            simpa using this
          refine hu_twoL 6 8 [] rfl rfl (by kernel_rfl) rfl ?_ ?_
          · refine go_q (v := .pointer (some ⟨g, k * 3, none⟩)) (by rw [hnt]; rfl) ((quiet_index (by rw [hty]; rfl) (by rw [hty]; rfl) rfl rfl rfl (by omega) (by omega)).cast (by simp [SV.den])) ?_
            refine rn_ ?_; intros
            refine h_hs (allIn (by repeat (first | exact trivial | refine ⟨rfl, ?_⟩))) (by first | exact Le.refl _ | assumption) ?_
            refine hu_twoL 7 8 [] rfl rfl (by kernel_rfl) rfl ?_ ?_
            · refine go_storeR 41 rfl (by rw [hty]; rfl) rfl rfl rfl rfl rfl rfl hlay ?_
              refine rn_ ?_; intros
              refine h_hs (allIn (by repeat (first | exact trivial | refine ⟨rfl, ?_⟩))) (by first | exact Le.refl _ | assumption) ?_
              refine hu_last 8 [] rfl (by kernel_rfl) rfl ?_
              refine rn_ ?_; intros
              refine h_end (by kernel_rfl) ?_
              refine rn_ ?_; intros
              rw [wr (n := (k : Int) + 1) (by omega) (by omega)]
              refine go_keep [1, 5, 6, 7, 8, 9] [0, 1, 2, 41, 61, 62] ?_
              refine st_ ?_
              exact ih (l.length - (k + 1)) _ (by omega) ⟨k + 1, G4, r.1, vs ++ [r.2.1], _, _, _, _, _, _, _, _, _, _, _, by omega, rfl, hle03.trans hle34, hst, by simp [hvl], fun x hx => (by
                rcases List.mem_append.1 hx with hx | hx
                · exact hsmv x hx
                · simp at hx; subst hx; exact hdo.sm), Rp.L_append (Rp.L_mono (hle23.trans hle34) hL) (Rp.L_single ⟨_, rfl, hr3, hrb⟩), Rp.L_mono hle34 hL2, Rp.L_mono hle34 hM2, hinv2, by omega, by omega, rfl⟩
            · refine rn_ ?_; intros
              refine h_one 7 rfl (by kernel_rfl) ?_
              refine go_storeR 41 rfl (by rw [hty]; rfl) rfl rfl rfl rfl rfl rfl hlay ?_
              refine rn_ ?_; intros
              refine h_hs (allIn (by repeat (first | exact trivial | refine ⟨rfl, ?_⟩))) (by first | exact Le.refl _ | assumption) ?_
              refine h_end (by kernel_rfl) ?_
              refine rn_ ?_; intros
              rw [wr (n := (k : Int) + 1) (by omega) (by omega)]
              refine go_keep [1, 5, 6, 7, 8, 9] [0, 1, 2, 41, 61, 62] ?_
              refine st_ ?_
              exact ih (l.length - (k + 1)) _ (by omega) ⟨k + 1, G4, r.1, vs ++ [r.2.1], _, _, _, _, _, _, _, _, _, _, _, by omega, rfl, hle03.trans hle34, hst, by simp [hvl], fun x hx => (by
                rcases List.mem_append.1 hx with hx | hx
                · exact hsmv x hx
                · simp at hx; subst hx; exact hdo.sm), Rp.L_append (Rp.L_mono (hle23.trans hle34) hL) (Rp.L_single ⟨_, rfl, hr3, hrb⟩), Rp.L_mono hle34 hL2, Rp.L_mono hle34 hM2, hinv2, by omega, by omega, rfl⟩
          · refine rn_ ?_; intros
            refine h_one 6 rfl (by kernel_rfl) ?_
            refine go_q (v := .pointer (some ⟨g, k * 3, none⟩)) (by rw [hnt]; rfl) ((quiet_index (by rw [hty]; rfl) (by rw [hty]; rfl) rfl rfl rfl (by omega) (by omega)).cast (by simp [SV.den])) ?_
            refine rn_ ?_; intros
            refine h_hs (allIn (by repeat (first | exact trivial | refine ⟨rfl, ?_⟩))) (by first | exact Le.refl _ | assumption) ?_
            refine h_one 7 rfl (by kernel_rfl) ?_
            refine go_storeR 41 rfl (by rw [hty]; rfl) rfl rfl rfl rfl rfl rfl hlay ?_
            refine rn_ ?_; intros
            refine h_hs (allIn (by repeat (first | exact trivial | refine ⟨rfl, ?_⟩))) (by first | exact Le.refl _ | assumption) ?_
            refine h_end (by kernel_rfl) ?_
            refine rn_ ?_; intros
            rw [wr (n := (k : Int) + 1) (by omega) (by omega)]
            refine go_keep [1, 5, 6, 7, 8, 9] [0, 1, 2, 41, 61, 62] ?_
            refine st_ ?_
            exact ih (l.length - (k + 1)) _ (by omega) ⟨k + 1, G4, r.1, vs ++ [r.2.1], _, _, _, _, _, _, _, _, _, _, _, by omega, rfl, hle03.trans hle34, hst, by simp [hvl], fun x hx => (by
              rcases List.mem_append.1 hx with hx | hx
              · exact hsmv x hx
              · simp at hx; subst hx; exact hdo.sm), Rp.L_append (Rp.L_mono (hle23.trans hle34) hL) (Rp.L_single ⟨_, rfl, hr3, hrb⟩), Rp.L_mono hle34 hL2, Rp.L_mono hle34 hM2, hinv2, by omega, by omega, rfl⟩
        · refine rn_ ?_; intros
          refine h_hs (allIn (by repeat (first | exact trivial | refine ⟨rfl, ?_⟩))) (by first | exact Le.refl _ | assumption) ?_
          refine hu_one 2 rfl (by kernel_rfl) ?_
          refine go_call (by rw [hnt]; rfl) (by rw [hP]; kernel_rfl) rfl (hP ▸ copy_ok r.2.1 _ _ hrr (by omega)) ?_
          rintro v G4 (hle34 : Le G3 G4) hv0
          obtain ⟨_, hv0⟩ | ⟨hsm3, _⟩ := hv0
          rotate_left
          · rw [hdo.sm] at hsm3; cases hsm3
          obtain ⟨sl3, rfl, hr3⟩ := copied_cells hv0
          clear hv0
          obtain ⟨asl3, csl3, rfl⟩ := VT.rep_slice hr3
          refine rn_ ?_; intros
          refine h_hs (allIn (by repeat (first | exact trivial | refine ⟨rfl, ?_⟩))) (by first | exact Le.refl _ | assumption) ?_
          refine hu_one 5 rfl (by kernel_rfl) ?_
          refine go_append 41 (by rw [hnt]; rfl) (by rw [hty]; rfl) (by rw [hty]; rfl) (by decide) rfl rfl rfl (by omega) rfl (src_own 3 rfl rfl) rfl (by simp [dens, SV.den, Value.oneCell']) (by omega) (by simp only []; omega) ?_
          intro v'
          refine go_rowS 41 rfl ?_
          rintro ad4 cap4 rfl
          refine go_rowcases 41 rfl (fun _ h0 _ => by omega) ?_
          intro g capg hv' hcv hxl2
          cases hv'
          refine rn_ ?_; intros
          refine h_hs (allIn (by repeat (first | exact trivial | refine ⟨rfl, ?_⟩))) (by first | exact Le.refl _ | assumption) ?_
          have hxk : xs.length = k * 3 := by have := Rp.L_len hL; rw [hvl] at this; exact this
          have hlay : lay (xs ++ [.int .i64 0, .int .i64 0, .slice none 0 0]) (k * 3) [.int .i64 r.2.1.k, .int .i64 r.2.1.n, .slice asl3 r.2.1.l.length csl3] = some (xs ++ [.int .i64 r.2.1.k, .int .i64 r.2.1.n, .slice asl3 r.2.1.l.length csl3]) := by
            have := lay_at xs [.int .i64 0, .int .i64 0, .slice none 0 0] [.int .i64 r.2.1.k, .int .i64 r.2.1.n, .slice asl3 r.2.1.l.length csl3] [] rfl
            rw [hxk] at this
            simpa using this
          refine hu_twoL 6 8 [] rfl rfl (by kernel_rfl) rfl ?_ ?_
          · refine go_q (v := .pointer (some ⟨g, k * 3, none⟩)) (by rw [hnt]; rfl) ((quiet_index (by rw [hty]; rfl) (by rw [hty]; rfl) rfl rfl rfl (by omega) (by omega)).cast (by simp [SV.den])) ?_
            refine rn_ ?_; intros
            refine h_hs (allIn (by repeat (first | exact trivial | refine ⟨rfl, ?_⟩))) (by first | exact Le.refl _ | assumption) ?_
            refine hu_twoL 7 8 [] rfl rfl (by kernel_rfl) rfl ?_ ?_
            · refine go_storeR 41 rfl (by rw [hty]; rfl) rfl rfl rfl rfl rfl rfl hlay ?_
              refine rn_ ?_; intros
              refine h_hs (allIn (by repeat (first | exact trivial | refine ⟨rfl, ?_⟩))) (by first | exact Le.refl _ | assumption) ?_
              refine hu_last 8 [] rfl (by kernel_rfl) rfl ?_
              refine rn_ ?_; intros
              refine h_end (by kernel_rfl) ?_
              refine rn_ ?_; intros
              rw [wr (n := (k : Int) + 1) (by omega) (by omega)]
              refine go_keep [1, 5, 6, 7, 8, 9] [0, 1, 2, 41, 61, 62] ?_
              refine st_ ?_
              exact ih (l.length - (k + 1)) _ (by omega) ⟨k + 1, G4, r.1, vs ++ [r.2.1], _, _, _, _, _, _, _, _, _, _, _, by omega, rfl, hle03.trans hle34, hst, by simp [hvl], fun x hx => (by
                rcases List.mem_append.1 hx with hx | hx
                · exact hsmv x hx
                · simp at hx; subst hx; exact hdo.sm), Rp.L_append (Rp.L_mono (hle23.trans hle34) hL) (Rp.L_single ⟨_, rfl, hr3, hrb⟩), Rp.L_mono hle34 hL2, Rp.L_mono hle34 hM2, hinv2, by omega, by omega, rfl⟩
            · refine rn_ ?_; intros
              refine h_one 7 rfl (by kernel_rfl) ?_
              refine go_storeR 41 rfl (by rw [hty]; rfl) rfl rfl rfl rfl rfl rfl hlay ?_
              refine rn_ ?_; intros
              refine h_hs (allIn (by repeat (first | exact trivial | refine ⟨rfl, ?_⟩))) (by first | exact Le.refl _ | assumption) ?_
              refine h_end (by kernel_rfl) ?_
              refine rn_ ?_; intros
              rw [wr (n := (k : Int) + 1) (by omega) (by omega)]
              refine go_keep [1, 5, 6, 7, 8, 9] [0, 1, 2, 41, 61, 62] ?_
              refine st_ ?_
              exact ih (l.length - (k + 1)) _ (by omega) ⟨k + 1, G4, r.1, vs ++ [r.2.1], _, _, _, _, _, _, _, _, _, _, _, by omega, rfl, hle03.trans hle34, hst, by simp [hvl], fun x hx => (by
                rcases List.mem_append.1 hx with hx | hx
                · exact hsmv x hx
                · simp at hx; subst hx; exact hdo.sm), Rp.L_append (Rp.L_mono (hle23.trans hle34) hL) (Rp.L_single ⟨_, rfl, hr3, hrb⟩), Rp.L_mono hle34 hL2, Rp.L_mono hle34 hM2, hinv2, by omega, by omega, rfl⟩
          · refine rn_ ?_; intros
            refine h_one 6 rfl (by kernel_rfl) ?_
            refine go_q (v := .pointer (some ⟨g, k * 3, none⟩)) (by rw [hnt]; rfl) ((quiet_index (by rw [hty]; rfl) (by rw [hty]; rfl) rfl rfl rfl (by omega) (by omega)).cast (by simp [SV.den])) ?_
            refine rn_ ?_; intros
            refine h_hs (allIn (by repeat (first | exact trivial | refine ⟨rfl, ?_⟩))) (by first | exact Le.refl _ | assumption) ?_
            refine h_one 7 rfl (by kernel_rfl) ?_
            refine go_storeR 41 rfl (by rw [hty]; rfl) rfl rfl rfl rfl rfl rfl hlay ?_
            refine rn_ ?_; intros
            refine h_hs (allIn (by repeat (first | exact trivial | refine ⟨rfl, ?_⟩))) (by first | exact Le.refl _ | assumption) ?_
            refine h_end (by kernel_rfl) ?_
            refine rn_ ?_; intros
            rw [wr (n := (k : Int) + 1) (by omega) (by omega)]
            refine go_keep [1, 5, 6, 7, 8, 9] [0, 1, 2, 41, 61, 62] ?_
            refine st_ ?_
            exact ih (l.length - (k + 1)) _ (by omega) ⟨k + 1, G4, r.1, vs ++ [r.2.1], _, _, _, _, _, _, _, _, _, _, _, by omega, rfl, hle03.trans hle34, hst, by simp [hvl], fun x hx => (by
              rcases List.mem_append.1 hx with hx | hx
              · exact hsmv x hx
              · simp at hx; subst hx; exact hdo.sm), Rp.L_append (Rp.L_mono (hle23.trans hle34) hL) (Rp.L_single ⟨_, rfl, hr3, hrb⟩), Rp.L_mono hle34 hL2, Rp.L_mono hle34 hM2, hinv2, by omega, by omega, rfl⟩
      (refine go_qsplit rfl rfl (fun _ => ?_) (fun hc => absurd hc (by simp)); refine st_ ?_; (try (refine runq 400 hty hnt ?_; refine st_ ?_)))
      refine q_q (by rw [hnt]; rfl) (quiet_index (by rw [hty]; rfl) (by rw [hty]; rfl) rfl rfl rfl (by omega) (by omega)) ?_; refine runq 400 hty hnt ?_; refine st_ ?_
      refine q_q (v := .agg #[.int .i64 l[k].res.k, .int .i64 l[k].res.n, .slice asr l[k].res.l.length csr]) (by rw [hnt]; rfl) ((quiet_load (by rw [hty]; rfl) rfl (fun q => by cases q) (by simpa using opAt5 (hat.mono hle03)) rfl).cast (by simp only [ldV]; rfl)) ?_
      refine runq 400 hty hnt ?_; refine st_ ?_
      refine q_callf (by rw [hnt]; rfl) (by rw [hP]; kernel_rfl) rfl (hP ▸ same_ok r.2.1 l[k].res _ _ _ hrr (VT.rep_mono hle03 hor.r)) ?_; refine runq 400 hty hnt ?_; refine st_ ?_
      refine q_end ?_; refine rn_ ?_; intros
      rw [show (sml r.2.1 && sml l[k].res && veq r.2.1 l[k].res) = vsm r.2.1 l[k].res from rfl]
      cases hsm : vsm r.2.1 l[k].res
      · (refine x_split rfl rfl rfl (fun _ => ?_) (fun hc => absurd hc (by first | decide +kernel | (simp; first | done | fail))); refine st_ ?_; (refine ru_ ?_; intros))
        have hst : runP m ⟨[], []⟩ l = vs := by rw [hrun, List.drop_eq_getElem_cons hlt, runP_stop (by rw [hr0, hdn, hsm]; simp), List.append_nil]
        refine rn_ ?_; intros
        refine go_pubL rV 41 rfl (by omega) (ts := vs) hvl.symm (by omega) (Rp.L_mono hle23 hL) ?_
        intro G8 ad8 cap8 (hle8 : Le G3 G8) he8 hS8
        rw [← he8] at hS8
        refine st_ ?_
        refine go_pub 1 rfl (by omega) ?_
        intro G9 (hle9 : Le G8 G9) hG9
        have hat9 := at_block hG9
        simp only [dens, SV.den] at hat9
        refine st_ ?_
        refine x_ret rfl hQ hmb (by rw [hty]; rfl) rfl ?_; simp only [SV.den, resV]
        refine ⟨57, [.pointer (some ⟨b1, 0, none⟩)], by simp [dens, SV.den], by kernel_rfl, ?_⟩
        rw [hst]
        exact runs1_ok vs b1 _ G9 (Rp.S_mono hle9 hS8) hsmv hat9
      (refine x_split rfl rfl rfl (fun hc => absurd hc (by first | decide +kernel | (simp; first | done | fail))) (fun _ => ?_); refine st_ ?_; (refine ru_ ?_; intros))
      have hst : runP m ⟨[], []⟩ l = (vs ++ [r.2.1]) ++ runP m r.1 (l.drop (k + 1)) := by
        rw [hrun, List.drop_eq_getElem_cons hlt, runP_step (by rw [hr0, hrgm, hcan]; exact ⟨rfl, rfl, fun _ => by first | exact hsm | (rename_i hh; rw [hdn] at hh; cases hh)⟩), hr0]
        simp
      refine go_keep [1, 5, 6, 7, 8, 9, 10] [0, 1, 2, 41, 61, 62, 63] ?_
      refine st_ ?_
      refine rn_ ?_; intros
      refine x_heldP [(1, b1, .c 26 [.v (.slice ado k capo)]), (63, b3, .c 28 [.v (.int .i64 r.2.1.k), .v (.int .i64 r.2.1.n), .v (.slice asr2 r.2.1.l.length csr2)])] 8 rfl (by rw [hP]; kernel_rfl) rfl rfl rfl ?_
      refine st_ ?_
      refine hu_take 0 rfl (by kernel_rfl) (by kernel_rfl) (by kernel_rfl) (by kernel_rfl) rfl (fun c a w v => hQp c a w _ v) (by rw [hnt]; rfl) (allIn (by repeat (first | exact trivial | refine ⟨rfl, ?_⟩))) (by first | exact Le.refl _ | assumption) (quiet_op (by rw [hty]; first | rfl | (refine st_ ?_; rfl))) ?_; refine st_ ?_
      refine hu_take 1 rfl (by kernel_rfl) (by kernel_rfl) (by kernel_rfl) (by kernel_rfl) rfl (fun c a w v => hQp c a w _ v) (by rw [hnt]; rfl) (allIn (by repeat (first | exact trivial | refine ⟨rfl, ?_⟩))) (by first | exact Le.refl _ | assumption) (quiet_op (by rw [hty]; first | rfl | (refine st_ ?_; rfl))) ?_; refine st_ ?_
      refine hu_take 3 rfl (by kernel_rfl) (by kernel_rfl) (by kernel_rfl) (by kernel_rfl) rfl (fun c a w v => hQp c a w _ v) (by rw [hnt]; rfl) (allIn (by repeat (first | exact trivial | refine ⟨rfl, ?_⟩))) (by first | exact Le.refl _ | assumption) (quiet_op (by rw [hty]; first | rfl | (refine st_ ?_; rfl))) ?_; refine st_ ?_
      refine hu_two 2 4 rfl rfl (by kernel_rfl) ?_ ?_
      · refine go_call (by rw [hnt]; rfl) (by rw [hP]; kernel_rfl) rfl (hP ▸ copy_ok r.2.1 _ _ hrr (by omega)) ?_
        rintro v G4 (hle34 : Le G3 G4) hv0
        obtain ⟨_, hv0⟩ | ⟨hsm3, _⟩ := hv0
        rotate_left
        · rw [hdo.sm] at hsm3; cases hsm3
        obtain ⟨sl3, rfl, hr3⟩ := copied_cells hv0
        clear hv0
        obtain ⟨asl3, csl3, rfl⟩ := VT.rep_slice hr3
        refine rn_ ?_; intros
        refine h_hs (allIn (by repeat (first | exact trivial | refine ⟨rfl, ?_⟩))) (by first | exact Le.refl _ | assumption) ?_
        refine hu_one 4 rfl (by kernel_rfl) ?_
        refine rn_ ?_; intros
        refine h_hs (allIn (by repeat (first | exact trivial | refine ⟨rfl, ?_⟩))) (by first | exact Le.refl _ | assumption) ?_
        refine hu_one 5 rfl (by kernel_rfl) ?_
        refine go_append 41 (by rw [hnt]; rfl) (by rw [hty]; rfl) (by rw [hty]; rfl) (by decide) rfl rfl rfl (by omega) rfl (src_own 3 rfl rfl) rfl (by simp [dens, SV.den, Value.oneCell']) (by omega) (by simp only []; omega) ?_
        intro v'
        refine go_rowS 41 rfl ?_
        rintro ad4 cap4 rfl
        refine go_rowcases 41 rfl (fun _ h0 _ => by omega) ?_
        intro g capg hv' hcv hxl2
        cases hv'
        refine rn_ ?_; intros
        refine h_hs (allIn (by repeat (first | exact trivial | refine ⟨rfl, ?_⟩))) (by first | exact Le.refl _ | assumption) ?_
        have hxk : xs.length = k * 3 := by have := Rp.L_len hL; rw [hvl] at this; exact this
        have hlay : lay (xs ++ [.int .i64 0, .int .i64 0, .slice none 0 0]) (k * 3) [.int .i64 r.2.1.k, .int .i64 r.2.1.n, .slice asl3 r.2.1.l.length csl3] = some (xs ++ [.int .i64 r.2.1.k, .int .i64 r.2.1.n, .slice asl3 r.2.1.l.length csl3]) := by
          have := lay_at xs [.int .i64 0, .int .i64 0, .slice none 0 0] [.int .i64 r.2.1.k, .int .i64 r.2.1.n, .slice asl3 r.2.1.l.length csl3] [] rfl
          rw [hxk] at this
          simpa using this
        refine hu_twoL 6 8 [] rfl rfl (by kernel_rfl) rfl ?_ ?_
        · refine go_q (v := .pointer (some ⟨g, k * 3, none⟩)) (by rw [hnt]; rfl) ((quiet_index (by rw [hty]; rfl) (by rw [hty]; rfl) rfl rfl rfl (by omega) (by omega)).cast (by simp [SV.den])) ?_
          refine rn_ ?_; intros
          refine h_hs (allIn (by repeat (first | exact trivial | refine ⟨rfl, ?_⟩))) (by first | exact Le.refl _ | assumption) ?_
          refine hu_twoL 7 8 [] rfl rfl (by kernel_rfl) rfl ?_ ?_
          · refine go_storeR 41 rfl (by rw [hty]; rfl) rfl rfl rfl rfl rfl rfl hlay ?_
            refine rn_ ?_; intros
            refine h_hs (allIn (by repeat (first | exact trivial | refine ⟨rfl, ?_⟩))) (by first | exact Le.refl _ | assumption) ?_
            refine hu_last 8 [] rfl (by kernel_rfl) rfl ?_
            refine rn_ ?_; intros
            refine h_end (by kernel_rfl) ?_
            refine rn_ ?_; intros
            rw [wr (n := (k : Int) + 1) (by omega) (by omega)]
            refine go_keep [1, 5, 6, 7, 8, 9] [0, 1, 2, 41, 61, 62] ?_
            refine st_ ?_
            exact ih (l.length - (k + 1)) _ (by omega) ⟨k + 1, G4, r.1, vs ++ [r.2.1], _, _, _, _, _, _, _, _, _, _, _, by omega, rfl, hle03.trans hle34, hst, by simp [hvl], fun x hx => (by
              rcases List.mem_append.1 hx with hx | hx
              · exact hsmv x hx
              · simp at hx; subst hx; exact hdo.sm), Rp.L_append (Rp.L_mono (hle23.trans hle34) hL) (Rp.L_single ⟨_, rfl, hr3, hrb⟩), Rp.L_mono hle34 hL2, Rp.L_mono hle34 hM2, hinv2, by omega, by omega, rfl⟩
          · refine rn_ ?_; intros
            refine h_one 7 rfl (by kernel_rfl) ?_
            refine go_storeR 41 rfl (by rw [hty]; rfl) rfl rfl rfl rfl rfl rfl hlay ?_
            refine rn_ ?_; intros
            refine h_hs (allIn (by repeat (first | exact trivial | refine ⟨rfl, ?_⟩))) (by first | exact Le.refl _ | assumption) ?_
            refine h_end (by kernel_rfl) ?_
            refine rn_ ?_; intros
            rw [wr (n := (k : Int) + 1) (by omega) (by omega)]
            refine go_keep [1, 5, 6, 7, 8, 9] [0, 1, 2, 41, 61, 62] ?_
            refine st_ ?_
            exact ih (l.length - (k + 1)) _ (by omega) ⟨k + 1, G4, r.1, vs ++ [r.2.1], _, _, _, _, _, _, _, _, _, _, _, by omega, rfl, hle03.trans hle34, hst, by simp [hvl], fun x hx => (by
              rcases List.mem_append.1 hx with hx | hx
              · exact hsmv x hx
              · simp at hx; subst hx; exact hdo.sm), Rp.L_append (Rp.L_mono (hle23.trans hle34) hL) (Rp.L_single ⟨_, rfl, hr3, hrb⟩), Rp.L_mono hle34 hL2, Rp.L_mono hle34 hM2, hinv2, by omega, by omega, rfl⟩
        · refine rn_ ?_; intros
          refine h_one 6 rfl (by kernel_rfl) ?_
          refine go_q (v := .pointer (some ⟨g, k * 3, none⟩)) (by rw [hnt]; rfl) ((quiet_index (by rw [hty]; rfl) (by rw [hty]; rfl) rfl rfl rfl (by omega) (by omega)).cast (by simp [SV.den])) ?_
          refine rn_ ?_; intros
          refine h_hs (allIn (by repeat (first | exact trivial | refine ⟨rfl, ?_⟩))) (by first | exact Le.refl _ | assumption) ?_
          refine h_one 7 rfl (by kernel_rfl) ?_
          refine go_storeR 41 rfl (by rw [hty]; rfl) rfl rfl rfl rfl rfl rfl hlay ?_
          refine rn_ ?_; intros
          refine h_hs (allIn (by repeat (first | exact trivial | refine ⟨rfl, ?_⟩))) (by first | exact Le.refl _ | assumption) ?_
          refine h_end (by kernel_rfl) ?_
          refine rn_ ?_; intros
          rw [wr (n := (k : Int) + 1) (by omega) (by omega)]
          refine go_keep [1, 5, 6, 7, 8, 9] [0, 1, 2, 41, 61, 62] ?_
          refine st_ ?_
          exact ih (l.length - (k + 1)) _ (by omega) ⟨k + 1, G4, r.1, vs ++ [r.2.1], _, _, _, _, _, _, _, _, _, _, _, by omega, rfl, hle03.trans hle34, hst, by simp [hvl], fun x hx => (by
            rcases List.mem_append.1 hx with hx | hx
            · exact hsmv x hx
            · simp at hx; subst hx; exact hdo.sm), Rp.L_append (Rp.L_mono (hle23.trans hle34) hL) (Rp.L_single ⟨_, rfl, hr3, hrb⟩), Rp.L_mono hle34 hL2, Rp.L_mono hle34 hM2, hinv2, by omega, by omega, rfl⟩
      · refine rn_ ?_; intros
        refine h_hs (allIn (by repeat (first | exact trivial | refine ⟨rfl, ?_⟩))) (by first | exact Le.refl _ | assumption) ?_
        refine hu_one 2 rfl (by kernel_rfl) ?_
        refine go_call (by rw [hnt]; rfl) (by rw [hP]; kernel_rfl) rfl (hP ▸ copy_ok r.2.1 _ _ hrr (by omega)) ?_
        rintro v G4 (hle34 : Le G3 G4) hv0
        obtain ⟨_, hv0⟩ | ⟨hsm3, _⟩ := hv0
        rotate_left
        · rw [hdo.sm] at hsm3; cases hsm3
        obtain ⟨sl3, rfl, hr3⟩ := copied_cells hv0
        clear hv0
        obtain ⟨asl3, csl3, rfl⟩ := VT.rep_slice hr3
        refine rn_ ?_; intros
        refine h_hs (allIn (by repeat (first | exact trivial | refine ⟨rfl, ?_⟩))) (by first | exact Le.refl _ | assumption) ?_
        refine hu_one 5 rfl (by kernel_rfl) ?_
        refine go_append 41 (by rw [hnt]; rfl) (by rw [hty]; rfl) (by rw [hty]; rfl) (by decide) rfl rfl rfl (by omega) rfl (src_own 3 rfl rfl) rfl (by simp [dens, SV.den, Value.oneCell']) (by omega) (by simp only []; omega) ?_
        intro v'
        refine go_rowS 41 rfl ?_
        rintro ad4 cap4 rfl
        refine go_rowcases 41 rfl (fun _ h0 _ => by omega) ?_
        intro g capg hv' hcv hxl2
        cases hv'
        refine rn_ ?_; intros
        refine h_hs (allIn (by repeat (first | exact trivial | refine ⟨rfl, ?_⟩))) (by first | exact Le.refl _ | assumption) ?_
        have hxk : xs.length = k * 3 := by have := Rp.L_len hL; rw [hvl] at this; exact this
        have hlay : lay (xs ++ [.int .i64 0, .int .i64 0, .slice none 0 0]) (k * 3) [.int .i64 r.2.1.k, .int .i64 r.2.1.n, .slice asl3 r.2.1.l.length csl3] = some (xs ++ [.int .i64 r.2.1.k, .int .i64 r.2.1.n, .slice asl3 r.2.1.l.length csl3]) := by
          have := lay_at xs [.int .i64 0, .int .i64 0, .slice none 0 0] [.int .i64 r.2.1.k, .int .i64 r.2.1.n, .slice asl3 r.2.1.l.length csl3] [] rfl
          rw [hxk] at this
          simpa using this
        refine hu_twoL 6 8 [] rfl rfl (by kernel_rfl) rfl ?_ ?_
        · refine go_q (v := .pointer (some ⟨g, k * 3, none⟩)) (by rw [hnt]; rfl) ((quiet_index (by rw [hty]; rfl) (by rw [hty]; rfl) rfl rfl rfl (by omega) (by omega)).cast (by simp [SV.den])) ?_
          refine rn_ ?_; intros
          refine h_hs (allIn (by repeat (first | exact trivial | refine ⟨rfl, ?_⟩))) (by first | exact Le.refl _ | assumption) ?_
          refine hu_twoL 7 8 [] rfl rfl (by kernel_rfl) rfl ?_ ?_
          · refine go_storeR 41 rfl (by rw [hty]; rfl) rfl rfl rfl rfl rfl rfl hlay ?_
            refine rn_ ?_; intros
            refine h_hs (allIn (by repeat (first | exact trivial | refine ⟨rfl, ?_⟩))) (by first | exact Le.refl _ | assumption) ?_
            refine hu_last 8 [] rfl (by kernel_rfl) rfl ?_
            refine rn_ ?_; intros
            refine h_end (by kernel_rfl) ?_
            refine rn_ ?_; intros
            rw [wr (n := (k : Int) + 1) (by omega) (by omega)]
            refine go_keep [1, 5, 6, 7, 8, 9] [0, 1, 2, 41, 61, 62] ?_
            refine st_ ?_
            exact ih (l.length - (k + 1)) _ (by omega) ⟨k + 1, G4, r.1, vs ++ [r.2.1], _, _, _, _, _, _, _, _, _, _, _, by omega, rfl, hle03.trans hle34, hst, by simp [hvl], fun x hx => (by
              rcases List.mem_append.1 hx with hx | hx
              · exact hsmv x hx
              · simp at hx; subst hx; exact hdo.sm), Rp.L_append (Rp.L_mono (hle23.trans hle34) hL) (Rp.L_single ⟨_, rfl, hr3, hrb⟩), Rp.L_mono hle34 hL2, Rp.L_mono hle34 hM2, hinv2, by omega, by omega, rfl⟩
          · refine rn_ ?_; intros
            refine h_one 7 rfl (by kernel_rfl) ?_
            refine go_storeR 41 rfl (by rw [hty]; rfl) rfl rfl rfl rfl rfl rfl hlay ?_
            refine rn_ ?_; intros
            refine h_hs (allIn (by repeat (first | exact trivial | refine ⟨rfl, ?_⟩))) (by first | exact Le.refl _ | assumption) ?_
            refine h_end (by kernel_rfl) ?_
            refine rn_ ?_; intros
            rw [wr (n := (k : Int) + 1) (by omega) (by omega)]
            refine go_keep [1, 5, 6, 7, 8, 9] [0, 1, 2, 41, 61, 62] ?_
            refine st_ ?_
            exact ih (l.length - (k + 1)) _ (by omega) ⟨k + 1, G4, r.1, vs ++ [r.2.1], _, _, _, _, _, _, _, _, _, _, _, by omega, rfl, hle03.trans hle34, hst, by simp [hvl], fun x hx => (by
              rcases List.mem_append.1 hx with hx | hx
              · exact hsmv x hx
              · simp at hx; subst hx; exact hdo.sm), Rp.L_append (Rp.L_mono (hle23.trans hle34) hL) (Rp.L_single ⟨_, rfl, hr3, hrb⟩), Rp.L_mono hle34 hL2, Rp.L_mono hle34 hM2, hinv2, by omega, by omega, rfl⟩
        · refine rn_ ?_; intros
          refine h_one 6 rfl (by kernel_rfl) ?_
          refine go_q (v := .pointer (some ⟨g, k * 3, none⟩)) (by rw [hnt]; rfl) ((quiet_index (by rw [hty]; rfl) (by rw [hty]; rfl) rfl rfl rfl (by omega) (by omega)).cast (by simp [SV.den])) ?_
          refine rn_ ?_; intros
          refine h_hs (allIn (by repeat (first | exact trivial | refine ⟨rfl, ?_⟩))) (by first | exact Le.refl _ | assumption) ?_
          refine h_one 7 rfl (by kernel_rfl) ?_
          refine go_storeR 41 rfl (by rw [hty]; rfl) rfl rfl rfl rfl rfl rfl hlay ?_
          refine rn_ ?_; intros
          refine h_hs (allIn (by repeat (first | exact trivial | refine ⟨rfl, ?_⟩))) (by first | exact Le.refl _ | assumption) ?_
          refine h_end (by kernel_rfl) ?_
          refine rn_ ?_; intros
          rw [wr (n := (k : Int) + 1) (by omega) (by omega)]
          refine go_keep [1, 5, 6, 7, 8, 9] [0, 1, 2, 41, 61, 62] ?_
          refine st_ ?_
          exact ih (l.length - (k + 1)) _ (by omega) ⟨k + 1, G4, r.1, vs ++ [r.2.1], _, _, _, _, _, _, _, _, _, _, _, by omega, rfl, hle03.trans hle34, hst, by simp [hvl], fun x hx => (by
            rcases List.mem_append.1 hx with hx | hx
            · exact hsmv x hx
            · simp at hx; subst hx; exact hdo.sm), Rp.L_append (Rp.L_mono (hle23.trans hle34) hL) (Rp.L_single ⟨_, rfl, hr3, hrb⟩), Rp.L_mono hle34 hL2, Rp.L_mono hle34 hM2, hinv2, by omega, by omega, rfl⟩
    · have hge : k = l.length := by simp at hjl; omega
      have hst : runP m ⟨[], []⟩ l = vs := by rw [hrun, hge, List.drop_length, runP, List.append_nil]
      clear ih hjl hq hk
      refine rn_ ?_; intros
      refine go_pubL rV 41 rfl (by omega) (ts := vs) hvl.symm (by omega) (Rp.L_mono (Le.refl _) hL) ?_
      intro G8 ad8 cap8 (hle8 : Le G2 G8) he8 hS8
      rw [← he8] at hS8
      refine st_ ?_
      refine go_pub 1 rfl (by omega) ?_
      intro G9 (hle9 : Le G8 G9) hG9
      have hat9 := at_block hG9
      simp only [dens, SV.den] at hat9
      refine st_ ?_
      refine x_ret rfl hQ hmb (by rw [hty]; rfl) rfl ?_; simp only [SV.den, resV]
      refine ⟨57, [.pointer (some ⟨b1, 0, none⟩)], by simp [dens, SV.den], by kernel_rfl, ?_⟩
      rw [hst]
      exact runs1_ok vs b1 _ G9 (Rp.S_mono hle9 hS8) hsmv hat9
end Go.Proofs.Ytpmmbjcgabnloaa
namespace Go.Proofs.Ytpmmbjcgabnloaa
set_option linter.unusedSimpArgs false
set_option linter.unusedVariables false
open Go.Sx
set_option maxHeartbeats 8000000
set_option maxRecDepth 20000
mutual
theorem veq_refl2 : ∀ (x : VT), veq x x = true
  | .mk k n l => by simp [veq, veqL_refl2 l]
theorem veqL_refl2 : ∀ (l : List VT), veqL l l = true
  | [] => by simp [veqL]
  | x :: l => by simp [veqL, veq_refl2 x, veqL_refl2 l]
end
theorem runP_sml (m : Int) : ∀ (s : MS) (l : List Op), s.inv m → ∀ v ∈ runP m s l, sml v = true
  | _, [], _ => by simp [runP]
  | s, o :: r, hi => by
    rw [runP]
    split
    · rename_i hc
      have hdo := do_vd (m := m) (o := o) hi.vd (rgt_vld hc.1).1 (rgt_vld hc.1).2
      intro v hv
      rcases List.mem_cons.1 hv with rfl | hv
      · exact hdo.sm
      · exact runP_sml m _ r (inv_do hi hc.1) v hv
    · simp
theorem historyRuns_ok (m : Int) (l : List Op) (sl : Value) (many : Int) (G : Hp) (hl : rO.S G l sl) (hm : isI64 many) : Pure Try.prog 7 [.int .i64 m, sl, .int .i64 many] G (fun v _ => v = .bool true) := by
  have h10 := hl
  obtain ⟨ad1, cap1, rfl⟩ := Rp.S_slice hl
  have h63 := Rp.S_len hl
  refine enterM ty tyok Try.func7 rfl Try.ntmps7 [.v (.int .i64 m), .v (.slice ad1 l.length cap1), .v (.int .i64 many)] (by simp) ?_
  intro C hP hQ hnt hty hmb hmh hro; have hQp := qp_bodyM hQ; refine st_ ?_
  refine rn_ ?_; intros
  rename_i b0 b1
  refine go_marks 5 rfl (by omega) ?_
  refine st_ ?_
  refine rn_ ?_; intros
  refine go_callf (by rw [hnt]; rfl) (by rw [hP]; kernel_rfl) rfl (hP ▸ few_ok l _ 12 G h10) ?_; refine rn_ ?_; intros
  cases hfew : fewO l 12
  · (refine x_split rfl rfl rfl (fun _ => ?_) (fun hc => absurd hc (by first | decide +kernel | (simp; first | done | fail))); refine st_ ?_; (refine ru_ ?_; intros))
    refine rn_ ?_; intros
    refine go_callf (by rw [hnt]; rfl) (by rw [hP]; kernel_rfl) rfl (hP ▸ works29_ok G) ?_; refine rn_ ?_; intros
    refine x_retM 5 rfl hQ hmb rfl rfl rfl (by rw [hty]; simp only [so, sq, zy, zz, tyE, SO', SQ', opQ, opStore, opAlloc, ev, putS, dOk, cv, SV.cs, SV.one, SV.bool?, eqB, Value.oneCell', ldOwn, binInt, binConst, binBool, binStr, isC, TK.agg, rv, rv1, ldV, resOne, resV, Nat.reduceAdd, Nat.reduceMul, Nat.reduceSub, Nat.reduceLT, Nat.reduceLeDiff, Nat.reduceEqDiff, Nat.reduceBEq, reduceIte, reduceCtorEq, eq_self]; try rfl) ?_; simp only [SV.den, resV, dens]
  have hl12 : l.length ≤ 12 := by
    simp only [fewO, Bool.and_eq_true, decide_eq_true_eq] at hfew
    have := hfew.1
    omega
  (refine x_split rfl rfl rfl (fun hc => absurd hc (by first | decide +kernel | (simp; first | done | fail))) (fun _ => ?_); refine st_ ?_; (refine ru_ ?_; intros))
  refine rn_ ?_; intros
  refine go_call (by rw [hnt]; rfl) (by rw [hP]; kernel_rfl) rfl (hP ▸ rRuns_ok m l _ G h10 (by omega)) ?_
  rintro v G1 (hle1 : Le G G1) hw
  obtain ⟨adw, capw, rfl⟩ := Rp.S_slice hw
  refine rn_ ?_; intros
  rename_i b6 _
  obtain ⟨cs, hcs, hsrc⟩ := Rp.srcS (Rp.S_mono hle1 h10)
  have hcl := Rp.L_len hcs
  have hco := Rp.L_one hcs
  refine go_litrow 7 (n := 0) (size := 11) rfl (by omega) rfl (by omega) ?_
  refine st_ ?_
  refine go_append_any 7 (by rw [hnt]; rfl) (by rw [hty]; rfl) (by rw [hty]; rfl) (by decide) rfl rfl rfl (by omega) rfl (hsrc.imp id fun f => f _ _ rfl) hcl hco (by omega) (by simp only []; omega) ?_
  intro v1
  refine go_rowS 7 rfl ?_
  rintro a7 c7 rfl
  refine go_pubL rO 7 rfl (by omega) (ts := l) (by omega) (by omega) (by simpa [dens] using hcs) ?_
  intro G2 ad2 cap2 (hle2 : Le G1 G2) he2 hS2
  rw [← he2, Nat.zero_add] at hS2
  refine st_ ?_
  refine rn_ ?_; intros
  refine go_call (by rw [hnt]; rfl) (by rw [hP]; kernel_rfl) rfl (hP ▸ hRuns_ok m l _ G2 hS2 (by omega)) ?_
  rintro v G3 (hle3 : Le G2 G3) ⟨pf, pcap, rfl, hpc, hit⟩
  refine rn_ ?_; intros
  refine go_q (by rw [hnt]; rfl) (quiet_feq (by rw [hty]; rfl) rfl rfl) ?_
  refine rn_ ?_; intros
  refine go_slot 26 (.b false) rfl rfl ?_
  refine rn_ ?_; intros
  rename_i b9
  refine go_keep [5, 6, 7, 8, 9] [0, 1, 5, 6, 7] ?_
  refine st_ ?_
  have hw3 := Rp.S_mono (hle2.trans hle3) hw
  have hrs := runP_sml m ⟨[], []⟩ l ⟨⟨fun x h => (by cases h), fun x h => (by cases h)⟩, fun x h => (by cases h), fun _ => rfl⟩
  have hrl := runP_len m ⟨[], []⟩ l
  obtain ⟨L, hL⟩ : ∃ L, L = runP m ⟨[], []⟩ l := ⟨_, rfl⟩
  rw [← hL] at hw3 hit hrs hrl ⊢
  refine x_loop rfl (fun q s => ∃ (turn : Nat) (b9 : Nat) (ds : List Nat) (G' : Hp), turn ≤ 2 ∧ q = 2 - turn ∧ Le G3 G' ∧
    s = ⟨[(5, .p 0 b0 0), (6, .p 1 b1 0), (7, .p 6 b6 0), (8, .v (.func (.func pf) #[] pcap.toArray)), (9, .p 7 b9 0)],
      [(0, b0, .c 3 [.v (.int .i64 many)]), (1, b1, .c 4 [.v (.bool false)]), (5, 0, dzO ds), (6, b6, .c 26 [.v (.slice adw L.length capw)]), (7, b9, .c 3 [.v (.int .i64 turn)])], G', ds.map mkD⟩) ⟨0, b9, [], G3, by omega, rfl, Le.refl _, rfl⟩ ?_
  clear b9
  rintro q s ⟨turn, b9, ds, G4, hturn, hq, hle4, rfl⟩ ih
  refine rn_ ?_; intros
  refine x_if rfl rfl rfl rfl (fun ht2 => ?_) (fun ht2 => ?_)
  · have hlt : turn < 2 := by simp at ht2; omega
    refine rn_ ?_; intros
    rename_i b10
    refine go_keep [5, 6, 7, 8, 9, 10, 31] [0, 1, 5, 6, 7, 8] ?_
    refine st_ ?_
    refine cut_tail 2 (fun s' => ∃ (k : Nat) (ds : List Nat) (G' : Hp), k ≤ L.length ∧ Le G3 G' ∧ (turn = 0 → (k : Int) = min (L.length : Int) (max 1 many)) ∧ (turn = 1 → k = L.length) ∧
      s' = ⟨[(5, .p 0 b0 0), (6, .p 1 b1 0), (7, .p 6 b6 0), (8, .v (.func (.func pf) #[] pcap.toArray)), (9, .p 7 b9 0), (10, .p 8 b10 0)],
        [(0, b0, .c 3 [.v (.int .i64 many)]), (1, b1, .c 4 [.v (.bool false)]), (5, 0, dzO ds), (6, b6, .c 26 [.v (.slice adw L.length capw)]), (7, b9, .c 3 [.v (.int .i64 turn)]), (8, b10, .c 3 [.v (.int .i64 k)])], G', ds.map mkD⟩) ?_ ?_
    · rintro s' ⟨k, ds, G5, hkL, hle5, hm0, hm1, rfl⟩
      simp only [List.drop_succ_cons, List.drop_zero]
      refine rn_ ?_; intros
      rcases (show turn = 0 ∨ turn = 1 by omega) with rfl | rfl
      · repeat (first | (refine go_gsplit rfl rfl (fun hc => absurd hc (by first | decide +kernel | (simp; first | done | fail))) (fun _ => ?_); refine st_ ?_; (refine rn_ ?_; intros)) | (refine go_gsplit rfl rfl (fun _ => ?_) (fun hc => absurd hc (by first | decide +kernel | (simp; first | done | fail))); refine st_ ?_; (refine rn_ ?_; intros)) | (refine x_split rfl rfl rfl (fun hc => absurd hc (by first | decide +kernel | (simp; first | done | fail))) (fun _ => ?_); refine st_ ?_; (refine ru_ ?_; intros)) | (refine x_split rfl rfl rfl (fun _ => ?_) (fun hc => absurd hc (by first | decide +kernel | (simp; first | done | fail))); refine st_ ?_; (refine ru_ ?_; intros)))
        refine go_slot 72 (.b false) rfl (by
          have := hm0 rfl
          simp only [SV.den]; congr 1
          symm
          rw [bne_eq_false_iff_eq]
          repeat' split
          all_goals omega) ?_
        refine rn_ ?_; intros
        repeat (first | (refine go_gsplit rfl rfl (fun hc => absurd hc (by first | decide +kernel | (simp; first | done | fail))) (fun _ => ?_); refine st_ ?_; (refine rn_ ?_; intros)) | (refine go_gsplit rfl rfl (fun _ => ?_) (fun hc => absurd hc (by first | decide +kernel | (simp; first | done | fail))); refine st_ ?_; (refine rn_ ?_; intros)) | (refine x_split rfl rfl rfl (fun hc => absurd hc (by first | decide +kernel | (simp; first | done | fail))) (fun _ => ?_); refine st_ ?_; (refine ru_ ?_; intros)) | (refine x_split rfl rfl rfl (fun _ => ?_) (fun hc => absurd hc (by first | decide +kernel | (simp; first | done | fail))); refine st_ ?_; (refine ru_ ?_; intros)))
        rename_i b9'
        refine go_keep [5, 6, 7, 8, 9] [0, 1, 5, 6, 9] ?_
        refine st_ ?_
        refine go_rekey 9 7 rfl rfl (by omega) (by omega) ?_
        refine go_slot 9 (.p 7 b9' 0) rfl rfl ?_
        rw [wr (n := ((0 : Nat) : Int) + 1) (by omega) (by omega)]
        simp only [stk, rmk]
        refine st_ ?_
        exact ih (2 - (0 + 1)) _ (by omega) ⟨0 + 1, b9', ds, G5, by omega, rfl, hle5, rfl⟩
      · repeat (first | (refine go_gsplit rfl rfl (fun hc => absurd hc (by first | decide +kernel | (simp; first | done | fail))) (fun _ => ?_); refine st_ ?_; (refine rn_ ?_; intros)) | (refine go_gsplit rfl rfl (fun _ => ?_) (fun hc => absurd hc (by first | decide +kernel | (simp; first | done | fail))); refine st_ ?_; (refine rn_ ?_; intros)) | (refine x_split rfl rfl rfl (fun hc => absurd hc (by first | decide +kernel | (simp; first | done | fail))) (fun _ => ?_); refine st_ ?_; (refine ru_ ?_; intros)) | (refine x_split rfl rfl rfl (fun _ => ?_) (fun hc => absurd hc (by first | decide +kernel | (simp; first | done | fail))); refine st_ ?_; (refine ru_ ?_; intros)))
        refine go_slot 81 (.b false) rfl (by have := hm1 rfl; subst this; simp [SV.den]) ?_
        refine rn_ ?_; intros
        rename_i b9'
        refine go_keep [5, 6, 7, 8, 9] [0, 1, 5, 6, 9] ?_
        refine st_ ?_
        refine go_rekey 9 7 rfl rfl (by omega) (by omega) ?_
        refine go_slot 9 (.p 7 b9' 0) rfl rfl ?_
        rw [wr (n := ((1 : Nat) : Int) + 1) (by omega) (by omega)]
        simp only [stk, rmk]
        refine st_ ?_
        exact ih (2 - (1 + 1)) _ (by omega) ⟨1 + 1, b9', ds, G5, by omega, rfl, hle5, rfl⟩
    · intro key
      simp only [List.drop_succ_cons, List.drop_zero] at key
      refine x_range 5 rfl rfl (ps := #[32, 33]) rfl hro hmh rfl rfl (by rw [hP]; exact hpc) (by rw [hnt]; decide) (by rw [hP]; exact hit.mono hle4) (encR_mono _) (fun _ _ _ h => by obtain ⟨_, _, _, _, rfl, _⟩ := h; rfl)
        (fun i own => (turn = 0 → i = 0 ∨ (i : Int) < many) ∧ own = [(0, b0, .c 3 [.v (.int .i64 many)]), (1, b1, .c 4 [.v (.bool false)]), (5, 0, dzO ds), (6, b6, .c 26 [.v (.slice adw L.length capw)]), (7, b9, .c 3 [.v (.int .i64 turn)]), (8, b10, .c 3 [.v (.int .i64 i)])])
        (fun c own => ∃ i : Nat, c = .exit 2 ∧ turn = 0 ∧ i < L.length ∧ (i = 0 ∨ (i : Int) < many) ∧ many ≤ i + 1 ∧ own = [(0, b0, .c 3 [.v (.int .i64 many)]), (1, b1, .c 4 [.v (.bool false)]), (5, 0, dzO ds), (6, b6, .c 26 [.v (.slice adw L.length capw)]), (7, b9, .c 3 [.v (.int .i64 turn)]), (8, b10, .c 3 [.v (.int .i64 ((i : Int) + 1))])])
        (fun i own h => by obtain ⟨_, rfl⟩ := h; exact ⟨keys_lt rfl, (by repeat (first | exact plain_nil | refine plain_cons (fun _ h => h) ?_)), rfl⟩) (fun _ _ h => by obtain ⟨i, _, _, _, _, _, rfl⟩ := h; exact ⟨(by repeat (first | exact plain_nil | refine plain_cons (fun _ h => h) ?_)), rfl⟩) ⟨fun _ => .inl rfl, rfl⟩ ?_ ?_ ?_
      · rintro C' C0 i own vs G5 lp D r hiN ⟨hi0, rfl⟩ (hle5 : Le G4 G5) ⟨z, adz, capz, hLi, rfl, hrz⟩ hR
        have hnt2 := hR.nt.trans hnt; have hty2 := hR.ty.trans hty; have hP2 := hR.P.trans hP; clear hQ hQp hnt hty hP hmh hmb hro; have hnt := hnt2; have hty := hty2; have hP := hP2; have hmh := hR.mh; have hQp := hR.qp; simp only [putsS, List.toList_toArray]; refine st_ ?_
        refine rn_ ?_; intros
        refine go_br rfl hR.ready ?_
        refine st_ ?_
        have hzL : z = L[i] := by rw [List.getElem?_eq_getElem hiN] at hLi; exact (Option.some.inj hLi).symm
        subst hzL
        have hz2 : sml L[i] = true := hrs _ (List.getElem_mem hiN)
        have hle35 := hle4.trans hle5
        obtain ⟨bq, offq, sly, rfl, haty, hry, hby⟩ := rV_at (Rp.S_mono hle35 hw3) (i := i) hiN
        obtain ⟨ady, capy, rfl⟩ := VT.rep_slice hry
        refine rn_ ?_; intros
        have hz1 : tsz L[i] ≤ 2000000 := by omega
        refine x_draw rfl (by rw [hP]; kernel_rfl) rfl (by kernel_rfl) ?_
        refine runq 400 hty hnt ?_; refine st_ ?_
        (refine go_qsplit rfl rfl (fun hc => absurd hc (by simp)) (fun _ => ?_); refine st_ ?_; (try (refine runq 400 hty hnt ?_; refine st_ ?_)))
        (refine go_qsplit rfl rfl (fun hc => absurd hc (by simp; omega)) (fun _ => ?_); refine st_ ?_; (try (refine runq 400 hty hnt ?_; refine st_ ?_)))
        refine q_q (v := .pointer (some ⟨bq, offq + i * 3, none⟩)) (by rw [hnt]; rfl) ((quiet_index (by rw [hty]; rfl) (by rw [hty]; rfl) rfl rfl rfl (by omega) (by omega)).cast rfl) ?_
        refine runq 400 hty hnt ?_; refine st_ ?_
        refine q_q (v := .agg #[.int .i64 L[i].k, .int .i64 L[i].n, .slice ady L[i].l.length capy]) (by rw [hnt]; rfl) ((quiet_load (by rw [hty]; rfl) rfl (fun q => by cases q) haty rfl).cast (by simp only [ldV]; rfl)) ?_
        refine runq 400 hty hnt ?_; refine st_ ?_
        refine q_callf (v := .bool true) (by rw [hnt]; rfl) (by rw [hP]; kernel_rfl) rfl (hP ▸ (refSame_ok L[i] L[i] _ _ G5 hrz hry hz1 hz1).val (by simp [hz2, veq_refl2])) ?_
        refine runq 400 hty hnt ?_; refine st_ ?_
        refine q_end ?_; refine rn_ ?_; intros
        (try ((refine x_split rfl rfl rfl (fun hc => absurd hc (by first | decide +kernel | (simp; first | done | fail))) (fun _ => ?_); refine st_ ?_; (refine ru_ ?_; intros))))
        refine go_drop 1000 ?_
        refine st_ ?_
        rw [wr (n := (i : Int) + 1) (by omega) (by omega)]
        refine go_gsplit rfl rfl (fun ht => ?_) (fun ht => ?_) <;> (refine st_ ?_; (refine rn_ ?_; intros))
        · have ht0 : turn = 0 := by simp at ht; exact ht
          refine x_if rfl rfl rfl rfl (fun hmany => ?_) (fun hmany => ?_)
          · simp at hmany
            refine x_rexit rfl rfl rfl hR rfl rfl ?_
            simp only [rmk, reduceIte, Nat.reduceEqDiff]
            exact ⟨i, rfl, ht0, hiN, hi0 ht0, by omega, rfl⟩
          · simp at hmany
            refine x_skip rfl ?_
            refine go_blk ?_
            refine go_rend hR rfl rfl ?_
            simp only [rmk, reduceIte, Nat.reduceEqDiff]
            exact ⟨fun _ => .inr (by omega), rfl⟩
        · have ht0 : turn ≠ 0 := by simp at ht; exact ht
          refine go_rend hR rfl rfl ?_
          simp only [rmk, reduceIte, Nat.reduceEqDiff]
          exact ⟨fun h => absurd h ht0, rfl⟩
      · rintro D own G5 ⟨hi0, rfl⟩ (hle5 : Le G4 G5)
        refine st_ ?_
        refine go_blk ?_
        refine go_keep [5, 6, 7, 8, 9, 10] [0, 1, 5, 6, 7, 8] ?_
        refine st_ ?_
        exact key _ ⟨L.length, D :: ds, G5, Nat.le_refl _, hle4.trans hle5, fun h => by rcases hi0 h with h | h <;> omega, fun _ => rfl, rfl⟩
      · rintro D c own G5 ⟨i, rfl, ht0, hiN, hi1, hi2, rfl⟩ (hle5 : Le G4 G5)
        refine st_ ?_
        refine x_exit rfl rfl rfl ?_
        refine go_keep [5, 6, 7, 8, 9, 10] [0, 1, 5, 6, 7, 8] ?_
        refine st_ ?_
        exact key _ ⟨i + 1, D :: ds, G5, hiN, hle4.trans hle5, fun h => by omega, fun h => by omega, rfl⟩
  · clear ih
    refine rn_ ?_; intros
    refine go_callf (by rw [hnt]; rfl) (by rw [hP]; kernel_rfl) rfl (hP ▸ works29_ok G4) ?_; refine rn_ ?_; intros
    refine x_retM 5 rfl hQ hmb rfl rfl rfl (by rw [hty]; simp only [so, sq, zy, zz, tyE, SO', SQ', opQ, opStore, opAlloc, ev, putS, dOk, cv, SV.cs, SV.one, SV.bool?, eqB, Value.oneCell', ldOwn, binInt, binConst, binBool, binStr, isC, TK.agg, rv, rv1, ldV, resOne, resV, Nat.reduceAdd, Nat.reduceMul, Nat.reduceSub, Nat.reduceLT, Nat.reduceLeDiff, Nat.reduceEqDiff, Nat.reduceBEq, reduceIte, reduceCtorEq, eq_self]; try rfl) ?_; simp only [SV.den, resV, dens]
end Go.Proofs.Ytpmmbjcgabnloaa
namespace Go.Proofs.Ytpmmbjcgabnloaa.historyRuns
set_option linter.unusedSimpArgs false
set_option linter.unusedVariables false
open Go.ChangeShapes Go.WideShapes Go.ChangeAt Go.RowKit

set_option maxRecDepth 100000
theorem contract (H : Type) (enc : TypeId × Value → H) (W : World) (base : Nat) (args : Array Value) (ds gs : List (DataW H)) (before : List MemPlace)
    (hval : ∀ (j : Nat) t v, Try.f7.params[j]? = some t → args[j]? = some v → Value.okWide Try.prog W .any base t v)
    (hW : DataW.Whole enc Try.prog Try.f7.params.toList Rows.historyRunsSpec.vars false W args.toList ds gs before) (hk : Rows.uptoSmall H (ds ++ gs) = true) :
    Calls Try.prog 7 args W fun e W' => ∃ v, e = .returned v ∧ Rows.historyRunsSpec.post enc Try.prog Try.f7 false true false false W args v W' := by
  have hW' := hW
  obtain ⟨p, q, hA0, hV, rfl, hfz, hnd⟩ := hW
  have hA : DataW.TrodAll enc Try.prog W 0 (fun _ => true) true Try.f7.params.toList args.toList ds p := hA0
  rw [Try.params7] at hA hval
  obtain ⟨v0, vs0, d0, ds0, p0, q0, hargs, rfl, rfl, h0, r0⟩ := trodAll_cons hA
  obtain ⟨v1, vs1, d1, ds1, p1, q1, rfl, rfl, rfl, h1, r1⟩ := trodAll_cons r0
  obtain ⟨v2, vs2, d2, ds2, p2, q2, rfl, rfl, rfl, h2, r2⟩ := trodAll_cons r1
  obtain ⟨rfl, rfl, rfl⟩ := trodAll_nil r2
  obtain rfl : args = #[v0, v1, v2] := by cases args; simp_all
  obtain ⟨rfl, rfl⟩ := trodVars_none hV
  clear hA0
  obtain ⟨a0, rfl, rfl, rfl, w0⟩ := open_int Try.underlying3 (hval 0 3 v0 rfl rfl) h0
  obtain ⟨a2, rfl, rfl, rfl, w2⟩ := open_int Try.underlying3 (hval 2 3 v2 rfl rfl) h2
  simp only [List.append_nil, List.nil_append] at hW' hk
  have hbulk : Rows.uptoBulkAll [_, d1, _] ≤ 1048576 := of_decide_eq_true hk
  simp only [Rows.uptoBulkAll, Rows.uptoBulk, Nat.add_zero] at hbulk
  have h1k := h1
  obtain ⟨n1, hf1⟩ := h1
  obtain ⟨ad1, len1, cap1, rfl⟩ := okWide_slice Try.underlying31 (hval 1 31 v1 rfl rfl)
  obtain ⟨ns1, f1, hcs1, hr1⟩ := open_ops (w := W) (by omega) hf1
  obtain rfl : (Value.slice ad1 len1 cap1) = ns1 := by simpa [Value.cells] using hcs1
  have hlt1 : ∀ x ∈ p1, x.block < W.heap.size := fun x hx => by simpa using hW'.lt x (by simp [hx])
  refine (historyRuns_ok a0 f1 _ a2 (hp W) hr1 (wf_i64 w2) W (has_hp W)).mono ?_
  rintro e W' ⟨v, G', rfl, hg, rfl⟩
  have hb := hg.below
  exact ⟨_, rfl, post_below rfl rfl hW' (fun _ _ _ => (trodAll_cons_mk (shut_bool Try.underlying4 _) trodAll_mk0))
    (fun sp hsp => by have this := (trodAll_cons_mk (shut_int Try.underlying3 w0) (trodAll_cons_mk (WideElems.Trod_stays laidOut (by kernel_rfl) (of_decide_eq_true (by kernel_rfl)) h1k (fun x hx => hb.same (hlt1 x hx)) (fun x hx => hsp x (by simp [hx]))) (trodAll_cons_mk (shut_int Try.underlying3 w2) trodAll_mk0))); simp only [List.append_nil, List.nil_append] at this; exact this)
    hb (ok_one (by kernel_rfl) rfl (okWide_bool_mk Try.underlying4 _))⟩

set_option maxRecDepth 100000 in
theorem lifted (os : Os) (started : os.Started) (H : Type) (enc : TypeId × Value → H) (F : Stop.Interp) :
    ReturnsInHanded {} Try.checked os 7 .any ((Rows.OpenSpec.upto Rows.historyRunsSpec).pre6 enc Try.prog Try.f7 Rows.historyRunsUptoRow.domain false) (((Rows.OpenSpec.upto Rows.historyRunsSpec).at F).post enc Try.prog Try.f7 false true false false) := by
  refine returnsInHanded_of_cond (C := Try.checked) (s := Rows.OpenSpec.upto Rows.historyRunsSpec) (k := Rows.uptoSmall) rfl own started (by kernel_rfl) Try.func7
    (OpenSpec.witness (enc := enc) (C := Try.checked) (s := Rows.OpenSpec.upto Rows.historyRunsSpec) (k := Rows.uptoSmall) rfl false ⟨#[], #[.int .i64 0, .slice none 0 0, .int .i64 0], []⟩ 8 (by kernel_rfl) (by kernel_rfl) (by kernel_rfl)
      (x := ([.lit (.int .i64 0), .nil, .lit (.int .i64 0)], [], [])) (by kernel_rfl) rfl (by kernel_rfl)) ?_
  intro W base args ds gs before hval hW _ hk _
  exact contract H enc W base args ds gs before hval hW hk

theorem over : Rows.historyRunsUptoRow.holds Try.pinned (Rows.OpenSpec.upto Rows.historyRunsSpec) :=
  OpenClaim.holds_of_cond 7 Try.f7 rfl rfl rfl rfl rfl rfl rfl ⟨rfl, rfl, rfl, rfl, rfl⟩ rfl rfl rfl rfl rfl (by kernel_rfl) Try.func7 (by kernel_rfl)
    (of_decide_eq_true (by kernel_rfl)) (by unfold Func.isWrapper; first | (rw [if_pos (by decide +kernel)]; kernel_rfl) | (rw [if_neg (by decide +kernel)]; exact ⟨rfl, rfl⟩))
    (fun os started H enc _ F => lifted os started H enc F)

theorem proved : Rows.HistoryRunsUptoSaid := over
end Go.Proofs.Ytpmmbjcgabnloaa.historyRuns

