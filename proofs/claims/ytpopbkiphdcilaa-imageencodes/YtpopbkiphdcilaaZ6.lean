/-
  Rows.ImageEncodesSaid is proved here.
-/
import Derived.Test.YtpopbkiphdcilaaZ5
set_option linter.unusedSimpArgs false
set_option linter.unusedVariables false
namespace Go.Proofs.Ytpopbkiphdcilaa
set_option linter.unusedSimpArgs false
set_option linter.unusedVariables false
open Go.Sx
set_option maxHeartbeats 4000000
def fewP8 (l : Pr) : Bool := decide (l.length ≤ 8) && fewF l
theorem few8_ok (l : Pr) (ls : Value) (G : Hp) (hl : rF.S G l ls) : Pure Try.prog 9 [.agg #[ls]] G (fun r _ => r = .bool (fewP8 l)) := by
  have hl0 := hl
  have hl63 := Rp.S_len hl
  obtain ⟨adp, capp, rfl⟩ := Rp.S_slice hl
  refine enterX ty tyok Try.func9 rfl Try.ntmps9 [.a [.v (.slice adp l.length capp)]] (by simp) ?_
  intro C hP hQ hnt hty hmb hmh hro; have hQp := qp_body hQ; refine st_ ?_
  refine rn_ ?_; intros
  rename_i b1
  refine x_split rfl rfl rfl (fun h8 => ?_) (fun h8 => ?_) <;> (refine st_ ?_; (refine ru_ ?_; intros))
  · refine x_retc rfl hQ hmb rfl (by rw [hty]; simp only [so, sq, zy, zz, tyE, SO', SQ', opQ, opStore, opAlloc, ev, putS, dOk, cv, SV.cs, SV.one, SV.bool?, eqB, Value.oneCell', ldOwn, binInt, binConst, binBool, binStr, isC, TK.agg, rv, rv1, ldV, resOne, resV, Nat.reduceAdd, Nat.reduceMul, Nat.reduceSub, Nat.reduceLT, Nat.reduceLeDiff, Nat.reduceEqDiff, Nat.reduceBEq, reduceIte, reduceCtorEq, eq_self]; try rfl) rfl ?_; simp only [SV.den, resV, dens]
    have := of_decide_eq_true h8
    simp only [fewP8, decide_eq_false (show ¬ l.length ≤ 8 by omega), Bool.false_and]
  have h8' : l.length ≤ 8 := by have := of_decide_eq_false h8; omega
  have hfew : fewP8 l = fewF l := by simp [fewP8, h8']
  refine go_keep [1, 3] [0] ?_
  refine st_ ?_
  refine x_loop rfl (fun q s => ∃ i : Nat, i ≤ l.length ∧ q = l.length - i ∧ fewF l = fewF (l.drop i) ∧
    s = ⟨[(1, .p 0 b1 0), (3, .v (.int .i64 i))], [(0, b1, .c 24 [.v (.slice adp l.length capp)])], G, []⟩) ⟨0, by omega, rfl, rfl, rfl⟩ ?_
  rintro q s ⟨i, hi, hq, hf, rfl⟩ ih
  refine rn_ ?_; intros
  refine x_if rfl rfl rfl rfl (fun hil => ?_) (fun hil => ?_)
  · have hlt : i < l.length := by simp at hil; omega
    obtain ⟨bp, op, nsp, rfl, hatp, hpp, hnp⟩ := rF_at hl0 hlt
    have hn63 := Rp.S_len hnp
    have hnp0 := hnp
    obtain ⟨adn, capn, rfl⟩ := Rp.S_slice hnp
    have hatp1 : At G bp (op + i * 2 + 1) [.slice adn (fu l i).nodes.length capn] := by simpa using hatp.sub 1 1 (by simp)
    rw [fewF_drop hlt] at hf
    refine rn_ ?_; intros
    refine go_q (by rw [hnt]; rfl) (quiet_index (by rw [hty]; rfl) (by rw [hty]; rfl) rfl rfl rfl (by omega) (by omega)) ?_
    refine rn_ ?_; intros
    refine go_q (by rw [hnt]; rfl) (quiet_load (by rw [hty]; rfl) rfl (by simp [TK.agg]) hatp1 rfl) ?_; refine rn_ ?_; intros
    refine x_split rfl rfl rfl (fun h220 => ?_) (fun h220 => ?_) <;> (refine st_ ?_; (refine ru_ ?_; intros))
    · refine x_retc rfl hQ hmb rfl (by rw [hty]; simp only [so, sq, zy, zz, tyE, SO', SQ', opQ, opStore, opAlloc, ev, putS, dOk, cv, SV.cs, SV.one, SV.bool?, eqB, Value.oneCell', ldOwn, binInt, binConst, binBool, binStr, isC, TK.agg, rv, rv1, ldV, resOne, resV, Nat.reduceAdd, Nat.reduceMul, Nat.reduceSub, Nat.reduceLT, Nat.reduceLeDiff, Nat.reduceEqDiff, Nat.reduceBEq, reduceIte, reduceCtorEq, eq_self]; try rfl) rfl ?_; simp only [SV.den, resV, dens]
      have := of_decide_eq_true h220
      rw [hfew, hf, decide_eq_false (by omega)]
      rfl
    rw [decide_eq_true (by have := of_decide_eq_false h220; omega), Bool.true_and] at hf
    refine go_keep [1, 3, 4] [0] ?_
    refine st_ ?_
    refine x_loop rfl (fun q s => ∃ k : Nat, k ≤ (fu l i).nodes.length ∧ q = (fu l i).nodes.length - k ∧ fewF l = (fewN ((fu l i).nodes.drop k) && fewF (l.drop (i + 1))) ∧
      s = ⟨[(1, .p 0 b1 0), (3, .v (.int .i64 i)), (4, .v (.int .i64 k))], [(0, b1, .c 24 [.v (.slice (some ⟨bp, op, none⟩) l.length capp)])], G, []⟩) ⟨0, by omega, rfl, hf, rfl⟩ ?_
    clear hf
    rintro q s ⟨k, hk, hq, hf, rfl⟩ ihk
    refine rn_ ?_; intros
    refine go_q (by rw [hnt]; rfl) (quiet_index (by rw [hty]; rfl) (by rw [hty]; rfl) rfl rfl rfl (by omega) (by omega)) ?_
    refine rn_ ?_; intros
    refine go_q (by rw [hnt]; rfl) (quiet_load (by rw [hty]; rfl) rfl (by simp [TK.agg]) hatp1 rfl) ?_; refine rn_ ?_; intros
    refine x_if rfl rfl rfl rfl (fun hkl => ?_) (fun hkl => ?_)
    · have hkt : k < (fu l i).nodes.length := by simp at hkl; omega
      obtain ⟨bn, offn, capn', cn, hse, hatn, sl, rfl, hop, hnn, hsl⟩ := Rp.S_get hnp0 hkt
      cases hse
      have hs63 := Rp.S_len hsl
      obtain ⟨ads, caps, rfl⟩ := Rp.S_slice hsl
      have hatn2 : At G bn (offn + k * 3 + 2) [.slice ads (fu l i).nodes[k].l.length caps] := by simpa [rN] using hatn.sub 2 1 (by simp)
      rw [fewN_drop hkt] at hf
      refine rn_ ?_; intros
      refine go_q (by rw [hnt]; rfl) (quiet_index (by rw [hty]; rfl) (by rw [hty]; rfl) rfl rfl rfl (by omega) (by omega)) ?_
      refine rn_ ?_; intros
      refine go_q (by rw [hnt]; rfl) (quiet_load (by rw [hty]; rfl) rfl (by simp [TK.agg]) hatp1 rfl) ?_; refine rn_ ?_; intros
      refine go_q (by rw [hnt]; rfl) (quiet_index (by rw [hty]; rfl) (by rw [hty]; rfl) rfl rfl rfl (by omega) (by omega)) ?_
      refine rn_ ?_; intros
      refine go_q (by rw [hnt]; rfl) (quiet_load (by rw [hty]; rfl) rfl (by simp [TK.agg]) hatn2 rfl) ?_; refine rn_ ?_; intros
      refine x_split rfl rfl rfl (fun h20 => ?_) (fun h20 => ?_) <;> (refine st_ ?_; (refine ru_ ?_; intros))
      · refine x_retc rfl hQ hmb rfl (by rw [hty]; simp only [so, sq, zy, zz, tyE, SO', SQ', opQ, opStore, opAlloc, ev, putS, dOk, cv, SV.cs, SV.one, SV.bool?, eqB, Value.oneCell', ldOwn, binInt, binConst, binBool, binStr, isC, TK.agg, rv, rv1, ldV, resOne, resV, Nat.reduceAdd, Nat.reduceMul, Nat.reduceSub, Nat.reduceLT, Nat.reduceLeDiff, Nat.reduceEqDiff, Nat.reduceBEq, reduceIte, reduceCtorEq, eq_self]; try rfl) rfl ?_; simp only [SV.den, resV, dens]
        have := of_decide_eq_true h20
        rw [hfew, hf, decide_eq_false (by omega)]
        rfl
      rw [decide_eq_true (by have := of_decide_eq_false h20; omega), Bool.true_and] at hf
      rw [wr (n := (k : Int) + 1) (by omega) (by omega)]
      refine go_keep [1, 3, 4] [0] ?_
      refine st_ ?_
      exact ihk ((fu l i).nodes.length - (k + 1)) _ (by omega) ⟨k + 1, by omega, rfl, hf, by simp⟩
    have hge : k = (fu l i).nodes.length := by simp at hkl; omega
    subst hge
    clear ihk hkl
    rw [List.drop_length] at hf
    refine rn_ ?_; intros
    rw [wr (n := (i : Int) + 1) (by omega) (by omega)]
    refine go_keep [1, 3] [0] ?_
    refine st_ ?_
    exact ih (l.length - (i + 1)) _ (by omega) ⟨i + 1, by omega, rfl, by simpa [fewN] using hf, by simp⟩
  have hge : i = l.length := by simp at hil; omega
  subst hge
  clear ih hil
  rw [List.drop_length] at hf
  refine rn_ ?_; intros
  refine x_retc rfl hQ hmb rfl (by rw [hty]; simp only [so, sq, zy, zz, tyE, SO', SQ', opQ, opStore, opAlloc, ev, putS, dOk, cv, SV.cs, SV.one, SV.bool?, eqB, Value.oneCell', ldOwn, binInt, binConst, binBool, binStr, isC, TK.agg, rv, rv1, ldV, resOne, resV, Nat.reduceAdd, Nat.reduceMul, Nat.reduceSub, Nat.reduceLT, Nat.reduceLeDiff, Nat.reduceEqDiff, Nat.reduceBEq, reduceIte, reduceCtorEq, eq_self]; try rfl) rfl ?_; simp only [SV.den, resV, dens]
  rw [hfew, hf]; rfl

theorem imageEncodes_ok (p : Pr) (ps : Value) (G : Hp) (hps : rF.S G p ps) : Pure Try.prog 3 [.agg #[ps]] G (fun r _ => r = .bool true) := by
  have hps0 := hps
  obtain ⟨adp, capp, rfl⟩ := Rp.S_slice hps
  refine enterX ty tyok Try.func3 rfl Try.ntmps3 [.a [.v (.slice adp p.length capp)]] (by simp) ?_
  intro C hP hQ hnt hty hmb hmh hro; have hQp := qp_body hQ; refine st_ ?_
  refine rn_ ?_; intros
  refine go_callf (by rw [hnt]; rfl) (by rw [hP]; kernel_rfl) rfl (hP ▸ few8_ok p _ G hps0) ?_; refine rn_ ?_; intros
  refine x_split rfl rfl rfl (fun hf => ?_) (fun hf => ?_) <;> (refine st_ ?_; (refine ru_ ?_; intros))
  · refine go_callf (by rw [hnt]; rfl) (by rw [hP]; kernel_rfl) rfl (hP ▸ works_ok _) ?_; refine rn_ ?_; intros
    refine x_retc rfl hQ hmb rfl (by rw [hty]; simp only [so, sq, zy, zz, tyE, SO', SQ', opQ, opStore, opAlloc, ev, putS, dOk, cv, SV.cs, SV.one, SV.bool?, eqB, Value.oneCell', ldOwn, binInt, binConst, binBool, binStr, isC, TK.agg, rv, rv1, ldV, resOne, resV, Nat.reduceAdd, Nat.reduceMul, Nat.reduceSub, Nat.reduceLT, Nat.reduceLeDiff, Nat.reduceEqDiff, Nat.reduceBEq, reduceIte, reduceCtorEq, eq_self]; try rfl) rfl ?_; simp only [SV.den, resV, dens]
  refine rn_ ?_; intros
  refine go_callr 41 (by rw [hnt]; rfl) (by rw [hP]; kernel_rfl) rfl rfl (by omega) (hP ▸ iencode_ok p _ G hps0) ?_
  rintro v G2 r e size n xs (hle2 : Le G G2) ⟨rfl, rfl, rfl, rfl, rfl⟩
  rcases Bool.eq_false_or_eq_true (rgtP p) with hr | hr
  · have hne : (encR p).1 ≠ [] := by simp [encR, hr, sealB, le4]
    refine go_rowcases 41 rfl (fun _ h0 _ => absurd (List.length_eq_zero_iff.1 h0) hne) ?_
    intro g2 cap2 hse2 hcap2 _
    subst hse2
    refine st_ ?_
    refine rn_ ?_; intros
    refine go_callf (by rw [hnt]; rfl) (by rw [hP]; kernel_rfl) rfl (hP ▸ isize_ok p _ _ (Rp.S_mono hle2 hps0)) ?_; refine rn_ ?_; intros
    refine go_call (by rw [hnt]; rfl) (by rw [hP]; kernel_rfl) rfl (hP ▸ rencode_ok p _ _ (Rp.S_mono hle2 hps0)) ?_
    rintro v G3 (hle3 : Le G2 G3) ⟨sl, rfl, ⟨hS3, ad3, cap3, rfl, _⟩, hno⟩
    refine st_ ?_
    refine rn_ ?_; intros
    obtain ⟨b5, off5, rfl, hat5⟩ := rB_src hS3 hne
    refine go_q (v := .string (strOfNums (encR p).1)) (by rw [hnt]; rfl) (quiet_strG (by rw [hty]; rfl) (by rw [hty]; rfl) (by rw [hty]; rfl) rfl rfl rfl (.inr ⟨_, _, rfl, .inr ⟨rfl, 41, _, _, _, _, rfl⟩⟩)) ?_
    refine rn_ ?_; intros
    refine go_q (v := .string (strOfNums (encR p).1)) (by rw [hnt]; rfl) (quiet_strG (by rw [hty]; rfl) (by rw [hty]; rfl) (by rw [hty]; rfl) rfl rfl rfl (.inr ⟨_, _, rfl, .inl hat5⟩)) ?_
    refine rn_ ?_; intros
    try simp only [beq_self_eq_true]
    repeat ((refine go_gsplit rfl rfl (fun _ => ?_) (fun hc => absurd hc (by first | decide +kernel | simp)); refine st_ ?_; (refine rn_ ?_; intros)))
    refine go_callf (by rw [hnt]; rfl) (by rw [hP]; kernel_rfl) rfl (hP ▸ inum_ok (encR p).2 _) ?_; refine rn_ ?_; intros
    try simp only [beq_self_eq_true]
    repeat ((refine go_gsplit rfl rfl (fun _ => ?_) (fun hc => absurd hc (by first | decide +kernel | simp)); refine st_ ?_; (refine rn_ ?_; intros)))
    refine rn_ ?_; intros
    try simp only [beq_self_eq_true]
    repeat ((refine go_gsplit rfl rfl (fun _ => ?_) (fun hc => absurd hc (by first | decide +kernel | simp)); refine st_ ?_; (refine rn_ ?_; intros)))
    refine go_callf (by rw [hnt]; rfl) (by rw [hP]; kernel_rfl) rfl (hP ▸ inum_ok (encR p).2 _) ?_; refine rn_ ?_; intros
    try simp only [beq_self_eq_true]
    repeat ((refine go_gsplit rfl rfl (fun _ => ?_) (fun hc => absurd hc (by first | decide +kernel | simp)); refine st_ ?_; (refine rn_ ?_; intros)))
    refine go_callf (by rw [hnt]; rfl) (by rw [hP]; kernel_rfl) rfl (hP ▸ works_ok _) ?_; refine rn_ ?_; intros
    refine x_retc rfl hQ hmb rfl (by rw [hty]; simp only [so, sq, zy, zz, tyE, SO', SQ', opQ, opStore, opAlloc, ev, putS, dOk, cv, SV.cs, SV.one, SV.bool?, eqB, Value.oneCell', ldOwn, binInt, binConst, binBool, binStr, isC, TK.agg, rv, rv1, ldV, resOne, resV, Nat.reduceAdd, Nat.reduceMul, Nat.reduceSub, Nat.reduceLT, Nat.reduceLeDiff, Nat.reduceEqDiff, Nat.reduceBEq, reduceIte, reduceCtorEq, eq_self]; try rfl) rfl ?_; simp only [SV.den, resV, dens]
  · have hz : (encR p).1 = [] := by simp [encR, hr]
    refine go_rowcases 41 rfl (fun hse h0 _ => ?_) (fun g2 cap2 hse hcap hx => ?_)
    · subst hse
      refine st_ ?_
      refine rn_ ?_; intros
      refine go_callf (by rw [hnt]; rfl) (by rw [hP]; kernel_rfl) rfl (hP ▸ isize_ok p _ _ (Rp.S_mono hle2 hps0)) ?_; refine rn_ ?_; intros
      refine go_call (by rw [hnt]; rfl) (by rw [hP]; kernel_rfl) rfl (hP ▸ rencode_ok p _ _ (Rp.S_mono hle2 hps0)) ?_
      rintro v G3 (hle3 : Le G2 G3) ⟨sl, rfl, ⟨hS3, ad3, cap3, rfl, _⟩, hno⟩
      refine st_ ?_
      refine rn_ ?_; intros
      have hno' := hno hr
      injection hno' with q1 q2 q3
      subst q1 q3
      refine go_q (v := .string (strOfNums (encR p).1)) (by rw [hnt]; rfl) (quiet_strG (by rw [hty]; rfl) (by rw [hty]; rfl) (by rw [hty]; rfl) rfl rfl h0 (.inl ⟨hz, .inl rfl⟩)) ?_
      refine rn_ ?_; intros
      refine go_q (v := .string (strOfNums (encR p).1)) (by rw [hnt]; rfl) (quiet_strG (by rw [hty]; rfl) (by rw [hty]; rfl) (by rw [hty]; rfl) rfl rfl rfl (.inl ⟨hz, .inl rfl⟩)) ?_
      refine rn_ ?_; intros
      try simp only [beq_self_eq_true]
      repeat ((refine go_gsplit rfl rfl (fun _ => ?_) (fun hc => absurd hc (by first | decide +kernel | simp)); refine st_ ?_; (refine rn_ ?_; intros)))
      refine go_callf (by rw [hnt]; rfl) (by rw [hP]; kernel_rfl) rfl (hP ▸ inum_ok (encR p).2 _) ?_; refine rn_ ?_; intros
      try simp only [beq_self_eq_true]
      repeat ((refine go_gsplit rfl rfl (fun _ => ?_) (fun hc => absurd hc (by first | decide +kernel | simp)); refine st_ ?_; (refine rn_ ?_; intros)))
      refine rn_ ?_; intros
      try simp only [beq_self_eq_true]
      repeat ((refine go_gsplit rfl rfl (fun _ => ?_) (fun hc => absurd hc (by first | decide +kernel | simp)); refine st_ ?_; (refine rn_ ?_; intros)))
      refine go_callf (by rw [hnt]; rfl) (by rw [hP]; kernel_rfl) rfl (hP ▸ inum_ok (encR p).2 _) ?_; refine rn_ ?_; intros
      try simp only [beq_self_eq_true]
      repeat ((refine go_gsplit rfl rfl (fun _ => ?_) (fun hc => absurd hc (by first | decide +kernel | simp)); refine st_ ?_; (refine rn_ ?_; intros)))
      refine go_callf (by rw [hnt]; rfl) (by rw [hP]; kernel_rfl) rfl (hP ▸ works_ok _) ?_; refine rn_ ?_; intros
      refine x_retc rfl hQ hmb rfl (by rw [hty]; simp only [so, sq, zy, zz, tyE, SO', SQ', opQ, opStore, opAlloc, ev, putS, dOk, cv, SV.cs, SV.one, SV.bool?, eqB, Value.oneCell', ldOwn, binInt, binConst, binBool, binStr, isC, TK.agg, rv, rv1, ldV, resOne, resV, Nat.reduceAdd, Nat.reduceMul, Nat.reduceSub, Nat.reduceLT, Nat.reduceLeDiff, Nat.reduceEqDiff, Nat.reduceBEq, reduceIte, reduceCtorEq, eq_self]; try rfl) rfl ?_; simp only [SV.den, resV, dens]
    · subst hse
      refine st_ ?_
      refine rn_ ?_; intros
      refine go_callf (by rw [hnt]; rfl) (by rw [hP]; kernel_rfl) rfl (hP ▸ isize_ok p _ _ (Rp.S_mono hle2 hps0)) ?_; refine rn_ ?_; intros
      refine go_call (by rw [hnt]; rfl) (by rw [hP]; kernel_rfl) rfl (hP ▸ rencode_ok p _ _ (Rp.S_mono hle2 hps0)) ?_
      rintro v G3 (hle3 : Le G2 G3) ⟨sl, rfl, ⟨hS3, ad3, cap3, rfl, _⟩, hno⟩
      refine st_ ?_
      refine rn_ ?_; intros
      have hno' := hno hr
      injection hno' with q1 q2 q3
      subst q1 q3
      refine go_q (v := .string (strOfNums (encR p).1)) (by rw [hnt]; rfl) (quiet_strG (by rw [hty]; rfl) (by rw [hty]; rfl) (by rw [hty]; rfl) rfl rfl rfl (.inr ⟨_, _, rfl, .inr ⟨rfl, 41, _, _, _, _, rfl⟩⟩)) ?_
      refine rn_ ?_; intros
      refine go_q (v := .string (strOfNums (encR p).1)) (by rw [hnt]; rfl) (quiet_strG (by rw [hty]; rfl) (by rw [hty]; rfl) (by rw [hty]; rfl) rfl rfl rfl (.inl ⟨hz, .inl rfl⟩)) ?_
      refine rn_ ?_; intros
      try simp only [beq_self_eq_true]
      repeat ((refine go_gsplit rfl rfl (fun _ => ?_) (fun hc => absurd hc (by first | decide +kernel | simp)); refine st_ ?_; (refine rn_ ?_; intros)))
      refine go_callf (by rw [hnt]; rfl) (by rw [hP]; kernel_rfl) rfl (hP ▸ inum_ok (encR p).2 _) ?_; refine rn_ ?_; intros
      try simp only [beq_self_eq_true]
      repeat ((refine go_gsplit rfl rfl (fun _ => ?_) (fun hc => absurd hc (by first | decide +kernel | simp)); refine st_ ?_; (refine rn_ ?_; intros)))
      refine rn_ ?_; intros
      try simp only [beq_self_eq_true]
      repeat ((refine go_gsplit rfl rfl (fun _ => ?_) (fun hc => absurd hc (by first | decide +kernel | simp)); refine st_ ?_; (refine rn_ ?_; intros)))
      refine go_callf (by rw [hnt]; rfl) (by rw [hP]; kernel_rfl) rfl (hP ▸ inum_ok (encR p).2 _) ?_; refine rn_ ?_; intros
      try simp only [beq_self_eq_true]
      repeat ((refine go_gsplit rfl rfl (fun _ => ?_) (fun hc => absurd hc (by first | decide +kernel | simp)); refine st_ ?_; (refine rn_ ?_; intros)))
      refine go_callf (by rw [hnt]; rfl) (by rw [hP]; kernel_rfl) rfl (hP ▸ works_ok _) ?_; refine rn_ ?_; intros
      refine x_retc rfl hQ hmb rfl (by rw [hty]; simp only [so, sq, zy, zz, tyE, SO', SQ', opQ, opStore, opAlloc, ev, putS, dOk, cv, SV.cs, SV.one, SV.bool?, eqB, Value.oneCell', ldOwn, binInt, binConst, binBool, binStr, isC, TK.agg, rv, rv1, ldV, resOne, resV, Nat.reduceAdd, Nat.reduceMul, Nat.reduceSub, Nat.reduceLT, Nat.reduceLeDiff, Nat.reduceEqDiff, Nat.reduceBEq, reduceIte, reduceCtorEq, eq_self]; try rfl) rfl ?_; simp only [SV.den, resV, dens]
end Go.Proofs.Ytpopbkiphdcilaa
namespace Go.Proofs.Ytpopbkiphdcilaa.imageEncodes
set_option linter.unusedSimpArgs false
set_option linter.unusedVariables false
open Go.ChangeShapes Go.WideShapes Go.ChangeAt Go.RowKit Go.Sx

set_option maxRecDepth 100000
theorem contract (H : Type) (enc : TypeId × Value → H) (W : World) (base : Nat) (args : Array Value) (ds gs : List (DataW H)) (before : List MemPlace)
    (hval : ∀ (j : Nat) t v, Try.f3.params[j]? = some t → args[j]? = some v → Value.okWide Try.prog W .any base t v)
    (hW : DataW.Whole enc Try.prog Try.f3.params.toList Rows.imageEncodesSpec.vars false W args.toList ds gs before) :
    Calls Try.prog 3 args W fun e W' => ∃ v, e = .returned v ∧ Rows.imageEncodesSpec.post enc Try.prog Try.f3 false true false false W args v W' := by
  have hW' := hW
  obtain ⟨p, q, hA0, hV, rfl, hfz, hnd⟩ := hW
  have hA : DataW.TrodAll enc Try.prog W 0 (fun _ => true) true Try.f3.params.toList args.toList ds p := hA0
  rw [Try.params3] at hA hval
  obtain ⟨v0, vs0, d0, ds0, p0, q0, hargs, rfl, rfl, h0, r0⟩ := trodAll_cons hA
  obtain ⟨rfl, rfl, rfl⟩ := trodAll_nil r0
  obtain rfl : args = #[v0] := by cases args; simp_all
  obtain ⟨rfl, rfl⟩ := trodVars_none hV
  clear hA0
  simp only [List.append_nil, List.nil_append] at hW'
  have h0k := h0
  obtain ⟨n0, hf0⟩ := h0
  obtain ⟨cs0, rfl, hsz0⟩ := okWide_struct Try.underlying24 (hval 0 24 v0 rfl rfl)
  obtain ⟨f0, ns0, hcs0, hr0⟩ := open_prog (w := W) hf0
  have hcs0' : cs0 = #[ns0] := by
    apply Array.ext'
    simpa [Value.cells] using hcs0
  subst hcs0'
  have hlt0 : ∀ x ∈ p0, x.block < W.heap.size := fun x hx => by simpa using hW'.lt x (by simp [hx])
  refine (imageEncodes_ok f0 ns0 (hp W) hr0 W (has_hp W)).mono ?_
  rintro e W' ⟨v, G', rfl, hg, rfl⟩
  have hb := hg.below
  exact ⟨_, rfl, post_below rfl rfl hW' (fun _ _ _ => (trodAll_cons_mk (shut_bool Try.underlying4 _) trodAll_mk0))
    (fun sp hsp => by have this := (trodAll_cons_mk (WideElems.Trod_stays laidOut (by kernel_rfl) (of_decide_eq_true (by kernel_rfl)) h0k (fun x hx => hb.same (hlt0 x hx)) (fun x hx => hsp x (by simp [hx]))) trodAll_mk0); simp only [List.append_nil, List.nil_append] at this; exact this)
    hb (ok_one (by kernel_rfl) rfl (okWide_bool_mk Try.underlying4 _))⟩

set_option maxRecDepth 100000 in
theorem lifted (os : Os) (started : os.Started) (H : Type) (enc : TypeId × Value → H) :
    ReturnsInHanded {} Try.checked os 3 .any (Rows.imageEncodesSpec.pre6 enc Try.prog Try.f3 Rows.imageEncodesRow.domain false) (Rows.imageEncodesSpec.post enc Try.prog Try.f3 false true false false) := by
  refine returnsInHanded_of_change (C := Try.checked) own started (by kernel_rfl) Try.func3
    (ChangeSpec.witness6 (enc := enc) (C := Try.checked) false ⟨#[], #[.agg #[.slice none 0 0]], []⟩ 8 (by kernel_rfl) (by kernel_rfl) (by kernel_rfl) (by kernel_rfl)) ?_
  intro W base args ds gs before hval hW _ _
  exact contract H enc W base args ds gs before hval hW

theorem over : Rows.imageEncodesRow.holds Try.pinned (OpenSpec.ofChange Rows.imageEncodesSpec) :=
  OpenClaim.holds_of_wide 3 Try.f3 rfl rfl rfl rfl rfl rfl rfl ⟨rfl, rfl, rfl, rfl, rfl⟩ rfl rfl rfl rfl rfl (by kernel_rfl) Try.func3 (by kernel_rfl)
    (of_decide_eq_true (by kernel_rfl)) (by unfold Func.isWrapper; first | (rw [if_pos (by decide +kernel)]; kernel_rfl) | (rw [if_neg (by decide +kernel)]; exact ⟨rfl, rfl⟩))
    (fun os started H enc _ => lifted os started H enc)

theorem proved : Rows.ImageEncodesSaid := over
end Go.Proofs.Ytpopbkiphdcilaa.imageEncodes

