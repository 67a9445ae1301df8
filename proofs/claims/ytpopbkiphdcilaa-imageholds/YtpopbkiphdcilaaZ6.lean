/-
  Rows.ImageHoldsSaid is proved here.
-/
import Derived.Test.YtpopbkiphdcilaaZ5
set_option linter.unusedSimpArgs false
set_option linter.unusedVariables false
namespace Go.Proofs.Ytpopbkiphdcilaa
set_option linter.unusedSimpArgs false
set_option linter.unusedVariables false
open Go.Sx
set_option maxHeartbeats 4000000
def fewP8 (l : Pr) : Bool := decide (l.length ≤ 8) && fewF l
theorem few8_ok (l : Pr) (ls : Value) (G : Hp) (hl : rF.S G l ls) : Pure Try.prog 9 [.agg #[ls]] G (fun r _ => r = .bool (fewP8 l)) := by
  have hl0 := hl
  have hl63 := Rp.S_len hl
  obtain ⟨adp, capp, rfl⟩ := Rp.S_slice hl
  refine enterX ty tyok Try.func9 rfl Try.ntmps9 [.a [.v (.slice adp l.length capp)]] (by simp) ?_
  intro C hP hQ hnt hty hmb hmh hro; have hQp := qp_body hQ; refine st_ ?_
  refine rn_ ?_; intros
  rename_i b1
  refine x_split rfl rfl rfl (fun h8 => ?_) (fun h8 => ?_) <;> (refine st_ ?_; (refine ru_ ?_; intros))
  · refine x_retc rfl hQ hmb rfl (by rw [hty]; simp only [so, sq, zy, zz, tyE, SO', SQ', opQ, opStore, opAlloc, ev, putS, dOk, cv, SV.cs, SV.one, SV.bool?, eqB, Value.oneCell', ldOwn, binInt, binConst, binBool, binStr, isC, TK.agg, rv, rv1, ldV, resOne, resV, Nat.reduceAdd, Nat.reduceMul, Nat.reduceSub, Nat.reduceLT, Nat.reduceLeDiff, Nat.reduceEqDiff, Nat.reduceBEq, reduceIte, reduceCtorEq, eq_self]; try rfl) rfl ?_; simp only [SV.den, resV, dens]
    have := of_decide_eq_true h8
    simp only [fewP8, decide_eq_false (show ¬ l.length ≤ 8 by omega), Bool.false_and]
  have h8' : l.length ≤ 8 := by have := of_decide_eq_false h8; omega
  have hfew : fewP8 l = fewF l := by simp [fewP8, h8']
  refine go_keep [1, 3] [0] ?_
  refine st_ ?_
  refine x_loop rfl (fun q s => ∃ i : Nat, i ≤ l.length ∧ q = l.length - i ∧ fewF l = fewF (l.drop i) ∧
    s = ⟨[(1, .p 0 b1 0), (3, .v (.int .i64 i))], [(0, b1, .c 24 [.v (.slice adp l.length capp)])], G, []⟩) ⟨0, by omega, rfl, rfl, rfl⟩ ?_
  rintro q s ⟨i, hi, hq, hf, rfl⟩ ih
  refine rn_ ?_; intros
  refine x_if rfl rfl rfl rfl (fun hil => ?_) (fun hil => ?_)
  · have hlt : i < l.length := by simp at hil; omega
    obtain ⟨bp, op, nsp, rfl, hatp, hpp, hnp⟩ := rF_at hl0 hlt
    have hn63 := Rp.S_len hnp
    have hnp0 := hnp
    obtain ⟨adn, capn, rfl⟩ := Rp.S_slice hnp
    have hatp1 : At G bp (op + i * 2 + 1) [.slice adn (fu l i).nodes.length capn] := by simpa using hatp.sub 1 1 (by simp)
    rw [fewF_drop hlt] at hf
    refine rn_ ?_; intros
    refine go_q (by rw [hnt]; rfl) (quiet_index (by rw [hty]; rfl) (by rw [hty]; rfl) rfl rfl rfl (by omega) (by omega)) ?_
    refine rn_ ?_; intros
    refine go_q (by rw [hnt]; rfl) (quiet_load (by rw [hty]; rfl) rfl (by simp [TK.agg]) hatp1 rfl) ?_; refine rn_ ?_; intros
    refine x_split rfl rfl rfl (fun h220 => ?_) (fun h220 => ?_) <;> (refine st_ ?_; (refine ru_ ?_; intros))
    · refine x_retc rfl hQ hmb rfl (by rw [hty]; simp only [so, sq, zy, zz, tyE, SO', SQ', opQ, opStore, opAlloc, ev, putS, dOk, cv, SV.cs, SV.one, SV.bool?, eqB, Value.oneCell', ldOwn, binInt, binConst, binBool, binStr, isC, TK.agg, rv, rv1, ldV, resOne, resV, Nat.reduceAdd, Nat.reduceMul, Nat.reduceSub, Nat.reduceLT, Nat.reduceLeDiff, Nat.reduceEqDiff, Nat.reduceBEq, reduceIte, reduceCtorEq, eq_self]; try rfl) rfl ?_; simp only [SV.den, resV, dens]
      have := of_decide_eq_true h220
      rw [hfew, hf, decide_eq_false (by omega)]
      rfl
    rw [decide_eq_true (by have := of_decide_eq_false h220; omega), Bool.true_and] at hf
    refine go_keep [1, 3, 4] [0] ?_
    refine st_ ?_
    refine x_loop rfl (fun q s => ∃ k : Nat, k ≤ (fu l i).nodes.length ∧ q = (fu l i).nodes.length - k ∧ fewF l = (fewN ((fu l i).nodes.drop k) && fewF (l.drop (i + 1))) ∧
      s = ⟨[(1, .p 0 b1 0), (3, .v (.int .i64 i)), (4, .v (.int .i64 k))], [(0, b1, .c 24 [.v (.slice (some ⟨bp, op, none⟩) l.length capp)])], G, []⟩) ⟨0, by omega, rfl, hf, rfl⟩ ?_
    clear hf
    rintro q s ⟨k, hk, hq, hf, rfl⟩ ihk
    refine rn_ ?_; intros
    refine go_q (by rw [hnt]; rfl) (quiet_index (by rw [hty]; rfl) (by rw [hty]; rfl) rfl rfl rfl (by omega) (by omega)) ?_
    refine rn_ ?_; intros
    refine go_q (by rw [hnt]; rfl) (quiet_load (by rw [hty]; rfl) rfl (by simp [TK.agg]) hatp1 rfl) ?_; refine rn_ ?_; intros
    refine x_if rfl rfl rfl rfl (fun hkl => ?_) (fun hkl => ?_)
    · have hkt : k < (fu l i).nodes.length := by simp at hkl; omega
      obtain ⟨bn, offn, capn', cn, hse, hatn, sl, rfl, hop, hnn, hsl⟩ := Rp.S_get hnp0 hkt
      cases hse
      have hs63 := Rp.S_len hsl
      obtain ⟨ads, caps, rfl⟩ := Rp.S_slice hsl
      have hatn2 : At G bn (offn + k * 3 + 2) [.slice ads (fu l i).nodes[k].l.length caps] := by simpa [rN] using hatn.sub 2 1 (by simp)
      rw [fewN_drop hkt] at hf
      refine rn_ ?_; intros
      refine go_q (by rw [hnt]; rfl) (quiet_index (by rw [hty]; rfl) (by rw [hty]; rfl) rfl rfl rfl (by omega) (by omega)) ?_
      refine rn_ ?_; intros
      refine go_q (by rw [hnt]; rfl) (quiet_load (by rw [hty]; rfl) rfl (by simp [TK.agg]) hatp1 rfl) ?_; refine rn_ ?_; intros
      refine go_q (by rw [hnt]; rfl) (quiet_index (by rw [hty]; rfl) (by rw [hty]; rfl) rfl rfl rfl (by omega) (by omega)) ?_
      refine rn_ ?_; intros
      refine go_q (by rw [hnt]; rfl) (quiet_load (by rw [hty]; rfl) rfl (by simp [TK.agg]) hatn2 rfl) ?_; refine rn_ ?_; intros
      refine x_split rfl rfl rfl (fun h20 => ?_) (fun h20 => ?_) <;> (refine st_ ?_; (refine ru_ ?_; intros))
      · refine x_retc rfl hQ hmb rfl (by rw [hty]; simp only [so, sq, zy, zz, tyE, SO', SQ', opQ, opStore, opAlloc, ev, putS, dOk, cv, SV.cs, SV.one, SV.bool?, eqB, Value.oneCell', ldOwn, binInt, binConst, binBool, binStr, isC, TK.agg, rv, rv1, ldV, resOne, resV, Nat.reduceAdd, Nat.reduceMul, Nat.reduceSub, Nat.reduceLT, Nat.reduceLeDiff, Nat.reduceEqDiff, Nat.reduceBEq, reduceIte, reduceCtorEq, eq_self]; try rfl) rfl ?_; simp only [SV.den, resV, dens]
        have := of_decide_eq_true h20
        rw [hfew, hf, decide_eq_false (by omega)]
        rfl
      rw [decide_eq_true (by have := of_decide_eq_false h20; omega), Bool.true_and] at hf
      rw [wr (n := (k : Int) + 1) (by omega) (by omega)]
      refine go_keep [1, 3, 4] [0] ?_
      refine st_ ?_
      exact ihk ((fu l i).nodes.length - (k + 1)) _ (by omega) ⟨k + 1, by omega, rfl, hf, by simp⟩
    have hge : k = (fu l i).nodes.length := by simp at hkl; omega
    subst hge
    clear ihk hkl
    rw [List.drop_length] at hf
    refine rn_ ?_; intros
    rw [wr (n := (i : Int) + 1) (by omega) (by omega)]
    refine go_keep [1, 3] [0] ?_
    refine st_ ?_
    exact ih (l.length - (i + 1)) _ (by omega) ⟨i + 1, by omega, rfl, by simpa [fewN] using hf, by simp⟩
  have hge : i = l.length := by simp at hil; omega
  subst hge
  clear ih hil
  rw [List.drop_length] at hf
  refine rn_ ?_; intros
  refine x_retc rfl hQ hmb rfl (by rw [hty]; simp only [so, sq, zy, zz, tyE, SO', SQ', opQ, opStore, opAlloc, ev, putS, dOk, cv, SV.cs, SV.one, SV.bool?, eqB, Value.oneCell', ldOwn, binInt, binConst, binBool, binStr, isC, TK.agg, rv, rv1, ldV, resOne, resV, Nat.reduceAdd, Nat.reduceMul, Nat.reduceSub, Nat.reduceLT, Nat.reduceLeDiff, Nat.reduceEqDiff, Nat.reduceBEq, reduceIte, reduceCtorEq, eq_self]; try rfl) rfl ?_; simp only [SV.den, resV, dens]
  rw [hfew, hf]; rfl

theorem imageEncodes_ok (p : Pr) (ps : Value) (G : Hp) (hps : rF.S G p ps) : Pure Try.prog 3 [.agg #[ps]] G (fun r _ => r = .bool true) := by
  have hps0 := hps
  obtain ⟨adp, capp, rfl⟩ := Rp.S_slice hps
  refine enterX ty tyok Try.func3 rfl Try.ntmps3 [.a [.v (.slice adp p.length capp)]] (by simp) ?_
  intro C hP hQ hnt hty hmb hmh hro; have hQp := qp_body hQ; refine st_ ?_
  refine rn_ ?_; intros
  refine go_callf (by rw [hnt]; rfl) (by rw [hP]; kernel_rfl) rfl (hP ▸ few8_ok p _ G hps0) ?_; refine rn_ ?_; intros
  refine x_split rfl rfl rfl (fun hf => ?_) (fun hf => ?_) <;> (refine st_ ?_; (refine ru_ ?_; intros))
  · refine go_callf (by rw [hnt]; rfl) (by rw [hP]; kernel_rfl) rfl (hP ▸ works_ok _) ?_; refine rn_ ?_; intros
    refine x_retc rfl hQ hmb rfl (by rw [hty]; simp only [so, sq, zy, zz, tyE, SO', SQ', opQ, opStore, opAlloc, ev, putS, dOk, cv, SV.cs, SV.one, SV.bool?, eqB, Value.oneCell', ldOwn, binInt, binConst, binBool, binStr, isC, TK.agg, rv, rv1, ldV, resOne, resV, Nat.reduceAdd, Nat.reduceMul, Nat.reduceSub, Nat.reduceLT, Nat.reduceLeDiff, Nat.reduceEqDiff, Nat.reduceBEq, reduceIte, reduceCtorEq, eq_self]; try rfl) rfl ?_; simp only [SV.den, resV, dens]
  refine rn_ ?_; intros
  refine go_callr 41 (by rw [hnt]; rfl) (by rw [hP]; kernel_rfl) rfl rfl (by omega) (hP ▸ iencode_ok p _ G hps0) ?_
  rintro v G2 r e size n xs (hle2 : Le G G2) ⟨rfl, rfl, rfl, rfl, rfl⟩
  rcases Bool.eq_false_or_eq_true (rgtP p) with hr | hr
  · have hne : (encR p).1 ≠ [] := by simp [encR, hr, sealB, le4]
    refine go_rowcases 41 rfl (fun _ h0 _ => absurd (List.length_eq_zero_iff.1 h0) hne) ?_
    intro g2 cap2 hse2 hcap2 _
    subst hse2
    refine st_ ?_
    refine rn_ ?_; intros
    refine go_callf (by rw [hnt]; rfl) (by rw [hP]; kernel_rfl) rfl (hP ▸ isize_ok p _ _ (Rp.S_mono hle2 hps0)) ?_; refine rn_ ?_; intros
    refine go_call (by rw [hnt]; rfl) (by rw [hP]; kernel_rfl) rfl (hP ▸ rencode_ok p _ _ (Rp.S_mono hle2 hps0)) ?_
    rintro v G3 (hle3 : Le G2 G3) ⟨sl, rfl, ⟨hS3, ad3, cap3, rfl, _⟩, hno⟩
    refine st_ ?_
    refine rn_ ?_; intros
    obtain ⟨b5, off5, rfl, hat5⟩ := rB_src hS3 hne
    refine go_q (v := .string (strOfNums (encR p).1)) (by rw [hnt]; rfl) (quiet_strG (by rw [hty]; rfl) (by rw [hty]; rfl) (by rw [hty]; rfl) rfl rfl rfl (.inr ⟨_, _, rfl, .inr ⟨rfl, 41, _, _, _, _, rfl⟩⟩)) ?_
    refine rn_ ?_; intros
    refine go_q (v := .string (strOfNums (encR p).1)) (by rw [hnt]; rfl) (quiet_strG (by rw [hty]; rfl) (by rw [hty]; rfl) (by rw [hty]; rfl) rfl rfl rfl (.inr ⟨_, _, rfl, .inl hat5⟩)) ?_
    refine rn_ ?_; intros
    try simp only [beq_self_eq_true]
    repeat ((refine go_gsplit rfl rfl (fun _ => ?_) (fun hc => absurd hc (by first | decide +kernel | simp)); refine st_ ?_; (refine rn_ ?_; intros)))
    refine go_callf (by rw [hnt]; rfl) (by rw [hP]; kernel_rfl) rfl (hP ▸ inum_ok (encR p).2 _) ?_; refine rn_ ?_; intros
    try simp only [beq_self_eq_true]
    repeat ((refine go_gsplit rfl rfl (fun _ => ?_) (fun hc => absurd hc (by first | decide +kernel | simp)); refine st_ ?_; (refine rn_ ?_; intros)))
    refine rn_ ?_; intros
    try simp only [beq_self_eq_true]
    repeat ((refine go_gsplit rfl rfl (fun _ => ?_) (fun hc => absurd hc (by first | decide +kernel | simp)); refine st_ ?_; (refine rn_ ?_; intros)))
    refine go_callf (by rw [hnt]; rfl) (by rw [hP]; kernel_rfl) rfl (hP ▸ inum_ok (encR p).2 _) ?_; refine rn_ ?_; intros
    try simp only [beq_self_eq_true]
    repeat ((refine go_gsplit rfl rfl (fun _ => ?_) (fun hc => absurd hc (by first | decide +kernel | simp)); refine st_ ?_; (refine rn_ ?_; intros)))
    refine go_callf (by rw [hnt]; rfl) (by rw [hP]; kernel_rfl) rfl (hP ▸ works_ok _) ?_; refine rn_ ?_; intros
    refine x_retc rfl hQ hmb rfl (by rw [hty]; simp only [so, sq, zy, zz, tyE, SO', SQ', opQ, opStore, opAlloc, ev, putS, dOk, cv, SV.cs, SV.one, SV.bool?, eqB, Value.oneCell', ldOwn, binInt, binConst, binBool, binStr, isC, TK.agg, rv, rv1, ldV, resOne, resV, Nat.reduceAdd, Nat.reduceMul, Nat.reduceSub, Nat.reduceLT, Nat.reduceLeDiff, Nat.reduceEqDiff, Nat.reduceBEq, reduceIte, reduceCtorEq, eq_self]; try rfl) rfl ?_; simp only [SV.den, resV, dens]
  · have hz : (encR p).1 = [] := by simp [encR, hr]
    refine go_rowcases 41 rfl (fun hse h0 _ => ?_) (fun g2 cap2 hse hcap hx => ?_)
    · subst hse
      refine st_ ?_
      refine rn_ ?_; intros
      refine go_callf (by rw [hnt]; rfl) (by rw [hP]; kernel_rfl) rfl (hP ▸ isize_ok p _ _ (Rp.S_mono hle2 hps0)) ?_; refine rn_ ?_; intros
      refine go_call (by rw [hnt]; rfl) (by rw [hP]; kernel_rfl) rfl (hP ▸ rencode_ok p _ _ (Rp.S_mono hle2 hps0)) ?_
      rintro v G3 (hle3 : Le G2 G3) ⟨sl, rfl, ⟨hS3, ad3, cap3, rfl, _⟩, hno⟩
      refine st_ ?_
      refine rn_ ?_; intros
      have hno' := hno hr
      injection hno' with q1 q2 q3
      subst q1 q3
      refine go_q (v := .string (strOfNums (encR p).1)) (by rw [hnt]; rfl) (quiet_strG (by rw [hty]; rfl) (by rw [hty]; rfl) (by rw [hty]; rfl) rfl rfl h0 (.inl ⟨hz, .inl rfl⟩)) ?_
      refine rn_ ?_; intros
      refine go_q (v := .string (strOfNums (encR p).1)) (by rw [hnt]; rfl) (quiet_strG (by rw [hty]; rfl) (by rw [hty]; rfl) (by rw [hty]; rfl) rfl rfl rfl (.inl ⟨hz, .inl rfl⟩)) ?_
      refine rn_ ?_; intros
      try simp only [beq_self_eq_true]
      repeat ((refine go_gsplit rfl rfl (fun _ => ?_) (fun hc => absurd hc (by first | decide +kernel | simp)); refine st_ ?_; (refine rn_ ?_; intros)))
      refine go_callf (by rw [hnt]; rfl) (by rw [hP]; kernel_rfl) rfl (hP ▸ inum_ok (encR p).2 _) ?_; refine rn_ ?_; intros
      try simp only [beq_self_eq_true]
      repeat ((refine go_gsplit rfl rfl (fun _ => ?_) (fun hc => absurd hc (by first | decide +kernel | simp)); refine st_ ?_; (refine rn_ ?_; intros)))
      refine rn_ ?_; intros
      try simp only [beq_self_eq_true]
      repeat ((refine go_gsplit rfl rfl (fun _ => ?_) (fun hc => absurd hc (by first | decide +kernel | simp)); refine st_ ?_; (refine rn_ ?_; intros)))
      refine go_callf (by rw [hnt]; rfl) (by rw [hP]; kernel_rfl) rfl (hP ▸ inum_ok (encR p).2 _) ?_; refine rn_ ?_; intros
      try simp only [beq_self_eq_true]
      repeat ((refine go_gsplit rfl rfl (fun _ => ?_) (fun hc => absurd hc (by first | decide +kernel | simp)); refine st_ ?_; (refine rn_ ?_; intros)))
      refine go_callf (by rw [hnt]; rfl) (by rw [hP]; kernel_rfl) rfl (hP ▸ works_ok _) ?_; refine rn_ ?_; intros
      refine x_retc rfl hQ hmb rfl (by rw [hty]; simp only [so, sq, zy, zz, tyE, SO', SQ', opQ, opStore, opAlloc, ev, putS, dOk, cv, SV.cs, SV.one, SV.bool?, eqB, Value.oneCell', ldOwn, binInt, binConst, binBool, binStr, isC, TK.agg, rv, rv1, ldV, resOne, resV, Nat.reduceAdd, Nat.reduceMul, Nat.reduceSub, Nat.reduceLT, Nat.reduceLeDiff, Nat.reduceEqDiff, Nat.reduceBEq, reduceIte, reduceCtorEq, eq_self]; try rfl) rfl ?_; simp only [SV.den, resV, dens]
    · subst hse
      refine st_ ?_
      refine rn_ ?_; intros
      refine go_callf (by rw [hnt]; rfl) (by rw [hP]; kernel_rfl) rfl (hP ▸ isize_ok p _ _ (Rp.S_mono hle2 hps0)) ?_; refine rn_ ?_; intros
      refine go_call (by rw [hnt]; rfl) (by rw [hP]; kernel_rfl) rfl (hP ▸ rencode_ok p _ _ (Rp.S_mono hle2 hps0)) ?_
      rintro v G3 (hle3 : Le G2 G3) ⟨sl, rfl, ⟨hS3, ad3, cap3, rfl, _⟩, hno⟩
      refine st_ ?_
      refine rn_ ?_; intros
      have hno' := hno hr
      injection hno' with q1 q2 q3
      subst q1 q3
      refine go_q (v := .string (strOfNums (encR p).1)) (by rw [hnt]; rfl) (quiet_strG (by rw [hty]; rfl) (by rw [hty]; rfl) (by rw [hty]; rfl) rfl rfl rfl (.inr ⟨_, _, rfl, .inr ⟨rfl, 41, _, _, _, _, rfl⟩⟩)) ?_
      refine rn_ ?_; intros
      refine go_q (v := .string (strOfNums (encR p).1)) (by rw [hnt]; rfl) (quiet_strG (by rw [hty]; rfl) (by rw [hty]; rfl) (by rw [hty]; rfl) rfl rfl rfl (.inl ⟨hz, .inl rfl⟩)) ?_
      refine rn_ ?_; intros
      try simp only [beq_self_eq_true]
      repeat ((refine go_gsplit rfl rfl (fun _ => ?_) (fun hc => absurd hc (by first | decide +kernel | simp)); refine st_ ?_; (refine rn_ ?_; intros)))
      refine go_callf (by rw [hnt]; rfl) (by rw [hP]; kernel_rfl) rfl (hP ▸ inum_ok (encR p).2 _) ?_; refine rn_ ?_; intros
      try simp only [beq_self_eq_true]
      repeat ((refine go_gsplit rfl rfl (fun _ => ?_) (fun hc => absurd hc (by first | decide +kernel | simp)); refine st_ ?_; (refine rn_ ?_; intros)))
      refine rn_ ?_; intros
      try simp only [beq_self_eq_true]
      repeat ((refine go_gsplit rfl rfl (fun _ => ?_) (fun hc => absurd hc (by first | decide +kernel | simp)); refine st_ ?_; (refine rn_ ?_; intros)))
      refine go_callf (by rw [hnt]; rfl) (by rw [hP]; kernel_rfl) rfl (hP ▸ inum_ok (encR p).2 _) ?_; refine rn_ ?_; intros
      try simp only [beq_self_eq_true]
      repeat ((refine go_gsplit rfl rfl (fun _ => ?_) (fun hc => absurd hc (by first | decide +kernel | simp)); refine st_ ?_; (refine rn_ ?_; intros)))
      refine go_callf (by rw [hnt]; rfl) (by rw [hP]; kernel_rfl) rfl (hP ▸ works_ok _) ?_; refine rn_ ?_; intros
      refine x_retc rfl hQ hmb rfl (by rw [hty]; simp only [so, sq, zy, zz, tyE, SO', SQ', opQ, opStore, opAlloc, ev, putS, dOk, cv, SV.cs, SV.one, SV.bool?, eqB, Value.oneCell', ldOwn, binInt, binConst, binBool, binStr, isC, TK.agg, rv, rv1, ldV, resOne, resV, Nat.reduceAdd, Nat.reduceMul, Nat.reduceSub, Nat.reduceLT, Nat.reduceLeDiff, Nat.reduceEqDiff, Nat.reduceBEq, reduceIte, reduceCtorEq, eq_self]; try rfl) rfl ?_; simp only [SV.den, resV, dens]
end Go.Proofs.Ytpopbkiphdcilaa
namespace Go.Proofs.Ytpopbkiphdcilaa
set_option linter.unusedSimpArgs false
set_option linter.unusedVariables false
open Go.Sx
theorem sumE_app (l : List Int) (a b c d : Int) : sumE (l ++ [a, b, c, d]) = a.toNat + b.toNat * 256 + c.toNat * 65536 + d.toNat * 16777216 := by
  unfold sumE
  have e : (l ++ [a, b, c, d]).length = l.length + 4 := by simp
  rw [e, show l.length + 4 - 4 = l.length + 0 by omega, show l.length + 4 - 3 = l.length + 1 by omega, show l.length + 4 - 2 = l.length + 2 by omega, show l.length + 4 - 1 = l.length + 3 by omega]
  simp only [List.getD_eq_getElem?_getD, List.getElem?_append_right (Nat.le_add_right _ _), Nat.add_sub_cancel_left]
  rfl
theorem take_app4 (l : List Int) (a b c d : Int) : (l ++ [a, b, c, d]).take ((l ++ [a, b, c, d]).length - 4) = l := by
  rw [show (l ++ [a, b, c, d]).length - 4 = l.length by simp]
  simp
theorem rdS_app (l : List Int) (a b c d : Int) : rdS (l ++ [a, b, c, d]) = match rdL l with
    | none => none
    | some r => if a.toNat + b.toNat * 256 + c.toNat * 65536 + d.toNat * 16777216 = sumB l then some r else none := by
  rw [rdS, if_neg (by simp), take_app4, sumE_app]
  cases rdL l <;> rfl
theorem sm_inj : ∀ (l : List Int) (s t : Nat), s < 4294967296 → t < 4294967296 → sm s l = sm t l → s = t
  | [], s, t, _, _, h => h
  | x :: l, s, t, hs, ht, h => by
    have := sm_inj l _ _ (Nat.mod_lt _ (by omega)) (Nat.mod_lt _ (by omega)) h
    omega
theorem sm_set : ∀ (l : List Int) (i : Nat) (y : Int) (s : Nat) (hi : i < l.length), okB l → 0 ≤ y → y < 256 → s < 4294967296 → sm s (l.set i y) = sm s l → y = l[i]
  | x :: l, 0, y, s, _, hok, h0, h1, hs, h => by
    have hx := hok x (by simp)
    have := sm_inj l _ _ (Nat.mod_lt _ (by omega)) (Nat.mod_lt _ (by omega)) h
    simp only [List.getElem_cons_zero]; omega
  | x :: l, i + 1, y, s, hi, hok, h0, h1, hs, h => by
    have := sm_set l i y _ (by simpa using hi) (fun z hz => hok z (by simp [hz])) h0 h1 (Nat.mod_lt _ (by omega)) h
    simpa using this
theorem sumB_lt (l : List Int) : sumB l < 4294967296 := sm_lt l 1 (by omega)
theorem le4_sum (l : List Int) : ((sumB l % 256 : Nat) : Int).toNat + ((sumB l / 256 % 256 : Nat) : Int).toNat * 256 + ((sumB l / 65536 % 256 : Nat) : Int).toNat * 65536 + ((sumB l / 16777216 % 256 : Nat) : Int).toNat * 16777216 = sumB l := by
  have := sumB_lt l
  simp only [Int.toNat_natCast]
  omega
theorem rdS_seal (l : List Int) : rdS (sealB l) = rdL l := by
  rw [sealB, le4, rdS_app, le4_sum]
  cases rdL l with
  | none => rfl
  | some r => simp
theorem rdS_set {l : List Int} (hok : okB l) {i : Nat} (hi : i < (sealB l).length) {y : Int} (h0 : 0 ≤ y) (h1 : y < 256) (hne : y ≠ (sealB l)[i]) : rdS ((sealB l).set i y) = none := by
  by_cases hl : i < l.length
  · have e : (sealB l).set i y = l.set i y ++ le4 (sumB l) := by rw [sealB, List.set_append_left _ _ hl]
    rw [e, le4, rdS_app, le4_sum]
    cases rdL (l.set i y) with
    | none => rfl
    | some r =>
      simp only
      rw [if_neg]
      intro q
      have := sm_set l i y 1 hl hok h0 h1 (by omega) q.symm
      apply hne
      rw [this]
      simp [sealB, List.getElem_append_left hl]
  · obtain ⟨j, rfl⟩ : ∃ j, i = l.length + j := ⟨i - l.length, by omega⟩
    have hj : j < 4 := by simp [sealB, le4] at hi; omega
    have e : (sealB l).set (l.length + j) y = l ++ (le4 (sumB l)).set j y := by rw [sealB, List.set_append_right _ _ (by omega)]; congr 2; omega
    have g : (sealB l)[l.length + j] = (le4 (sumB l))[j]'(by simpa [le4] using hj) := by simp only [sealB]; rw [List.getElem_append_right (by omega)]; congr 1; omega
    rw [g] at hne
    rw [e]
    have hs := sumB_lt l
    have key : ∀ a b c d : Int, 0 ≤ a → 0 ≤ b → 0 ≤ c → 0 ≤ d → a < 256 → b < 256 → c < 256 → d < 256 → ¬ (a = ((sumB l % 256 : Nat) : Int) ∧ b = ((sumB l / 256 % 256 : Nat) : Int) ∧ c = ((sumB l / 65536 % 256 : Nat) : Int) ∧ d = ((sumB l / 16777216 % 256 : Nat) : Int)) → rdS (l ++ [a, b, c, d]) = none := by
      intro a b c d a0 b0 c0 d0 a1 b1 c1 d1 hn
      rw [rdS_app]
      cases rdL l with
      | none => rfl
      | some r =>
        simp only
        rw [if_neg]
        intro q
        apply hn
        generalize sumB l = s at *
        omega
    rcases (show j = 0 ∨ j = 1 ∨ j = 2 ∨ j = 3 by omega) with rfl | rfl | rfl | rfl
    · exact key _ _ _ _ (by omega) (by omega) (by omega) (by omega) (by omega) (by omega) (by omega) (by omega) (fun q => hne q.1)
    · exact key _ _ _ _ (by omega) (by omega) (by omega) (by omega) (by omega) (by omega) (by omega) (by omega) (fun q => hne q.2.1)
    · exact key _ _ _ _ (by omega) (by omega) (by omega) (by omega) (by omega) (by omega) (by omega) (by omega) (fun q => hne q.2.2.1)
    · exact key _ _ _ _ (by omega) (by omega) (by omega) (by omega) (by omega) (by omega) (by omega) (by omega) (fun q => hne q.2.2.2)
theorem rgt_okf {p : Pr} (h : rgtP p = true) : ∀ f ∈ p, (whr f).2 = 0 := by
  simp only [rgtP, whP, beq_iff_eq] at h
  split at h
  · simp at h
  · split at h
    · simp at h
    · rename_i hb
      exact badF_ok hb
theorem dec_enc {p : Pr} (hr : rgtP p = true) (hi : ∀ f ∈ p, ∀ x ∈ f.nodes, isI64 x.n) (hlen : (sealB (encB p)).length ≤ 1048576) : (decR (sealB (encB p))).2 = 0 ∧ (decR (sealB (encB p))).1.map (·.2) = p := by
  obtain ⟨r, h1, h2⟩ := rdL_wr (fun f hf => okf_of (rgt_okf hr f hf) (hi f hf)) (by have := (rgtP_len hr).2; omega)
  have e : decR (sealB (encB p)) = (r, 0) := by
    rw [decR, if_neg (by omega), rdS_seal, h1]
    simp only
    rw [h2, if_pos hr]
  rw [e]
  exact ⟨rfl, h2⟩
theorem enc_dec {b : List Int} (hb : okB b) (h : (decR b).2 = 0) : encR ((decR b).1.map (·.2)) = (b, 0) := by
  unfold decR at h ⊢
  split at h
  · simp at h
  rename_i hl
  rw [if_neg hl]
  cases hr : rdS b with
  | none => rw [hr] at h; simp at h
  | some r =>
    rw [hr] at h
    simp only at h ⊢
    split at h
    · rename_i hg
      rw [if_pos hg]
      simp only
      rw [encR, if_pos hg]
      congr 1
      unfold rdS at hr
      split at hr
      · cases hr
      rename_i h4
      cases hL : rdL (b.take (b.length - 4)) with
      | none => rw [hL] at hr; cases hr
      | some r2 =>
        rw [hL] at hr
        simp only at hr
        split at hr
        · rename_i hs
          injection hr with hr
          subst hr
          rw [rdL_enc (fun x hx => hb x (List.mem_of_mem_take hx)) hL, sealB, ← hs]
          obtain ⟨l, a, c, d, e, rfl⟩ : ∃ (l : List Int) (a c d e : Int), b = l ++ [a, c, d, e] := by
            refine ⟨b.take (b.length - 4), b[b.length - 4]'(by omega), b[b.length - 3]'(by omega), b[b.length - 2]'(by omega), b[b.length - 1]'(by omega), ?_⟩
            conv => lhs; rw [← List.take_append_drop (b.length - 4) b]
            congr 1
            rw [List.drop_eq_getElem_cons (by omega), List.drop_eq_getElem_cons (by omega), List.drop_eq_getElem_cons (by omega), List.drop_eq_getElem_cons (by omega), List.drop_eq_nil_of_le (by omega)]
            simp only [show b.length - 4 + 1 = b.length - 3 by omega, show b.length - 3 + 1 = b.length - 2 by omega, show b.length - 2 + 1 = b.length - 1 by omega]
          rw [take_app4, sumE_app]
          have ka := hb a (by simp)
          have kc := hb c (by simp)
          have kd := hb d (by simp)
          have ke := hb e (by simp)
          congr 1
          simp only [le4]
          congr 1
          · omega
          congr 1
          · omega
          congr 1
          · omega
          congr 1
          · omega
        · cases hr
    · simp at h
theorem dec_set {p : Pr} (hlen : (sealB (encB p)).length ≤ 1048576) {i : Nat} (hi : i < (sealB (encB p)).length) {y : Int} (h0 : 0 ≤ y) (h1 : y < 256) (hne : y ≠ (sealB (encB p))[i]) : (decR ((sealB (encB p)).set i y)).2 = 80 := by
  rw [decR, if_neg (by rw [List.length_set]; omega), rdS_set (encB_ok p) hi h0 h1 hne]
end Go.Proofs.Ytpopbkiphdcilaa
namespace Go.Proofs.Ytpopbkiphdcilaa
set_option linter.unusedSimpArgs false
set_option linter.unusedVariables false
open Go.Sx
set_option maxHeartbeats 4000000
end Go.Proofs.Ytpopbkiphdcilaa
namespace Go.Proofs.Ytpopbkiphdcilaa
set_option linter.unusedSimpArgs false
set_option linter.unusedVariables false
open Go.Sx
def nde (x y : Nd) : Bool := x.op == y.op && (x.n == y.n && x.l == y.l)
def ndL : List Nd → List Nd → Bool
  | [], [] => true
  | x :: l, y :: m => nde x y && ndL l m
  | _, _ => false
def fue (a b : Fu) : Bool := a.params == b.params && ndL a.nodes b.nodes
theorem ndL_len : ∀ {l m : List Nd}, ndL l m = true → l.length = m.length
  | [], [], _ => rfl
  | x :: l, y :: m, h => by
    simp only [ndL, Bool.and_eq_true] at h
    simp [ndL_len h.2]
  | [], _ :: _, h => by simp [ndL] at h
  | _ :: _, [], h => by simp [ndL] at h
theorem nde_refl (x : Nd) : nde x x = true := by simp [nde]
theorem ndL_refl : ∀ l : List Nd, ndL l l = true
  | [] => rfl
  | x :: l => by simp [ndL, nde_refl, ndL_refl l]
theorem fue_refl (a : Fu) : fue a a = true := by simp [fue, ndL_refl]
theorem ndL_drop {l m : List Nd} {k : Nat} (h1 : k < l.length) (h2 : k < m.length) : ndL (l.drop k) (m.drop k) = (nde l[k] m[k] && ndL (l.drop (k + 1)) (m.drop (k + 1))) := by
  rw [List.drop_eq_getElem_cons h1, List.drop_eq_getElem_cons h2]; rfl
theorem beq_drop {l m : List Int} {k : Nat} (h1 : k < l.length) (h2 : k < m.length) : (l.drop k == m.drop k) = (l[k] == m[k] && l.drop (k + 1) == m.drop (k + 1)) := by
  rw [List.drop_eq_getElem_cons h1, List.drop_eq_getElem_cons h2]; rfl
theorem beq_len {l m : List Int} (h : l.length ≠ m.length) : (l == m) = false := by
  rw [beq_eq_false_iff_ne]
  rintro rfl
  exact h rfl
set_option maxHeartbeats 4000000
theorem equal_ok (l m : List Int) (s1 s2 : Value) (G : Hp) (h1 : rI.S G l s1) (h2 : rI.S G m s2) : Pure Try.prog 51 [s1, s2] G (fun r _ => r = .bool (l == m)) := by
  obtain ⟨ad1, cap1, rfl⟩ := Rp.S_slice h1
  obtain ⟨ad2, cap2, rfl⟩ := Rp.S_slice h2
  have h63 := Rp.S_len h1
  refine enterX ty tyok Try.func51 rfl Try.ntmps51 [.v (.slice ad1 l.length cap1), .v (.slice ad2 m.length cap2)] (by simp) ?_
  intro C hP hQ hnt hty hmb hmh hro; have hQp := qp_body hQ; refine st_ ?_
  refine rn_ ?_; intros
  refine x_split rfl rfl rfl (fun hl => ?_) (fun hl => ?_) <;> (refine st_ ?_; (refine ru_ ?_; intros))
  · refine x_retc rfl hQ hmb rfl (by rw [hty]; simp only [so, sq, zy, zz, tyE, SO', SQ', opQ, opStore, opAlloc, ev, putS, dOk, cv, SV.cs, SV.one, SV.bool?, eqB, Value.oneCell', ldOwn, binInt, binConst, binBool, binStr, isC, TK.agg, rv, rv1, ldV, resOne, resV, Nat.reduceAdd, Nat.reduceMul, Nat.reduceSub, Nat.reduceLT, Nat.reduceLeDiff, Nat.reduceEqDiff, Nat.reduceBEq, reduceIte, reduceCtorEq, eq_self]; try rfl) rfl ?_; simp only [SV.den, resV, dens]
    rw [beq_len (by simp at hl; omega)]
  have hlm : l.length = m.length := by simp at hl; omega
  refine go_keep [0, 1, 12, 13] [] ?_
  refine st_ ?_
  refine x_loop rfl (fun q s => ∃ (k : Nat), k ≤ l.length ∧ q = l.length - k ∧ (l == m) = (l.drop k == m.drop k) ∧
    s = ⟨[(0, .v (.slice ad1 l.length cap1)), (1, .v (.slice ad2 m.length cap2)), (12, .v (.int .i64 l.length)), (13, .v (.int .i64 k))], [], G, []⟩) ⟨0, by omega, rfl, by simp, by simp⟩ ?_
  rintro q s ⟨k, hk, hq, hinv, rfl⟩ ih
  refine rn_ ?_; intros
  refine x_if rfl rfl rfl rfl (fun hjl => ?_) (fun hjl => ?_)
  · have hlt : k < l.length := by simp at hjl; omega
    obtain ⟨c1, o1, rfl, ha1⟩ := rI_at h1 (i := k) hlt
    obtain ⟨c2, o2, rfl, ha2⟩ := rI_at h2 (i := k) (by omega)
    rw [beq_drop hlt (by omega)] at hinv
    refine rn_ ?_; intros
    refine x_draw rfl (by rw [hP]; kernel_rfl) rfl (by kernel_rfl) ?_
    refine runq 400 hty hnt ?_; refine st_ ?_
    refine q_q (by rw [hnt]; rfl) (quiet_index (by rw [hty]; rfl) (by rw [hty]; rfl) rfl rfl rfl (by omega) (by omega)) ?_; refine runq 400 hty hnt ?_; refine st_ ?_
    refine q_q (by rw [hnt]; rfl) (quiet_load (vs := [.int .i64 l[k]]) (by rw [hty]; rfl) rfl (by simp [TK.agg]) (by simpa using ha1) rfl) ?_
    refine runq 400 hty hnt ?_; refine st_ ?_
    refine q_q (by rw [hnt]; rfl) (quiet_index (by rw [hty]; rfl) (by rw [hty]; rfl) rfl rfl rfl (by omega) (by omega)) ?_; refine runq 400 hty hnt ?_; refine st_ ?_
    refine q_q (by rw [hnt]; rfl) (quiet_load (vs := [.int .i64 m[k]]) (by rw [hty]; rfl) rfl (by simp [TK.agg]) (by simpa using ha2) rfl) ?_
    refine runq 400 hty hnt ?_; refine st_ ?_
    refine q_end ?_; refine rn_ ?_; intros
    refine x_split rfl rfl rfl (fun hne => ?_) (fun hne => ?_) <;> (refine st_ ?_; (refine ru_ ?_; intros))
    · refine x_retc rfl hQ hmb rfl (by rw [hty]; simp only [so, sq, zy, zz, tyE, SO', SQ', opQ, opStore, opAlloc, ev, putS, dOk, cv, SV.cs, SV.one, SV.bool?, eqB, Value.oneCell', ldOwn, binInt, binConst, binBool, binStr, isC, TK.agg, rv, rv1, ldV, resOne, resV, Nat.reduceAdd, Nat.reduceMul, Nat.reduceSub, Nat.reduceLT, Nat.reduceLeDiff, Nat.reduceEqDiff, Nat.reduceBEq, reduceIte, reduceCtorEq, eq_self]; try rfl) rfl ?_; simp only [SV.den, resV, dens]
      rw [hinv, beq_eq_false_iff_ne.2 (by simpa using hne)]; rfl
    · rw [wr (n := (k : Int) + 1) (by omega) (by omega)]
      refine go_keep [0, 1, 12, 13] [] ?_
      refine st_ ?_
      exact ih (l.length - (k + 1)) _ (by omega) ⟨k + 1, by omega, rfl, by rw [hinv, show (l[k] == m[k]) = true by simpa using hne]; rfl, by simp⟩
  · have hge : k = l.length := by simp at hjl; omega
    subst hge
    refine rn_ ?_; intros
    refine x_retc rfl hQ hmb rfl (by rw [hty]; simp only [so, sq, zy, zz, tyE, SO', SQ', opQ, opStore, opAlloc, ev, putS, dOk, cv, SV.cs, SV.one, SV.bool?, eqB, Value.oneCell', ldOwn, binInt, binConst, binBool, binStr, isC, TK.agg, rv, rv1, ldV, resOne, resV, Nat.reduceAdd, Nat.reduceMul, Nat.reduceSub, Nat.reduceLT, Nat.reduceLeDiff, Nat.reduceEqDiff, Nat.reduceBEq, reduceIte, reduceCtorEq, eq_self]; try rfl) rfl ?_; simp only [SV.den, resV, dens]
    rw [hinv, List.drop_length, hlm, List.drop_length]; rfl
theorem same1_ok (x y : Nd) (s1 s2 : Value) (G : Hp) (h1 : rI.S G x.l s1) (h2 : rI.S G y.l s2) : Pure Try.prog 50 [.agg #[.int .i64 x.op, .int .i64 x.n, s1], .agg #[.int .i64 y.op, .int .i64 y.n, s2]] G (fun r _ => r = .bool (nde x y)) := by
  have h1' := h1
  have h2' := h2
  obtain ⟨ad1, cap1, rfl⟩ := Rp.S_slice h1
  obtain ⟨ad2, cap2, rfl⟩ := Rp.S_slice h2
  refine enterX ty tyok Try.func50 rfl Try.ntmps50 [.a [.v (.int .i64 x.op), .v (.int .i64 x.n), .v (.slice ad1 x.l.length cap1)], .a [.v (.int .i64 y.op), .v (.int .i64 y.n), .v (.slice ad2 y.l.length cap2)]] (by simp) ?_
  intro C hP hQ hnt hty hmb hmh hro; have hQp := qp_body hQ; refine st_ ?_
  refine rn_ ?_; intros
  refine go_gsplit rfl rfl (fun g1 => ?_) (fun g1 => ?_) <;> (refine st_ ?_; (refine rn_ ?_; intros))
  · refine go_gsplit rfl rfl (fun g2 => ?_) (fun g2 => ?_) <;> (refine st_ ?_; (refine rn_ ?_; intros))
    · refine go_callf (by rw [hnt]; rfl) (by rw [hP]; kernel_rfl) rfl (hP ▸ equal_ok x.l y.l _ _ G h1' h2') ?_; refine rn_ ?_; intros
      refine x_retc rfl hQ hmb rfl (by rw [hty]; simp only [so, sq, zy, zz, tyE, SO', SQ', opQ, opStore, opAlloc, ev, putS, dOk, cv, SV.cs, SV.one, SV.bool?, eqB, Value.oneCell', ldOwn, binInt, binConst, binBool, binStr, isC, TK.agg, rv, rv1, ldV, resOne, resV, Nat.reduceAdd, Nat.reduceMul, Nat.reduceSub, Nat.reduceLT, Nat.reduceLeDiff, Nat.reduceEqDiff, Nat.reduceBEq, reduceIte, reduceCtorEq, eq_self]; try rfl) rfl ?_; simp only [SV.den, resV, dens]
      simp only [nde, g1, g2, Bool.true_and]
    · refine x_retc rfl hQ hmb rfl (by rw [hty]; simp only [so, sq, zy, zz, tyE, SO', SQ', opQ, opStore, opAlloc, ev, putS, dOk, cv, SV.cs, SV.one, SV.bool?, eqB, Value.oneCell', ldOwn, binInt, binConst, binBool, binStr, isC, TK.agg, rv, rv1, ldV, resOne, resV, Nat.reduceAdd, Nat.reduceMul, Nat.reduceSub, Nat.reduceLT, Nat.reduceLeDiff, Nat.reduceEqDiff, Nat.reduceBEq, reduceIte, reduceCtorEq, eq_self]; try rfl) rfl ?_; simp only [SV.den, resV, dens]
      simp only [nde, g1, g2, Bool.true_and, Bool.false_and]
  · repeat (first | (refine go_gsplit rfl rfl (fun hc => absurd hc (by first | decide +kernel | simp)) (fun _ => ?_); refine st_ ?_; (refine rn_ ?_; intros)) | (refine go_gsplit rfl rfl (fun _ => ?_) (fun hc => absurd hc (by first | decide +kernel | simp)); refine st_ ?_; (refine rn_ ?_; intros)) | (refine x_split rfl rfl rfl (fun hc => absurd hc (by first | decide +kernel | simp)) (fun _ => ?_); refine st_ ?_; (refine ru_ ?_; intros)) | (refine x_split rfl rfl rfl (fun _ => ?_) (fun hc => absurd hc (by first | decide +kernel | simp)); refine st_ ?_; (refine ru_ ?_; intros)))
    refine x_retc rfl hQ hmb rfl (by rw [hty]; simp only [so, sq, zy, zz, tyE, SO', SQ', opQ, opStore, opAlloc, ev, putS, dOk, cv, SV.cs, SV.one, SV.bool?, eqB, Value.oneCell', ldOwn, binInt, binConst, binBool, binStr, isC, TK.agg, rv, rv1, ldV, resOne, resV, Nat.reduceAdd, Nat.reduceMul, Nat.reduceSub, Nat.reduceLT, Nat.reduceLeDiff, Nat.reduceEqDiff, Nat.reduceBEq, reduceIte, reduceCtorEq, eq_self]; try rfl) rfl ?_; simp only [SV.den, resV, dens]
    simp only [nde, g1, Bool.false_and]
theorem eqfunc_ok (a b : Fu) (s1 s2 : Value) (G : Hp) (h1 : rN.S G a.nodes s1) (h2 : rN.S G b.nodes s2) :
    Pure Try.prog 49 [s1, s2, .func (.func 50) #[] #[]] G (fun r _ => r = .bool (ndL a.nodes b.nodes)) := by
  obtain ⟨ad1, cap1, rfl⟩ := Rp.S_slice h1
  obtain ⟨ad2, cap2, rfl⟩ := Rp.S_slice h2
  have h63 := Rp.S_len h1
  refine enterX ty tyok Try.func49 rfl Try.ntmps49 [.v (.slice ad1 a.nodes.length cap1), .v (.slice ad2 b.nodes.length cap2), .v (.func (.func 50) #[] #[])] (by simp) ?_
  intro C hP hQ hnt hty hmb hmh hro; have hQp := qp_body hQ; refine st_ ?_
  refine rn_ ?_; intros
  have hfalse : a.nodes.length ≠ b.nodes.length → ndL a.nodes b.nodes = false := fun h => by
    cases hq : ndL a.nodes b.nodes with
    | false => rfl
    | true => exact absurd (ndL_len hq) h
  refine x_split rfl rfl rfl (fun hl => ?_) (fun hl => ?_) <;> (refine st_ ?_; (refine ru_ ?_; intros))
  · refine x_retc rfl hQ hmb rfl (by rw [hty]; simp only [so, sq, zy, zz, tyE, SO', SQ', opQ, opStore, opAlloc, ev, putS, dOk, cv, SV.cs, SV.one, SV.bool?, eqB, Value.oneCell', ldOwn, binInt, binConst, binBool, binStr, isC, TK.agg, rv, rv1, ldV, resOne, resV, Nat.reduceAdd, Nat.reduceMul, Nat.reduceSub, Nat.reduceLT, Nat.reduceLeDiff, Nat.reduceEqDiff, Nat.reduceBEq, reduceIte, reduceCtorEq, eq_self]; try rfl) rfl ?_; simp only [SV.den, resV, dens]
    rw [hfalse (by simp at hl; omega)]
  have hlm : a.nodes.length = b.nodes.length := by simp at hl; omega
  refine go_keep [0, 1, 2, 15, 16, 17] [] ?_
  refine st_ ?_
  refine x_loop rfl (fun q s => ∃ (k : Nat) (G' : Hp), k ≤ a.nodes.length ∧ q = a.nodes.length - k ∧ Le G G' ∧ ndL a.nodes b.nodes = ndL (a.nodes.drop k) (b.nodes.drop k) ∧
    s = ⟨[(0, .v (.slice ad1 a.nodes.length cap1)), (1, .v (.slice ad2 b.nodes.length cap2)), (2, .v (.func (.func 50) #[] #[])), (15, .v (.slice ad1 a.nodes.length cap1)), (16, .v (.int .i64 a.nodes.length)), (17, .v (.int .i64 k))], [], G', []⟩) ⟨0, G, by omega, rfl, Le.refl _, by simp, by simp⟩ ?_
  rintro q s ⟨k, G0, hk, hq, hle, hinv, rfl⟩ ih
  refine rn_ ?_; intros
  refine x_if rfl rfl rfl rfl (fun hjl => ?_) (fun hjl => ?_)
  · have hlt : k < a.nodes.length := by simp at hjl; omega
    rw [ndL_drop hlt (by omega)] at hinv
    obtain ⟨b1, o1, c1, cs1, hse1, hat1, sl1, rfl, hop1, hn1, hsl1⟩ := Rp.S_get h1 (i := k) (by omega)
    cases hse1
    have hsl1' := hsl1
    obtain ⟨_, ae1, ce1, rfl, _⟩ := hsl1
    have hat1' : At G b1 (o1 + k * 3) [.int .i64 a.nodes[k].op, .int .i64 a.nodes[k].n, .slice ae1 a.nodes[k].l.length ce1] := by simpa [rN] using hat1
    obtain ⟨b2, o2, c2, cs2, hse2, hat2, sl2, rfl, hop2, hn2, hsl2⟩ := Rp.S_get h2 (i := k) (by omega)
    cases hse2
    have hsl2' := hsl2
    obtain ⟨_, ae2, ce2, rfl, _⟩ := hsl2
    have hat2' : At G b2 (o2 + k * 3) [.int .i64 b.nodes[k].op, .int .i64 b.nodes[k].n, .slice ae2 b.nodes[k].l.length ce2] := by simpa [rN] using hat2
    refine rn_ ?_; intros
    refine go_q (by rw [hnt]; rfl) (quiet_index (by rw [hty]; rfl) (by rw [hty]; rfl) rfl rfl rfl (by omega) (by omega)) ?_
    refine rn_ ?_; intros
    refine go_q (by rw [hnt]; rfl) (quiet_load (by rw [hty]; rfl) rfl (by simp [TK.agg]) (hat1'.mono hle) rfl) ?_
    refine rn_ ?_; intros
    refine go_q (by rw [hnt]; rfl) (quiet_index (by rw [hty]; rfl) (by rw [hty]; rfl) rfl rfl rfl (by omega) (by omega)) ?_
    refine rn_ ?_; intros
    refine go_q (by rw [hnt]; rfl) (quiet_load (by rw [hty]; rfl) rfl (by simp [TK.agg]) (hat2'.mono hle) rfl) ?_
    refine rn_ ?_; intros
    refine go_callw (cap := []) (by rw [hnt]; rfl) (by rw [hP]; kernel_rfl) rfl rfl rfl (by rw [hP]; exact same1_ok a.nodes[k] b.nodes[k] _ _ G0 (Rp.S_mono hle hsl1') (Rp.S_mono hle hsl2')) ?_
    rintro v G1 (hle1 : Le G0 G1) rfl
    refine rn_ ?_; intros
    refine x_split rfl rfl rfl (fun hne => ?_) (fun hne => ?_) <;> (refine st_ ?_; (refine ru_ ?_; intros))
    · refine x_retc rfl hQ hmb rfl (by rw [hty]; simp only [so, sq, zy, zz, tyE, SO', SQ', opQ, opStore, opAlloc, ev, putS, dOk, cv, SV.cs, SV.one, SV.bool?, eqB, Value.oneCell', ldOwn, binInt, binConst, binBool, binStr, isC, TK.agg, rv, rv1, ldV, resOne, resV, Nat.reduceAdd, Nat.reduceMul, Nat.reduceSub, Nat.reduceLT, Nat.reduceLeDiff, Nat.reduceEqDiff, Nat.reduceBEq, reduceIte, reduceCtorEq, eq_self]; try rfl) rfl ?_; simp only [SV.den, resV, dens]
      rw [hinv, show nde a.nodes[k] b.nodes[k] = false by simpa using hne]; rfl
    · rw [wr (n := (k : Int) + 1) (by omega) (by omega)]
      refine go_keep [0, 1, 2, 15, 16, 17] [] ?_
      refine st_ ?_
      exact ih (a.nodes.length - (k + 1)) _ (by omega) ⟨k + 1, G1, by omega, rfl, hle.trans hle1, by rw [hinv, show nde a.nodes[k] b.nodes[k] = true by simpa using hne]; rfl, by simp⟩
  · have hge : k = a.nodes.length := by simp at hjl; omega
    subst hge
    refine rn_ ?_; intros
    refine x_retc rfl hQ hmb rfl (by rw [hty]; simp only [so, sq, zy, zz, tyE, SO', SQ', opQ, opStore, opAlloc, ev, putS, dOk, cv, SV.cs, SV.one, SV.bool?, eqB, Value.oneCell', ldOwn, binInt, binConst, binBool, binStr, isC, TK.agg, rv, rv1, ldV, resOne, resV, Nat.reduceAdd, Nat.reduceMul, Nat.reduceSub, Nat.reduceLT, Nat.reduceLeDiff, Nat.reduceEqDiff, Nat.reduceBEq, reduceIte, reduceCtorEq, eq_self]; try rfl) rfl ?_; simp only [SV.den, resV, dens]
    rw [hinv, List.drop_length, hlm, List.drop_length]; rfl
theorem same_ok (a b : Fu) (s1 s2 : Value) (G : Hp) (h1 : rN.S G a.nodes s1) (h2 : rN.S G b.nodes s2) : Pure Try.prog 41 [.agg #[.int .i64 a.params, s1], .agg #[.int .i64 b.params, s2]] G (fun r _ => r = .bool (fue a b)) := by
  have h1' := h1
  have h2' := h2
  obtain ⟨ad1, cap1, rfl⟩ := Rp.S_slice h1
  obtain ⟨ad2, cap2, rfl⟩ := Rp.S_slice h2
  refine enterX ty tyok Try.func41 rfl Try.ntmps41 [.a [.v (.int .i64 a.params), .v (.slice ad1 a.nodes.length cap1)], .a [.v (.int .i64 b.params), .v (.slice ad2 b.nodes.length cap2)]] (by simp) ?_
  intro C hP hQ hnt hty hmb hmh hro; have hQp := qp_body hQ; refine st_ ?_
  refine rn_ ?_; intros
  refine go_gsplit rfl rfl (fun g1 => ?_) (fun g1 => ?_) <;> (refine st_ ?_; (refine rn_ ?_; intros))
  · refine go_callf (by rw [hnt]; rfl) (by rw [hP]; kernel_rfl) rfl (hP ▸ eqfunc_ok a b _ _ G h1' h2') ?_; refine rn_ ?_; intros
    refine x_retc rfl hQ hmb rfl (by rw [hty]; simp only [so, sq, zy, zz, tyE, SO', SQ', opQ, opStore, opAlloc, ev, putS, dOk, cv, SV.cs, SV.one, SV.bool?, eqB, Value.oneCell', ldOwn, binInt, binConst, binBool, binStr, isC, TK.agg, rv, rv1, ldV, resOne, resV, Nat.reduceAdd, Nat.reduceMul, Nat.reduceSub, Nat.reduceLT, Nat.reduceLeDiff, Nat.reduceEqDiff, Nat.reduceBEq, reduceIte, reduceCtorEq, eq_self]; try rfl) rfl ?_; simp only [SV.den, resV, dens]
    simp only [fue, g1, Bool.true_and]
  · refine x_retc rfl hQ hmb rfl (by rw [hty]; simp only [so, sq, zy, zz, tyE, SO', SQ', opQ, opStore, opAlloc, ev, putS, dOk, cv, SV.cs, SV.one, SV.bool?, eqB, Value.oneCell', ldOwn, binInt, binConst, binBool, binStr, isC, TK.agg, rv, rv1, ldV, resOne, resV, Nat.reduceAdd, Nat.reduceMul, Nat.reduceSub, Nat.reduceLT, Nat.reduceLeDiff, Nat.reduceEqDiff, Nat.reduceBEq, reduceIte, reduceCtorEq, eq_self]; try rfl) rfl ?_; simp only [SV.den, resV, dens]
    simp only [fue, g1, Bool.false_and]
theorem refsame_ok (a b : Fu) (s1 s2 : Value) (G : Hp) (h1 : rN.S G a.nodes s1) (h2 : rN.S G b.nodes s2) : Pure Try.prog 46 [.agg #[.int .i64 a.params, s1], .agg #[.int .i64 b.params, s2]] G (fun r _ => r = .bool (fue a b)) := by
  obtain ⟨ad1, cap1, rfl⟩ := Rp.S_slice h1
  obtain ⟨ad2, cap2, rfl⟩ := Rp.S_slice h2
  have h63 := Rp.S_len h1
  refine enterX ty tyok Try.func46 rfl Try.ntmps46 [.a [.v (.int .i64 a.params), .v (.slice ad1 a.nodes.length cap1)], .a [.v (.int .i64 b.params), .v (.slice ad2 b.nodes.length cap2)]] (by simp) ?_
  intro C hP hQ hnt hty hmb hmh hro; have hQp := qp_body hQ; refine st_ ?_
  refine rn_ ?_; intros
  rename_i c2 c3
  have hfalse : a.nodes.length ≠ b.nodes.length → ndL a.nodes b.nodes = false := fun h => by
    cases hq : ndL a.nodes b.nodes with
    | false => rfl
    | true => exact absurd (ndL_len hq) h
  refine go_gsplit rfl rfl (fun g1 => ?_) (fun g1 => ?_) <;> (refine st_ ?_; (refine rn_ ?_; intros))
  · refine x_retc rfl hQ hmb rfl (by rw [hty]; simp only [so, sq, zy, zz, tyE, SO', SQ', opQ, opStore, opAlloc, ev, putS, dOk, cv, SV.cs, SV.one, SV.bool?, eqB, Value.oneCell', ldOwn, binInt, binConst, binBool, binStr, isC, TK.agg, rv, rv1, ldV, resOne, resV, Nat.reduceAdd, Nat.reduceMul, Nat.reduceSub, Nat.reduceLT, Nat.reduceLeDiff, Nat.reduceEqDiff, Nat.reduceBEq, reduceIte, reduceCtorEq, eq_self]; try rfl) rfl ?_; simp only [SV.den, resV, dens]
    simp only [fue, beq_eq_false_iff_ne.2 (show a.params ≠ b.params by simpa using g1), Bool.false_and]
  have hpe : (a.params == b.params) = true := by simpa using g1
  refine x_split rfl rfl rfl (fun g2 => ?_) (fun g2 => ?_) <;> (refine st_ ?_; (refine ru_ ?_; intros))
  · refine x_retc rfl hQ hmb rfl (by rw [hty]; simp only [so, sq, zy, zz, tyE, SO', SQ', opQ, opStore, opAlloc, ev, putS, dOk, cv, SV.cs, SV.one, SV.bool?, eqB, Value.oneCell', ldOwn, binInt, binConst, binBool, binStr, isC, TK.agg, rv, rv1, ldV, resOne, resV, Nat.reduceAdd, Nat.reduceMul, Nat.reduceSub, Nat.reduceLT, Nat.reduceLeDiff, Nat.reduceEqDiff, Nat.reduceBEq, reduceIte, reduceCtorEq, eq_self]; try rfl) rfl ?_; simp only [SV.den, resV, dens]
    simp only [fue, hpe, Bool.true_and]
    rw [hfalse (by simp at g2; omega)]
  have hlm : a.nodes.length = b.nodes.length := by simp at g2; omega
  have hfu : fue a b = ndL a.nodes b.nodes := by simp only [fue, hpe, Bool.true_and]
  refine go_keep [2, 3, 5] [0, 1] ?_
  refine st_ ?_
  refine x_loop rfl (fun q s => ∃ (k : Nat), k ≤ a.nodes.length ∧ q = a.nodes.length - k ∧ ndL a.nodes b.nodes = ndL (a.nodes.drop k) (b.nodes.drop k) ∧
    s = ⟨[(2, .p 0 c2 0), (3, .p 1 c3 0), (5, .v (.int .i64 k))], [(0, c2, .c 59 [.v (.int .i64 a.params), .v (.slice ad1 a.nodes.length cap1)]), (1, c3, .c 59 [.v (.int .i64 b.params), .v (.slice ad2 b.nodes.length cap2)])], G, []⟩) ⟨0, by omega, rfl, by simp, by simp⟩ ?_
  rintro q s ⟨k, hk, hq, hinv, rfl⟩ ih
  refine rn_ ?_; intros
  refine x_if rfl rfl rfl rfl (fun hjl => ?_) (fun hjl => ?_)
  · have hlt : k < a.nodes.length := by simp at hjl; omega
    rw [ndL_drop hlt (by omega)] at hinv
    obtain ⟨b1, o1, c1, cs1, hse1, hat1, sl1, rfl, hop1, hn1, hsl1⟩ := Rp.S_get h1 (i := k) (by omega)
    cases hse1
    have hsl1' := hsl1
    obtain ⟨_, ae1, ce1, rfl, _⟩ := hsl1
    have hat1' : At G b1 (o1 + k * 3) [.int .i64 a.nodes[k].op, .int .i64 a.nodes[k].n, .slice ae1 a.nodes[k].l.length ce1] := by simpa [rN] using hat1
    obtain ⟨b2, o2, c2, cs2, hse2, hat2, sl2, rfl, hop2, hn2, hsl2⟩ := Rp.S_get h2 (i := k) (by omega)
    cases hse2
    have hsl2' := hsl2
    obtain ⟨_, ae2, ce2, rfl, _⟩ := hsl2
    have hat2' : At G b2 (o2 + k * 3) [.int .i64 b.nodes[k].op, .int .i64 b.nodes[k].n, .slice ae2 b.nodes[k].l.length ce2] := by simpa [rN] using hat2
    generalize hx : a.nodes[k] = x at *
    generalize hy : b.nodes[k] = y at *
    refine rn_ ?_; intros
    refine cut_tail 1 (fun s' => ∃ b6 b7, s' = ⟨[(2, .p 0 c2 0), (3, .p 1 c3 0), (5, .v (.int .i64 k)), (6, .p 10 b6 0), (7, .p 11 b7 0)], [(0, c2, .c 59 [.v (.int .i64 a.params), .v (.slice (some ⟨b1, o1, none⟩) a.nodes.length cap1)]), (1, c3, .c 59 [.v (.int .i64 b.params), .v (.slice (some ⟨b2, o2, none⟩) b.nodes.length cap2)]),
      (10, b6, .c 62 [.v (.int .i64 x.op), .v (.int .i64 x.n), .v (.slice ae1 x.l.length ce1)]), (11, b7, .c 62 [.v (.int .i64 y.op), .v (.int .i64 y.n), .v (.slice ae2 y.l.length ce2)])], G, []⟩) ?_ (fun key => ?_)
    rotate_left
    · simp only [List.drop_succ_cons, List.drop_zero] at key
      refine x_held [(0, c2, .c 59 [.v (.int .i64 a.params), .v (.slice (some ⟨b1, o1, none⟩) a.nodes.length cap1)]), (1, c3, .c 59 [.v (.int .i64 b.params), .v (.slice (some ⟨b2, o2, none⟩) b.nodes.length cap2)])] rfl (by rw [hP]; kernel_rfl) rfl rfl rfl ?_; refine st_ ?_
      refine h_take 0 rfl (by kernel_rfl) (by kernel_rfl) (by kernel_rfl) hQp (by rw [hnt]; rfl) (allIn (by repeat (first | exact trivial | refine ⟨rfl, ?_⟩))) (by first | exact Le.refl _ | assumption) (quiet_op (by rw [hty]; first | rfl | (refine st_ ?_; rfl))) ?_; refine st_ ?_
      refine h_take 1 rfl (by kernel_rfl) (by kernel_rfl) (by kernel_rfl) hQp (by rw [hnt]; rfl) (allIn (by repeat (first | exact trivial | refine ⟨rfl, ?_⟩))) (by first | exact Le.refl _ | assumption) (quiet_op (by rw [hty]; first | rfl | (refine st_ ?_; rfl))) ?_; refine st_ ?_
      refine h_take 2 rfl (by kernel_rfl) (by kernel_rfl) (by kernel_rfl) hQp (by rw [hnt]; rfl) (allIn (by repeat (first | exact trivial | refine ⟨rfl, ?_⟩))) (by first | exact Le.refl _ | assumption) (quiet_op (by rw [hty]; first | rfl | (refine st_ ?_; rfl))) ?_; refine st_ ?_
      refine h_take 3 rfl (by kernel_rfl) (by kernel_rfl) (by kernel_rfl) hQp (by rw [hnt]; rfl) (allIn (by repeat (first | exact trivial | refine ⟨rfl, ?_⟩))) (by first | exact Le.refl _ | assumption) (x := .v (.pointer (some ⟨b1, o1 + k * 3, none⟩))) ((quiet_index (by rw [hty]; rfl) (by rw [hty]; rfl) rfl rfl rfl (by omega) (by omega)).cast (by simp [SV.den])) ?_
      refine st_ ?_
      refine h_take 4 rfl (by kernel_rfl) (by kernel_rfl) (by kernel_rfl) hQp (by rw [hnt]; rfl) (allIn (by repeat (first | exact trivial | refine ⟨rfl, ?_⟩))) (by first | exact Le.refl _ | assumption) (x := .a [.v (.int .i64 x.op), .v (.int .i64 x.n), .v (.slice ae1 x.l.length ce1)]) ((quiet_load (by rw [hty]; rfl) rfl (by simp [TK.agg]) hat1' rfl).cast rfl) ?_
      refine st_ ?_
      refine h_take 5 rfl (by kernel_rfl) (by kernel_rfl) (by kernel_rfl) hQp (by rw [hnt]; rfl) (allIn (by repeat (first | exact trivial | refine ⟨rfl, ?_⟩))) (by first | exact Le.refl _ | assumption) (quiet_op (by rw [hty]; first | rfl | (refine st_ ?_; rfl))) ?_; refine st_ ?_
      refine h_take 6 rfl (by kernel_rfl) (by kernel_rfl) (by kernel_rfl) hQp (by rw [hnt]; rfl) (allIn (by repeat (first | exact trivial | refine ⟨rfl, ?_⟩))) (by first | exact Le.refl _ | assumption) (quiet_op (by rw [hty]; first | rfl | (refine st_ ?_; rfl))) ?_; refine st_ ?_
      refine h_take 7 rfl (by kernel_rfl) (by kernel_rfl) (by kernel_rfl) hQp (by rw [hnt]; rfl) (allIn (by repeat (first | exact trivial | refine ⟨rfl, ?_⟩))) (by first | exact Le.refl _ | assumption) (quiet_op (by rw [hty]; first | rfl | (refine st_ ?_; rfl))) ?_; refine st_ ?_
      refine h_take 8 rfl (by kernel_rfl) (by kernel_rfl) (by kernel_rfl) hQp (by rw [hnt]; rfl) (allIn (by repeat (first | exact trivial | refine ⟨rfl, ?_⟩))) (by first | exact Le.refl _ | assumption) (x := .v (.pointer (some ⟨b2, o2 + k * 3, none⟩))) ((quiet_index (by rw [hty]; rfl) (by rw [hty]; rfl) rfl rfl rfl (by omega) (by omega)).cast (by simp [SV.den])) ?_
      refine st_ ?_
      refine h_take 9 rfl (by kernel_rfl) (by kernel_rfl) (by kernel_rfl) hQp (by rw [hnt]; rfl) (allIn (by repeat (first | exact trivial | refine ⟨rfl, ?_⟩))) (by first | exact Le.refl _ | assumption) (x := .a [.v (.int .i64 y.op), .v (.int .i64 y.n), .v (.slice ae2 y.l.length ce2)]) ((quiet_load (by rw [hty]; rfl) rfl (by simp [TK.agg]) hat2' rfl).cast rfl) ?_
      refine st_ ?_
      refine h_two 10 11 rfl rfl (by kernel_rfl) ?_ ?_
      · refine go_newAt 10 (by rw [hnt]; rfl) (by rw [hty]; rfl) rfl (by omega) ?_
        intro b6
        refine st_ ?_
        refine rn_ ?_; intros
        refine h_hs (allIn (by repeat (first | exact trivial | refine ⟨rfl, ?_⟩))) (by first | exact Le.refl _ | assumption) ?_
        refine h_one 11 rfl (by kernel_rfl) ?_
        refine go_newAt 11 (by rw [hnt]; rfl) (by rw [hty]; rfl) rfl (by omega) ?_
        intro b7
        refine st_ ?_
        refine rn_ ?_; intros
        refine h_hs (allIn (by repeat (first | exact trivial | refine ⟨rfl, ?_⟩))) (by first | exact Le.refl _ | assumption) ?_
        refine h_one 12 rfl (by kernel_rfl) ?_
        refine rn_ ?_; intros
        refine h_hs (allIn (by repeat (first | exact trivial | refine ⟨rfl, ?_⟩))) (by first | exact Le.refl _ | assumption) ?_
        refine h_one 13 rfl (by kernel_rfl) ?_
        refine rn_ ?_; intros
        refine h_hs (allIn (by repeat (first | exact trivial | refine ⟨rfl, ?_⟩))) (by first | exact Le.refl _ | assumption) ?_
        refine h_end (by kernel_rfl) ?_
        refine go_keep [2, 3, 5, 6, 7] [0, 1, 10, 11] ?_
        refine st_ ?_
        exact key _ ⟨_, _, rfl⟩
      · refine go_newAt 11 (by rw [hnt]; rfl) (by rw [hty]; rfl) rfl (by omega) ?_
        intro b7
        refine st_ ?_
        refine rn_ ?_; intros
        refine h_hs (allIn (by repeat (first | exact trivial | refine ⟨rfl, ?_⟩))) (by first | exact Le.refl _ | assumption) ?_
        refine h_one 10 rfl (by kernel_rfl) ?_
        refine go_newAt 10 (by rw [hnt]; rfl) (by rw [hty]; rfl) rfl (by omega) ?_
        intro b6
        refine st_ ?_
        refine rn_ ?_; intros
        refine h_hs (allIn (by repeat (first | exact trivial | refine ⟨rfl, ?_⟩))) (by first | exact Le.refl _ | assumption) ?_
        refine h_one 12 rfl (by kernel_rfl) ?_
        refine rn_ ?_; intros
        refine h_hs (allIn (by repeat (first | exact trivial | refine ⟨rfl, ?_⟩))) (by first | exact Le.refl _ | assumption) ?_
        refine h_one 13 rfl (by kernel_rfl) ?_
        refine rn_ ?_; intros
        refine h_hs (allIn (by repeat (first | exact trivial | refine ⟨rfl, ?_⟩))) (by first | exact Le.refl _ | assumption) ?_
        refine h_end (by kernel_rfl) ?_
        refine go_keep [2, 3, 5, 6, 7] [0, 1, 10, 11] ?_
        refine st_ ?_
        exact key _ ⟨_, _, rfl⟩
    rintro s' ⟨b6, b7, rfl⟩
    simp only [List.drop_succ_cons, List.drop_zero]
    refine rn_ ?_; intros
    refine go_gsplit rfl rfl (fun e1 => ?_) (fun e1 => ?_) <;> (refine st_ ?_; (refine rn_ ?_; intros))
    · repeat (first | (refine go_gsplit rfl rfl (fun hc => absurd hc (by first | decide +kernel | simp)) (fun _ => ?_); refine st_ ?_; (refine rn_ ?_; intros)) | (refine go_gsplit rfl rfl (fun _ => ?_) (fun hc => absurd hc (by first | decide +kernel | simp)); refine st_ ?_; (refine rn_ ?_; intros)) | (refine x_split rfl rfl rfl (fun hc => absurd hc (by first | decide +kernel | simp)) (fun _ => ?_); refine st_ ?_; (refine ru_ ?_; intros)) | (refine x_split rfl rfl rfl (fun _ => ?_) (fun hc => absurd hc (by first | decide +kernel | simp)); refine st_ ?_; (refine ru_ ?_; intros)))
      refine x_retc rfl hQ hmb rfl (by rw [hty]; simp only [so, sq, zy, zz, tyE, SO', SQ', opQ, opStore, opAlloc, ev, putS, dOk, cv, SV.cs, SV.one, SV.bool?, eqB, Value.oneCell', ldOwn, binInt, binConst, binBool, binStr, isC, TK.agg, rv, rv1, ldV, resOne, resV, Nat.reduceAdd, Nat.reduceMul, Nat.reduceSub, Nat.reduceLT, Nat.reduceLeDiff, Nat.reduceEqDiff, Nat.reduceBEq, reduceIte, reduceCtorEq, eq_self]; try rfl) rfl ?_; simp only [SV.den, resV, dens]
      rw [hfu, hinv]; simp only [nde, beq_eq_false_iff_ne.2 (show x.op ≠ y.op by simpa using e1), Bool.false_and]
    have e1' : (x.op == y.op) = true := by simpa using e1
    refine go_gsplit rfl rfl (fun e2 => ?_) (fun e2 => ?_) <;> (refine st_ ?_; (refine rn_ ?_; intros))
    · repeat (first | (refine go_gsplit rfl rfl (fun hc => absurd hc (by first | decide +kernel | simp)) (fun _ => ?_); refine st_ ?_; (refine rn_ ?_; intros)) | (refine go_gsplit rfl rfl (fun _ => ?_) (fun hc => absurd hc (by first | decide +kernel | simp)); refine st_ ?_; (refine rn_ ?_; intros)) | (refine x_split rfl rfl rfl (fun hc => absurd hc (by first | decide +kernel | simp)) (fun _ => ?_); refine st_ ?_; (refine ru_ ?_; intros)) | (refine x_split rfl rfl rfl (fun _ => ?_) (fun hc => absurd hc (by first | decide +kernel | simp)); refine st_ ?_; (refine ru_ ?_; intros)))
      refine x_retc rfl hQ hmb rfl (by rw [hty]; simp only [so, sq, zy, zz, tyE, SO', SQ', opQ, opStore, opAlloc, ev, putS, dOk, cv, SV.cs, SV.one, SV.bool?, eqB, Value.oneCell', ldOwn, binInt, binConst, binBool, binStr, isC, TK.agg, rv, rv1, ldV, resOne, resV, Nat.reduceAdd, Nat.reduceMul, Nat.reduceSub, Nat.reduceLT, Nat.reduceLeDiff, Nat.reduceEqDiff, Nat.reduceBEq, reduceIte, reduceCtorEq, eq_self]; try rfl) rfl ?_; simp only [SV.den, resV, dens]
      rw [hfu, hinv]; simp only [nde, e1', beq_eq_false_iff_ne.2 (show x.n ≠ y.n by simpa using e2), Bool.false_and, Bool.true_and]
    have e2' : (x.n == y.n) = true := by simpa using e2
    have hnd : nde x y = (x.l == y.l) := by simp only [nde, e1', e2', Bool.true_and]
    refine x_split rfl rfl rfl (fun e3 => ?_) (fun e3 => ?_) <;> (refine st_ ?_; (refine ru_ ?_; intros))
    · refine x_retc rfl hQ hmb rfl (by rw [hty]; simp only [so, sq, zy, zz, tyE, SO', SQ', opQ, opStore, opAlloc, ev, putS, dOk, cv, SV.cs, SV.one, SV.bool?, eqB, Value.oneCell', ldOwn, binInt, binConst, binBool, binStr, isC, TK.agg, rv, rv1, ldV, resOne, resV, Nat.reduceAdd, Nat.reduceMul, Nat.reduceSub, Nat.reduceLT, Nat.reduceLeDiff, Nat.reduceEqDiff, Nat.reduceBEq, reduceIte, reduceCtorEq, eq_self]; try rfl) rfl ?_; simp only [SV.den, resV, dens]
      rw [hfu, hinv, hnd, beq_len (by simp at e3; omega)]; rfl
    have hll : x.l.length = y.l.length := by simp at e3; omega
    have h63' := Rp.S_len hsl1'
    refine go_keep [2, 3, 5, 6, 7, 8] [0, 1, 10, 11] ?_
    refine st_ ?_
    refine x_loop rfl (fun q s => ∃ (m : Nat), m ≤ x.l.length ∧ q = x.l.length - m ∧ (x.l == y.l) = (x.l.drop m == y.l.drop m) ∧
      s = ⟨[(2, .p 0 c2 0), (3, .p 1 c3 0), (5, .v (.int .i64 k)), (6, .p 10 b6 0), (7, .p 11 b7 0), (8, .v (.int .i64 m))], [(0, c2, .c 59 [.v (.int .i64 a.params), .v (.slice (some ⟨b1, o1, none⟩) a.nodes.length cap1)]), (1, c3, .c 59 [.v (.int .i64 b.params), .v (.slice (some ⟨b2, o2, none⟩) b.nodes.length cap2)]),
      (10, b6, .c 62 [.v (.int .i64 x.op), .v (.int .i64 x.n), .v (.slice ae1 x.l.length ce1)]), (11, b7, .c 62 [.v (.int .i64 y.op), .v (.int .i64 y.n), .v (.slice ae2 y.l.length ce2)])], G, []⟩) ⟨0, by omega, rfl, by simp, by simp⟩ ?_
    rintro q2 s ⟨m, hm, hq2, hinv2, rfl⟩ ih2
    refine rn_ ?_; intros
    refine x_if rfl rfl rfl rfl (fun hml => ?_) (fun hml => ?_)
    · have hlt2 : m < x.l.length := by simp at hml; omega
      obtain ⟨d1, p1, rfl, ha1⟩ := rI_at hsl1' (i := m) hlt2
      obtain ⟨d2, p2, rfl, ha2⟩ := rI_at hsl2' (i := m) (by omega)
      rw [beq_drop hlt2 (by omega)] at hinv2
      refine rn_ ?_; intros
      refine x_draw rfl (by rw [hP]; kernel_rfl) rfl (by kernel_rfl) ?_
      refine runq 400 hty hnt ?_; refine st_ ?_
      refine q_q (by rw [hnt]; rfl) (quiet_index (by rw [hty]; rfl) (by rw [hty]; rfl) rfl rfl rfl (by omega) (by omega)) ?_; refine runq 400 hty hnt ?_; refine st_ ?_
      refine q_q (by rw [hnt]; rfl) (quiet_load (vs := [.int .i64 x.l[m]]) (by rw [hty]; rfl) rfl (by simp [TK.agg]) (by simpa using ha1) rfl) ?_
      refine runq 400 hty hnt ?_; refine st_ ?_
      refine q_q (by rw [hnt]; rfl) (quiet_index (by rw [hty]; rfl) (by rw [hty]; rfl) rfl rfl rfl (by omega) (by omega)) ?_; refine runq 400 hty hnt ?_; refine st_ ?_
      refine q_q (by rw [hnt]; rfl) (quiet_load (vs := [.int .i64 y.l[m]]) (by rw [hty]; rfl) rfl (by simp [TK.agg]) (by simpa using ha2) rfl) ?_
      refine runq 400 hty hnt ?_; refine st_ ?_
      refine q_end ?_; refine rn_ ?_; intros
      refine x_split rfl rfl rfl (fun hne => ?_) (fun hne => ?_) <;> (refine st_ ?_; (refine ru_ ?_; intros))
      · refine x_retc rfl hQ hmb rfl (by rw [hty]; simp only [so, sq, zy, zz, tyE, SO', SQ', opQ, opStore, opAlloc, ev, putS, dOk, cv, SV.cs, SV.one, SV.bool?, eqB, Value.oneCell', ldOwn, binInt, binConst, binBool, binStr, isC, TK.agg, rv, rv1, ldV, resOne, resV, Nat.reduceAdd, Nat.reduceMul, Nat.reduceSub, Nat.reduceLT, Nat.reduceLeDiff, Nat.reduceEqDiff, Nat.reduceBEq, reduceIte, reduceCtorEq, eq_self]; try rfl) rfl ?_; simp only [SV.den, resV, dens]
        rw [hfu, hinv, hnd, hinv2, beq_eq_false_iff_ne.2 (by simpa using hne)]; rfl
      · rw [wr (n := (m : Int) + 1) (by omega) (by omega)]
        refine go_keep [2, 3, 5, 6, 7, 8] [0, 1, 10, 11] ?_
        refine st_ ?_
        exact ih2 (x.l.length - (m + 1)) _ (by omega) ⟨m + 1, by omega, rfl, by rw [hinv2, show (x.l[m] == y.l[m]) = true by simpa using hne]; rfl, by simp⟩
    · have hge : m = x.l.length := by simp at hml; omega
      subst hge
      rw [List.drop_length, hll, List.drop_length] at hinv2
      refine rn_ ?_; intros
      rw [wr (n := (k : Int) + 1) (by omega) (by omega)]
      refine go_keep [2, 3, 5] [0, 1] ?_
      refine st_ ?_
      exact ih (a.nodes.length - (k + 1)) _ (by omega) ⟨k + 1, by omega, rfl, by rw [hinv, hnd, hinv2]; rfl, by simp⟩
  · have hge : k = a.nodes.length := by simp at hjl; omega
    subst hge
    refine rn_ ?_; intros
    refine x_retc rfl hQ hmb rfl (by rw [hty]; simp only [so, sq, zy, zz, tyE, SO', SQ', opQ, opStore, opAlloc, ev, putS, dOk, cv, SV.cs, SV.one, SV.bool?, eqB, Value.oneCell', ldOwn, binInt, binConst, binBool, binStr, isC, TK.agg, rv, rv1, ldV, resOne, resV, Nat.reduceAdd, Nat.reduceMul, Nat.reduceSub, Nat.reduceLT, Nat.reduceLeDiff, Nat.reduceEqDiff, Nat.reduceBEq, reduceIte, reduceCtorEq, eq_self]; try rfl) rfl ?_; simp only [SV.den, resV, dens]
    rw [hfu, hinv, List.drop_length, hlm, List.drop_length]; rfl
end Go.Proofs.Ytpopbkiphdcilaa
namespace Go.Proofs.Ytpopbkiphdcilaa
set_option linter.unusedSimpArgs false
set_option linter.unusedVariables false
open Go.Sx
def fuL : Pr → Pr → Bool
  | [], [] => true
  | a :: p, b :: q => fue a b && fuL p q
  | _, _ => false
theorem fuL_len : ∀ {p q : Pr}, fuL p q = true → p.length = q.length
  | [], [], _ => rfl
  | a :: p, b :: q, h => by simp only [fuL, Bool.and_eq_true] at h; simp [fuL_len h.2]
theorem fuL_refl : ∀ p : Pr, fuL p p = true
  | [] => rfl
  | a :: p => by simp [fuL, fue_refl, fuL_refl p]
theorem fuL_drop {p q : Pr} {k : Nat} (h1 : k < p.length) (h2 : k < q.length) : fuL (p.drop k) (q.drop k) = (fue (fu p k) (fu q k) && fuL (p.drop (k + 1)) (q.drop (k + 1))) := by
  rw [fu_drop h1, fu_drop h2]; rfl
theorem fuL_false {p q : Pr} (h : p.length ≠ q.length) : fuL p q = false := by
  cases hq : fuL p q with
  | false => rfl
  | true => exact absurd (fuL_len hq) h
set_option maxHeartbeats 4000000
theorem eqfuns_ok (p q : Pr) (s1 s2 : Value) (G : Hp) (h1 : rF.S G p s1) (h2 : rF.S G q s2) :
    Pure Try.prog 40 [s1, s2, .func (.func 41) #[] #[]] G (fun r _ => r = .bool (fuL p q)) := by
  have h10 := h1
  have h20 := h2
  obtain ⟨ad1, cap1, rfl⟩ := Rp.S_slice h1
  obtain ⟨ad2, cap2, rfl⟩ := Rp.S_slice h2
  have h63 := Rp.S_len h1
  refine enterX ty tyok Try.func40 rfl Try.ntmps40 [.v (.slice ad1 p.length cap1), .v (.slice ad2 q.length cap2), .v (.func (.func 41) #[] #[])] (by simp) ?_
  intro C hP hQ hnt hty hmb hmh hro; have hQp := qp_body hQ; refine st_ ?_
  refine rn_ ?_; intros
  refine x_split rfl rfl rfl (fun hl => ?_) (fun hl => ?_) <;> (refine st_ ?_; (refine ru_ ?_; intros))
  · refine x_retc rfl hQ hmb rfl (by rw [hty]; simp only [so, sq, zy, zz, tyE, SO', SQ', opQ, opStore, opAlloc, ev, putS, dOk, cv, SV.cs, SV.one, SV.bool?, eqB, Value.oneCell', ldOwn, binInt, binConst, binBool, binStr, isC, TK.agg, rv, rv1, ldV, resOne, resV, Nat.reduceAdd, Nat.reduceMul, Nat.reduceSub, Nat.reduceLT, Nat.reduceLeDiff, Nat.reduceEqDiff, Nat.reduceBEq, reduceIte, reduceCtorEq, eq_self]; try rfl) rfl ?_; simp only [SV.den, resV, dens]
    rw [fuL_false (by simp at hl; omega)]
  have hlm : p.length = q.length := by simp at hl; omega
  refine go_keep [0, 1, 2, 15, 16, 17] [] ?_
  refine st_ ?_
  refine x_loop rfl (fun qq s => ∃ (k : Nat) (G' : Hp), k ≤ p.length ∧ qq = p.length - k ∧ Le G G' ∧ fuL p q = fuL (p.drop k) (q.drop k) ∧
    s = ⟨[(0, .v (.slice ad1 p.length cap1)), (1, .v (.slice ad2 q.length cap2)), (2, .v (.func (.func 41) #[] #[])), (15, .v (.slice ad1 p.length cap1)), (16, .v (.int .i64 p.length)), (17, .v (.int .i64 k))], [], G', []⟩) ⟨0, G, by omega, rfl, Le.refl _, by simp, rfl⟩ ?_
  rintro qq s ⟨k, G0, hk, hq, hle, hinv, rfl⟩ ih
  refine rn_ ?_; intros
  refine x_if rfl rfl rfl rfl (fun hjl => ?_) (fun hjl => ?_)
  · have hlt : k < p.length := by simp at hjl; omega
    rw [fuL_drop hlt (by omega)] at hinv
    obtain ⟨b1, o1, n1, rfl, hat1, hp1, hn1⟩ := rF_at h10 hlt
    obtain ⟨b2, o2, n2, rfl, hat2, hp2, hn2⟩ := rF_at h20 (i := k) (by omega)
    have hc := same_ok (fu p k) (fu q k) n1 n2 G0 (Rp.S_mono hle hn1) (Rp.S_mono hle hn2)
    obtain ⟨adn1, capn1, rfl⟩ := Rp.S_slice hn1
    obtain ⟨adn2, capn2, rfl⟩ := Rp.S_slice hn2
    refine rn_ ?_; intros
    refine go_q (by rw [hnt]; rfl) (quiet_index (by rw [hty]; rfl) (by rw [hty]; rfl) rfl rfl rfl (by omega) (by omega)) ?_
    refine rn_ ?_; intros
    refine go_q (by rw [hnt]; rfl) (quiet_load (by rw [hty]; rfl) rfl (by simp [TK.agg]) (hat1.mono hle) rfl) ?_
    refine rn_ ?_; intros
    refine go_q (by rw [hnt]; rfl) (quiet_index (by rw [hty]; rfl) (by rw [hty]; rfl) rfl rfl rfl (by omega) (by omega)) ?_
    refine rn_ ?_; intros
    refine go_q (by rw [hnt]; rfl) (quiet_load (by rw [hty]; rfl) rfl (by simp [TK.agg]) (hat2.mono hle) rfl) ?_
    refine rn_ ?_; intros
    refine go_callw (cap := []) (by rw [hnt]; rfl) (by rw [hP]; kernel_rfl) rfl rfl rfl (by rw [hP]; exact hc) ?_
    rintro v G1 (hle1 : Le G0 G1) rfl
    refine rn_ ?_; intros
    refine x_split rfl rfl rfl (fun hne => ?_) (fun hne => ?_) <;> (refine st_ ?_; (refine ru_ ?_; intros))
    · refine x_retc rfl hQ hmb rfl (by rw [hty]; simp only [so, sq, zy, zz, tyE, SO', SQ', opQ, opStore, opAlloc, ev, putS, dOk, cv, SV.cs, SV.one, SV.bool?, eqB, Value.oneCell', ldOwn, binInt, binConst, binBool, binStr, isC, TK.agg, rv, rv1, ldV, resOne, resV, Nat.reduceAdd, Nat.reduceMul, Nat.reduceSub, Nat.reduceLT, Nat.reduceLeDiff, Nat.reduceEqDiff, Nat.reduceBEq, reduceIte, reduceCtorEq, eq_self]; try rfl) rfl ?_; simp only [SV.den, resV, dens]
      rw [hinv, show fue (fu p k) (fu q k) = false by simpa using hne]; rfl
    · rw [wr (n := (k : Int) + 1) (by omega) (by omega)]
      refine go_keep [0, 1, 2, 15, 16, 17] [] ?_
      refine st_ ?_
      exact ih (p.length - (k + 1)) _ (by omega) ⟨k + 1, G1, by omega, rfl, hle.trans hle1, by rw [hinv, show fue (fu p k) (fu q k) = true by simpa using hne]; rfl, by simp⟩
  · have hge : k = p.length := by simp at hjl; omega
    subst hge
    refine rn_ ?_; intros
    refine x_retc rfl hQ hmb rfl (by rw [hty]; simp only [so, sq, zy, zz, tyE, SO', SQ', opQ, opStore, opAlloc, ev, putS, dOk, cv, SV.cs, SV.one, SV.bool?, eqB, Value.oneCell', ldOwn, binInt, binConst, binBool, binStr, isC, TK.agg, rv, rv1, ldV, resOne, resV, Nat.reduceAdd, Nat.reduceMul, Nat.reduceSub, Nat.reduceLT, Nat.reduceLeDiff, Nat.reduceEqDiff, Nat.reduceBEq, reduceIte, reduceCtorEq, eq_self]; try rfl) rfl ?_; simp only [SV.den, resV, dens]
    rw [hinv, List.drop_length, hlm, List.drop_length]; rfl
theorem samep_ok (p q : Pr) (s1 s2 : Value) (G : Hp) (h1 : rF.S G p s1) (h2 : rF.S G q s2) : Pure Try.prog 24 [.agg #[s1], .agg #[s2]] G (fun r _ => r = .bool (fuL p q)) := by
  have h10 := h1
  have h20 := h2
  obtain ⟨ad1, cap1, rfl⟩ := Rp.S_slice h1
  obtain ⟨ad2, cap2, rfl⟩ := Rp.S_slice h2
  refine enterX ty tyok Try.func24 rfl Try.ntmps24 [.a [.v (.slice ad1 p.length cap1)], .a [.v (.slice ad2 q.length cap2)]] (by simp) ?_
  intro C hP hQ hnt hty hmb hmh hro; have hQp := qp_body hQ; refine st_ ?_
  refine rn_ ?_; intros
  refine go_callf (by rw [hnt]; rfl) (by rw [hP]; kernel_rfl) rfl (hP ▸ eqfuns_ok p q _ _ G h10 h20) ?_; refine rn_ ?_; intros
  refine x_retc rfl hQ hmb rfl (by rw [hty]; simp only [so, sq, zy, zz, tyE, SO', SQ', opQ, opStore, opAlloc, ev, putS, dOk, cv, SV.cs, SV.one, SV.bool?, eqB, Value.oneCell', ldOwn, binInt, binConst, binBool, binStr, isC, TK.agg, rv, rv1, ldV, resOne, resV, Nat.reduceAdd, Nat.reduceMul, Nat.reduceSub, Nat.reduceLT, Nat.reduceLeDiff, Nat.reduceEqDiff, Nat.reduceBEq, reduceIte, reduceCtorEq, eq_self]; try rfl) rfl ?_; simp only [SV.den, resV, dens]
theorem rfuns_ok (p q : Pr) (s1 s2 : Value) (G : Hp) (h1 : rF.S G p s1) (h2 : rF.S G q s2) : Pure Try.prog 37 [s1, s2] G (fun r _ => r = .bool (fuL p q)) := by
  have h10 := h1
  have h20 := h2
  obtain ⟨ad1, cap1, rfl⟩ := Rp.S_slice h1
  obtain ⟨ad2, cap2, rfl⟩ := Rp.S_slice h2
  have h63 := Rp.S_len h1
  refine enterX ty tyok Try.func37 rfl Try.ntmps37 [.v (.slice ad1 p.length cap1), .v (.slice ad2 q.length cap2)] (by simp) ?_
  intro C hP hQ hnt hty hmb hmh hro; have hQp := qp_body hQ; refine st_ ?_
  refine rn_ ?_; intros
  refine x_split rfl rfl rfl (fun hl => ?_) (fun hl => ?_) <;> (refine st_ ?_; (refine ru_ ?_; intros))
  · refine x_retc rfl hQ hmb rfl (by rw [hty]; simp only [so, sq, zy, zz, tyE, SO', SQ', opQ, opStore, opAlloc, ev, putS, dOk, cv, SV.cs, SV.one, SV.bool?, eqB, Value.oneCell', ldOwn, binInt, binConst, binBool, binStr, isC, TK.agg, rv, rv1, ldV, resOne, resV, Nat.reduceAdd, Nat.reduceMul, Nat.reduceSub, Nat.reduceLT, Nat.reduceLeDiff, Nat.reduceEqDiff, Nat.reduceBEq, reduceIte, reduceCtorEq, eq_self]; try rfl) rfl ?_; simp only [SV.den, resV, dens]
    rw [fuL_false (by simp at hl; omega)]
  have hlm : p.length = q.length := by simp at hl; omega
  refine go_keep [0, 1, 5] [] ?_
  refine st_ ?_
  refine x_loop rfl (fun qq s => ∃ (k : Nat), k ≤ p.length ∧ qq = p.length - k ∧ fuL p q = fuL (p.drop k) (q.drop k) ∧
    s = ⟨[(0, .v (.slice ad1 p.length cap1)), (1, .v (.slice ad2 q.length cap2)), (5, .v (.int .i64 k))], [], G, []⟩) ⟨0, by omega, rfl, by simp, rfl⟩ ?_
  rintro qq s ⟨k, hk, hq, hinv, rfl⟩ ih
  refine rn_ ?_; intros
  refine x_if rfl rfl rfl rfl (fun hjl => ?_) (fun hjl => ?_)
  · have hlt : k < p.length := by simp at hjl; omega
    rw [fuL_drop hlt (by omega)] at hinv
    obtain ⟨b1, o1, n1, rfl, hat1, hp1, hn1⟩ := rF_at h10 hlt
    obtain ⟨b2, o2, n2, rfl, hat2, hp2, hn2⟩ := rF_at h20 (i := k) (by omega)
    have hc := refsame_ok (fu p k) (fu q k) n1 n2 G hn1 hn2
    obtain ⟨adn1, capn1, rfl⟩ := Rp.S_slice hn1
    obtain ⟨adn2, capn2, rfl⟩ := Rp.S_slice hn2
    refine rn_ ?_; intros
    refine x_draw rfl (by rw [hP]; kernel_rfl) rfl (by kernel_rfl) ?_
    refine runq 400 hty hnt ?_; refine st_ ?_
    refine q_q (by rw [hnt]; rfl) (quiet_index (by rw [hty]; rfl) (by rw [hty]; rfl) rfl rfl rfl (by omega) (by omega)) ?_; refine runq 400 hty hnt ?_; refine st_ ?_
    refine q_q (by rw [hnt]; rfl) (quiet_load (by rw [hty]; rfl) rfl (by simp [TK.agg]) hat1 rfl) ?_; refine runq 400 hty hnt ?_; refine st_ ?_
    refine q_q (by rw [hnt]; rfl) (quiet_index (by rw [hty]; rfl) (by rw [hty]; rfl) rfl rfl rfl (by omega) (by omega)) ?_; refine runq 400 hty hnt ?_; refine st_ ?_
    refine q_q (by rw [hnt]; rfl) (quiet_load (by rw [hty]; rfl) rfl (by simp [TK.agg]) hat2 rfl) ?_; refine runq 400 hty hnt ?_; refine st_ ?_
    refine q_callf (by rw [hnt]; rfl) (by rw [hP]; kernel_rfl) rfl (hP ▸ hc) ?_; refine runq 400 hty hnt ?_; refine st_ ?_
    refine q_end ?_; refine rn_ ?_; intros
    refine x_split rfl rfl rfl (fun hne => ?_) (fun hne => ?_) <;> (refine st_ ?_; (refine ru_ ?_; intros))
    · refine x_retc rfl hQ hmb rfl (by rw [hty]; simp only [so, sq, zy, zz, tyE, SO', SQ', opQ, opStore, opAlloc, ev, putS, dOk, cv, SV.cs, SV.one, SV.bool?, eqB, Value.oneCell', ldOwn, binInt, binConst, binBool, binStr, isC, TK.agg, rv, rv1, ldV, resOne, resV, Nat.reduceAdd, Nat.reduceMul, Nat.reduceSub, Nat.reduceLT, Nat.reduceLeDiff, Nat.reduceEqDiff, Nat.reduceBEq, reduceIte, reduceCtorEq, eq_self]; try rfl) rfl ?_; simp only [SV.den, resV, dens]
      rw [hinv, show fue (fu p k) (fu q k) = false by simpa using hne]; rfl
    · rw [wr (n := (k : Int) + 1) (by omega) (by omega)]
      refine go_keep [0, 1, 5] [] ?_
      refine st_ ?_
      exact ih (p.length - (k + 1)) _ (by omega) ⟨k + 1, by omega, rfl, by rw [hinv, show fue (fu p k) (fu q k) = true by simpa using hne]; rfl, by simp⟩
  · have hge : k = p.length := by simp at hjl; omega
    subst hge
    refine rn_ ?_; intros
    refine x_retc rfl hQ hmb rfl (by rw [hty]; simp only [so, sq, zy, zz, tyE, SO', SQ', opQ, opStore, opAlloc, ev, putS, dOk, cv, SV.cs, SV.one, SV.bool?, eqB, Value.oneCell', ldOwn, binInt, binConst, binBool, binStr, isC, TK.agg, rv, rv1, ldV, resOne, resV, Nat.reduceAdd, Nat.reduceMul, Nat.reduceSub, Nat.reduceLT, Nat.reduceLeDiff, Nat.reduceEqDiff, Nat.reduceBEq, reduceIte, reduceCtorEq, eq_self]; try rfl) rfl ?_; simp only [SV.den, resV, dens]
    rw [hinv, List.drop_length, hlm, List.drop_length]; rfl
theorem rsamep_ok (p q : Pr) (s1 s2 : Value) (G : Hp) (h1 : rF.S G p s1) (h2 : rF.S G q s2) : Pure Try.prog 20 [.agg #[s1], .agg #[s2]] G (fun r _ => r = .bool (fuL p q)) := by
  have h10 := h1
  have h20 := h2
  obtain ⟨ad1, cap1, rfl⟩ := Rp.S_slice h1
  obtain ⟨ad2, cap2, rfl⟩ := Rp.S_slice h2
  refine enterX ty tyok Try.func20 rfl Try.ntmps20 [.a [.v (.slice ad1 p.length cap1)], .a [.v (.slice ad2 q.length cap2)]] (by simp) ?_
  intro C hP hQ hnt hty hmb hmh hro; have hQp := qp_body hQ; refine st_ ?_
  refine rn_ ?_; intros
  refine go_callf (by rw [hnt]; rfl) (by rw [hP]; kernel_rfl) rfl (hP ▸ rfuns_ok p q _ _ G h10 h20) ?_; refine rn_ ?_; intros
  refine x_retc rfl hQ hmb rfl (by rw [hty]; simp only [so, sq, zy, zz, tyE, SO', SQ', opQ, opStore, opAlloc, ev, putS, dOk, cv, SV.cs, SV.one, SV.bool?, eqB, Value.oneCell', ldOwn, binInt, binConst, binBool, binStr, isC, TK.agg, rv, rv1, ldV, resOne, resV, Nat.reduceAdd, Nat.reduceMul, Nat.reduceSub, Nat.reduceLT, Nat.reduceLeDiff, Nat.reduceEqDiff, Nat.reduceBEq, reduceIte, reduceCtorEq, eq_self]; try rfl) rfl ?_; simp only [SV.den, resV, dens]
end Go.Proofs.Ytpopbkiphdcilaa
namespace Go.Proofs.Ytpopbkiphdcilaa
set_option linter.unusedSimpArgs false
set_option linter.unusedVariables false
open Go.Sx
set_option maxHeartbeats 4000000
theorem rF_i64 {G : Hp} {p : Pr} {v : Value} (h : rF.S G p v) : ∀ f ∈ p, ∀ x ∈ f.nodes, isI64 x.n := by
  intro f hf x hx
  obtain ⟨i, hi, rfl⟩ := List.getElem_of_mem hf
  obtain ⟨ad, cap, rfl⟩ := Rp.S_slice h
  obtain ⟨bp, op, nsp, rfl, hatp, hpp, hnp⟩ := rF_at h hi
  rw [← fu_eq hi] at hx
  obtain ⟨k, hk, rfl⟩ := List.getElem_of_mem hx
  obtain ⟨adn, capn, rfl⟩ := Rp.S_slice hnp
  obtain ⟨bn, offn, capn', cn, hse, hatn, sl, rfl, hop, hnn, hsl⟩ := Rp.S_get hnp hk
  exact hnn
theorem few8_len {p : Pr} (h : fewP8 p = true) : (sealB (encB p)).length ≤ 1048576 := by
  simp only [fewP8, Bool.and_eq_true, decide_eq_true_eq] at h
  obtain ⟨h1, h2⟩ := h
  have h3 := (fewP_of (l := p) (by simp only [fewP, h2, Bool.and_true, decide_eq_true_eq]; omega)).2
  have := encB_le h1 h3
  rw [sealB_len]
  omega
theorem imageHolds_ok (p : Pr) (ps : Value) (n : Int) (y : Int) (b : List Int) (sb : Value) (G : Hp) (hps : rF.S G p ps) (hn : isI64 n) (hy : 0 ≤ y ∧ y < 256) (hb : rBS G b sb) (hpb : ∀ ad n c, sb = .slice ad n c → plainA ad) :
    Pure Try.prog 8 [.agg #[ps], .int .i64 n, .int .u8 y, sb] G (fun r _ => r = .bool true) := by
  have hps0 := hps
  have hi64 := rF_i64 hps
  obtain ⟨adp, capp, rfl⟩ := Rp.S_slice hps
  have hb00 := hb
  obtain ⟨hb0, adb, capb, rfl, hcb⟩ := hb
  have hpb := hpb _ _ _ rfl
  have hok := rB_ok hb0
  refine enterX ty tyok Try.func8 rfl Try.ntmps8 [.a [.v (.slice adp p.length capp)], .v (.int .i64 n), .v (.int .u8 y), .v (.slice adb b.length capb)] (by simp) ?_
  intro C hP hQ hnt hty hmb hmh hro; have hQp := qp_body hQ; refine st_ ?_
  refine rn_ ?_; intros
  rename_i b4
  refine go_callf (by rw [hnt]; rfl) (by rw [hP]; kernel_rfl) rfl (hP ▸ few8_ok p _ G hps0) ?_; refine rn_ ?_; intros
  refine go_gsplit rfl rfl (fun hf => ?_) (fun hf => ?_) <;> (refine st_ ?_; (refine rn_ ?_; intros))
  · repeat (refine go_gundef rfl (by rw [hnt]; rfl) rfl ?_; (refine st_ ?_; (refine rn_ ?_; intros)))
    refine rn_ ?_; intros
    refine go_callf (by rw [hnt]; rfl) (by rw [hP]; kernel_rfl) rfl (hP ▸ works_ok _) ?_; refine rn_ ?_; intros
    refine x_retc rfl hQ hmb rfl (by rw [hty]; simp only [so, sq, zy, zz, tyE, SO', SQ', opQ, opStore, opAlloc, ev, putS, dOk, cv, SV.cs, SV.one, SV.bool?, eqB, Value.oneCell', ldOwn, binInt, binConst, binBool, binStr, isC, TK.agg, rv, rv1, ldV, resOne, resV, Nat.reduceAdd, Nat.reduceMul, Nat.reduceSub, Nat.reduceLT, Nat.reduceLeDiff, Nat.reduceEqDiff, Nat.reduceBEq, reduceIte, reduceCtorEq, eq_self]; try rfl) rfl ?_; simp only [SV.den, resV, dens]
  have hfew : fewP8 p = true := by simpa using hf
  clear hf
  refine x_split rfl rfl rfl (fun h3 => ?_) (fun h3 => ?_) <;> (refine st_ ?_; (refine ru_ ?_; intros))
  · refine go_callf (by rw [hnt]; rfl) (by rw [hP]; kernel_rfl) rfl (hP ▸ works_ok _) ?_; refine rn_ ?_; intros
    refine x_retc rfl hQ hmb rfl (by rw [hty]; simp only [so, sq, zy, zz, tyE, SO', SQ', opQ, opStore, opAlloc, ev, putS, dOk, cv, SV.cs, SV.one, SV.bool?, eqB, Value.oneCell', ldOwn, binInt, binConst, binBool, binStr, isC, TK.agg, rv, rv1, ldV, resOne, resV, Nat.reduceAdd, Nat.reduceMul, Nat.reduceSub, Nat.reduceLT, Nat.reduceLeDiff, Nat.reduceEqDiff, Nat.reduceBEq, reduceIte, reduceCtorEq, eq_self]; try rfl) rfl ?_; simp only [SV.den, resV, dens]
  have h3' : b.length ≤ 3000 := by have := of_decide_eq_false h3; omega
  clear h3
  refine rn_ ?_; intros
  refine go_call (by rw [hnt]; rfl) (by rw [hP]; kernel_rfl) rfl (hP ▸ iDecode_ok b _ G hb00) ?_
  rintro v G1 (hle1 : Le G G1) ⟨a1, n1, c1, rfl, hF1⟩
  refine st_ ?_
  refine rn_ ?_; intros
  rename_i b9
  refine go_callf (by rw [hnt]; rfl) (by rw [hP]; kernel_rfl) rfl (hP ▸ inum_ok (decR b).2 _) ?_; refine rn_ ?_; intros
  refine cut_tail 1 (fun s' => ∃ (G' : Hp), Le G1 G' ∧ s' = ⟨[(1, .v (.int .i64 n)), (2, .v (.int .u8 y)), (4, .p 0 b4 0), (8, .b false)], [(0, b4, .c 24 [.v (.slice adp p.length capp)])], G', []⟩) ?_ (fun key => ?_)
  rotate_left
  · refine x_if rfl rfl rfl rfl (fun he => ?_) (fun he => ?_)
    · have he0 : (decR b).2 = 0 := by simpa using he
      have hed := enc_dec hok he0
      have h4 : b.length ≠ 0 := by
        intro h0
        rw [List.length_eq_zero_iff.1 h0] at he0
        exact absurd he0 (by decide)
      refine rn_ ?_; intros
      refine go_callr 41 (by rw [hnt]; rfl) (by rw [hP]; kernel_rfl) rfl rfl (by omega) (hP ▸ iencode_ok _ _ _ hF1) ?_
      rw [hed]
      rintro v G2 r e size m xs (hle2 : Le G1 G2) ⟨rfl, rfl, rfl, rfl, rfl⟩
      refine go_rowE 41 rfl ?_
      rintro ad2 cap2 rfl hc2 hp2
      refine st_ ?_
      refine rn_ ?_; intros
      refine go_callf (by rw [hnt]; rfl) (by rw [hP]; kernel_rfl) rfl (hP ▸ inum_ok 0 _) ?_; refine rn_ ?_; intros
      (refine go_gsplit rfl rfl (fun hc => absurd hc (by first | decide +kernel | simp)) (fun _ => ?_); refine st_ ?_; (refine rn_ ?_; intros))
      refine go_q (v := .string (strOfNums b)) (by rw [hnt]; rfl) (quiet_strG (by rw [hty]; rfl) (by rw [hty]; rfl) (by rw [hty]; rfl) rfl rfl rfl (str_hatO 41 rfl hp2)) ?_
      refine rn_ ?_; intros
      refine go_q (v := .string (strOfNums b)) (by rw [hnt]; rfl) (quiet_strG (by rw [hty]; rfl) (by rw [hty]; rfl) (by rw [hty]; rfl) rfl rfl rfl (str_hat (Rp.S_mono (hle1.trans hle2) hb0) hpb)) ?_
      refine rn_ ?_; intros
      try simp only [bne_self_eq_false]
      refine x_split rfl rfl rfl (fun hc => absurd hc (by decide)) (fun _ => ?_)
      refine st_ ?_
      refine x_iff rfl rfl rfl ?_
      refine x_skip rfl ?_
      refine go_keep [1, 2, 4, 8] [0] ?_
      refine st_ ?_
      exact key _ ⟨G2, hle2, rfl⟩
    · refine x_skip rfl ?_
      refine go_keep [1, 2, 4, 8] [0] ?_
      refine st_ ?_
      exact key _ ⟨G1, Le.refl _, rfl⟩
  clear hF1 hb00 hb0 hcb hok hpb h3'
  rintro s' ⟨G2, hle2, rfl⟩
  simp only [List.drop_succ_cons, List.drop_zero]
  have hps2 := Rp.S_mono (hle1.trans hle2) hps0
  clear hps0 hps hle2
  refine rn_ ?_; intros
  refine go_callr 41 (by rw [hnt]; rfl) (by rw [hP]; kernel_rfl) rfl rfl (by omega) (hP ▸ iencode_ok p _ _ hps2) ?_
  rintro v G3 r e size m xs (hle3 : Le G2 G3) ⟨rfl, rfl, rfl, rfl, rfl⟩
  refine go_rowE 41 rfl ?_
  rintro ad2 cap2 rfl hc2 hp2
  have hps3 := Rp.S_mono hle3 hps2
  refine st_ ?_
  refine rn_ ?_; intros
  refine go_callf (by rw [hnt]; rfl) (by rw [hP]; kernel_rfl) rfl (hP ▸ inum_ok (encR p).2 _) ?_; refine rn_ ?_; intros
  rcases Bool.eq_false_or_eq_true (rgtP p) with hr | hr
  rotate_left
  · have e2 : (encR p).2 = 70 := by simp [encR, hr]
    rw [e2]
    (refine x_split rfl rfl rfl (fun _ => ?_) (fun hc => absurd hc (by first | decide +kernel | simp)); refine st_ ?_; (refine ru_ ?_; intros))
    refine go_keep [4, 8, 14] [0] ?_
    refine st_ ?_
    refine x_draw rfl (by rw [hP]; kernel_rfl) rfl (by kernel_rfl) ?_
    refine runq 400 hty hnt ?_; refine st_ ?_
    refine q_callf (by rw [hnt]; rfl) (by rw [hP]; kernel_rfl) rfl (hP ▸ inum_ok 70 _) ?_; refine runq 400 hty hnt ?_; refine st_ ?_
    refine q_callf (by rw [hnt]; rfl) (by rw [hP]; kernel_rfl) rfl (hP ▸ checkp_ok p _ _ hps3) ?_; refine runq 400 hty hnt ?_; refine st_ ?_
    rw [rgtP_no hr]
    refine q_callf (by rw [hnt]; rfl) (by rw [hP]; kernel_rfl) rfl (hP ▸ inum_ok 70 _) ?_; refine runq 400 hty hnt ?_; refine st_ ?_
    (refine go_qsplit rfl rfl (fun _ => ?_) (fun hc => absurd hc (by first | decide +kernel | simp)); refine st_ ?_; (try (refine runq 400 hty hnt ?_; refine st_ ?_)))
    refine q_callf (by rw [hnt]; rfl) (by rw [hP]; kernel_rfl) rfl (hP ▸ works_ok _) ?_; refine runq 400 hty hnt ?_; refine st_ ?_
    refine q_end ?_; refine rn_ ?_; intros
    refine x_retc rfl hQ hmb rfl (by rw [hty]; simp only [so, sq, zy, zz, tyE, SO', SQ', opQ, opStore, opAlloc, ev, putS, dOk, cv, SV.cs, SV.one, SV.bool?, eqB, Value.oneCell', ldOwn, binInt, binConst, binBool, binStr, isC, TK.agg, rv, rv1, ldV, resOne, resV, Nat.reduceAdd, Nat.reduceMul, Nat.reduceSub, Nat.reduceLT, Nat.reduceLeDiff, Nat.reduceEqDiff, Nat.reduceBEq, reduceIte, reduceCtorEq, eq_self]; try rfl) rfl ?_; simp only [SV.den, resV, dens]
  have hlen := few8_len hfew
  obtain ⟨hd1, hd2⟩ := dec_enc hr hi64 hlen
  have hset := fun {i : Nat} (hi : i < (sealB (encB p)).length) {y : Int} => dec_set (p := p) hlen hi (y := y)
  have hokl : okB (sealB (encB p)) := okB_app (encB_ok p) (le4_ok _)
  have e2 : encR p = (sealB (encB p), 0) := by simp [encR, hr]
  rw [e2] at hc2 hp2 ⊢
  simp only [] at hc2 hp2 ⊢
  generalize sealB (encB p) = cl at *
  (refine x_split rfl rfl rfl (fun hc => absurd hc (by first | decide +kernel | simp)) (fun _ => ?_); refine st_ ?_; (refine ru_ ?_; intros))
  refine go_lendB 41 (by rw [hnt]; rfl) (by rw [hP]; kernel_rfl) rfl rfl (by omega) rfl (by omega) hokl (ψ := fun v H => ∃ (a1 : Option Addr) (n1 c1 : Nat), v = .tuple #[.agg #[.slice a1 n1 c1], .int .i64 (decR cl).2] ∧ rF.S H ((decR cl).1.map (·.2)) (.slice a1 n1 c1)) (fun G2 hle2 hS2 => by rw [hP]; exact iDecodeF_ok cl _ G2 hS2) ?_ ?_
  · rintro v H H' hle ⟨a1, n1, c1, e1, h1⟩
    exact ⟨a1, n1, c1, e1, Rp.S_mono hle h1⟩
  rw [hd1, hd2]
  rintro v G4 (hle4 : Le G3 G4) ⟨a4, n4, c4, rfl, hF4⟩
  refine st_ ?_
  refine rn_ ?_; intros
  refine go_callf (by rw [hnt]; rfl) (by rw [hP]; kernel_rfl) rfl (hP ▸ inum_ok 0 _) ?_; refine rn_ ?_; intros
  repeat ((refine go_gsplit rfl rfl (fun hc => absurd hc (by first | decide +kernel | simp)) (fun _ => ?_); refine st_ ?_; (refine rn_ ?_; intros)))
  refine go_callf (by rw [hnt]; rfl) (by rw [hP]; kernel_rfl) rfl (hP ▸ samep_ok _ _ _ _ _ hF4 (Rp.S_mono hle4 hps3)) ?_; refine rn_ ?_; intros
  rw [fuL_refl]
  try simp only [Bool.not_true]
  (refine x_split rfl rfl rfl (fun hc => absurd hc (by first | decide +kernel | simp)) (fun _ => ?_); refine st_ ?_; (refine ru_ ?_; intros))
  refine rn_ ?_; intros
  refine go_gsplit rfl rfl (fun hy1 => ?_) (fun hy1 => ?_) <;> (refine st_ ?_; (refine rn_ ?_; intros))
  rotate_left
  · repeat (refine go_gundef rfl (by rw [hnt]; rfl) rfl ?_; (refine st_ ?_; (refine rn_ ?_; intros)))
    refine go_callf (by rw [hnt]; rfl) (by rw [hP]; kernel_rfl) rfl (hP ▸ works_ok _) ?_; refine rn_ ?_; intros
    refine x_retc rfl hQ hmb rfl (by rw [hty]; simp only [so, sq, zy, zz, tyE, SO', SQ', opQ, opStore, opAlloc, ev, putS, dOk, cv, SV.cs, SV.one, SV.bool?, eqB, Value.oneCell', ldOwn, binInt, binConst, binBool, binStr, isC, TK.agg, rv, rv1, ldV, resOne, resV, Nat.reduceAdd, Nat.reduceMul, Nat.reduceSub, Nat.reduceLT, Nat.reduceLeDiff, Nat.reduceEqDiff, Nat.reduceBEq, reduceIte, reduceCtorEq, eq_self]; try rfl) rfl ?_; simp only [SV.den, resV, dens]
  refine go_gsplit rfl rfl (fun hn1 => ?_) (fun hn1 => ?_) <;> (refine st_ ?_; (refine rn_ ?_; intros))
  rotate_left
  · repeat (refine go_gundef rfl (by rw [hnt]; rfl) rfl ?_; (refine st_ ?_; (refine rn_ ?_; intros)))
    refine go_callf (by rw [hnt]; rfl) (by rw [hP]; kernel_rfl) rfl (hP ▸ works_ok _) ?_; refine rn_ ?_; intros
    refine x_retc rfl hQ hmb rfl (by rw [hty]; simp only [so, sq, zy, zz, tyE, SO', SQ', opQ, opStore, opAlloc, ev, putS, dOk, cv, SV.cs, SV.one, SV.bool?, eqB, Value.oneCell', ldOwn, binInt, binConst, binBool, binStr, isC, TK.agg, rv, rv1, ldV, resOne, resV, Nat.reduceAdd, Nat.reduceMul, Nat.reduceSub, Nat.reduceLT, Nat.reduceLeDiff, Nat.reduceEqDiff, Nat.reduceBEq, reduceIte, reduceCtorEq, eq_self]; try rfl) rfl ?_; simp only [SV.den, resV, dens]
  refine x_split rfl rfl rfl (fun hlt => ?_) (fun hlt => ?_) <;> (refine st_ ?_; (refine ru_ ?_; intros))
  rotate_left
  · refine go_callf (by rw [hnt]; rfl) (by rw [hP]; kernel_rfl) rfl (hP ▸ works_ok _) ?_; refine rn_ ?_; intros
    refine x_retc rfl hQ hmb rfl (by rw [hty]; simp only [so, sq, zy, zz, tyE, SO', SQ', opQ, opStore, opAlloc, ev, putS, dOk, cv, SV.cs, SV.one, SV.bool?, eqB, Value.oneCell', ldOwn, binInt, binConst, binBool, binStr, isC, TK.agg, rv, rv1, ldV, resOne, resV, Nat.reduceAdd, Nat.reduceMul, Nat.reduceSub, Nat.reduceLT, Nat.reduceLeDiff, Nat.reduceEqDiff, Nat.reduceBEq, reduceIte, reduceCtorEq, eq_self]; try rfl) rfl ?_; simp only [SV.den, resV, dens]
  rename_i b15 _ _ _
  have hy1' : 0 < y := of_decide_eq_true hy1
  obtain ⟨i, rfl⟩ : ∃ i : Nat, n = i := ⟨n.toNat, by have := of_decide_eq_true hn1; omega⟩
  have hlt' : i < cl.length := by have := of_decide_eq_true hlt; omega
  obtain ⟨g, rfl⟩ : ∃ g, ad2 = some ⟨g, 0, none⟩ := by
    rcases hp2 with ⟨h0, _⟩ | h0
    · have : cl.length = 0 := by rw [← bZ_len, h0]; rfl
      omega
    · exact h0
  refine rn_ ?_; intros
  refine go_q (by rw [hnt]; rfl) (quiet_index (by rw [hty]; rfl) (by rw [hty]; rfl) rfl rfl rfl (by omega) (by omega)) ?_
  refine rn_ ?_; intros
  refine go_q (v := .int .u8 cl[i]) (by rw [hnt]; rfl) ((quiet_loadR (k := 41) (by rw [hty]; rfl) rfl (by simp [TK.agg]) rfl (by simp [bZ_len]; omega)).cast (by exact ldU (by omega) (by simp))) ?_
  refine rn_ ?_; intros
  refine go_q (by rw [hnt]; rfl) (quiet_index (by rw [hty]; rfl) (by rw [hty]; rfl) rfl rfl rfl (by omega) (by omega)) ?_
  refine rn_ ?_; intros
  refine go_storeR 41 rfl (by rw [hty]; rfl) rfl rfl rfl rfl rfl rfl (layU (i := i) (IntKind.u8.wrap (cl[i] + y)) (by omega) (by simp) rfl) ?_
  refine rn_ ?_; intros
  have hc0 := hokl _ (List.getElem_mem hlt')
  obtain ⟨z, hz, z0, z1, hzne⟩ : ∃ z, z = IntKind.u8.wrap (cl[i] + y) ∧ 0 ≤ z ∧ z < 256 ∧ z ≠ cl[i] := ⟨_, rfl, by rw [w8]; omega, by rw [w8]; omega, by rw [w8]; omega⟩
  rw [← hz]
  have hds := hset hlt' z0 z1 hzne
  have hok2 : okB (cl.set i z) := fun x hx => by
    rcases List.mem_or_eq_of_mem_set hx with h | h
    · exact hokl x h
    · omega
  have hl2 : (cl.set i z).length = cl.length := List.length_set
  generalize cl.set i z = cl2 at *
  refine go_keep [8, 13, 104] [41] ?_
  refine st_ ?_
  refine go_lendB 41 (by rw [hnt]; rfl) (by rw [hP]; kernel_rfl) rfl rfl (by omega) hl2.symm (by omega) hok2 (ψ := fun v H => ∃ (a1 : Option Addr) (n1 c1 : Nat), v = .tuple #[.agg #[.slice a1 n1 c1], .int .i64 (decR cl2).2]) (fun G2 hle2 hS2 => by rw [hP]; exact (iDecodeF_ok cl2 _ G2 hS2).mono fun _ _ _ ⟨a, b, c, e, _⟩ => ⟨a, b, c, e⟩) ?_ ?_
  · rintro v H H' hle h; exact h
  rw [hds]
  rintro v G5 (hle5 : Le G4 G5) ⟨a5, n5, c5, rfl⟩
  refine st_ ?_
  refine rn_ ?_; intros
  refine go_callf (by rw [hnt]; rfl) (by rw [hP]; kernel_rfl) rfl (hP ▸ inum_ok 80 _) ?_; refine rn_ ?_; intros
  repeat ((refine go_gsplit rfl rfl (fun hc => absurd hc (by first | decide +kernel | simp)) (fun _ => ?_); refine st_ ?_; (refine rn_ ?_; intros)))
  repeat ((refine x_split rfl rfl rfl (fun hc => absurd hc (by first | decide +kernel | simp)) (fun _ => ?_); refine st_ ?_; (refine ru_ ?_; intros)))
  refine go_callf (by rw [hnt]; rfl) (by rw [hP]; kernel_rfl) rfl (hP ▸ works_ok _) ?_; refine rn_ ?_; intros
  refine x_retc rfl hQ hmb rfl (by rw [hty]; simp only [so, sq, zy, zz, tyE, SO', SQ', opQ, opStore, opAlloc, ev, putS, dOk, cv, SV.cs, SV.one, SV.bool?, eqB, Value.oneCell', ldOwn, binInt, binConst, binBool, binStr, isC, TK.agg, rv, rv1, ldV, resOne, resV, Nat.reduceAdd, Nat.reduceMul, Nat.reduceSub, Nat.reduceLT, Nat.reduceLeDiff, Nat.reduceEqDiff, Nat.reduceBEq, reduceIte, reduceCtorEq, eq_self]; try rfl) rfl ?_; simp only [SV.den, resV, dens]
end Go.Proofs.Ytpopbkiphdcilaa
namespace Go.Proofs.Ytpopbkiphdcilaa.imageHolds
set_option linter.unusedSimpArgs false
set_option linter.unusedVariables false
open Go.ChangeShapes Go.WideShapes Go.ChangeAt Go.RowKit Go.Sx

set_option maxRecDepth 100000
theorem contract (H : Type) (enc : TypeId × Value → H) (W : World) (base : Nat) (args : Array Value) (ds gs : List (DataW H)) (before : List MemPlace)
    (hval : ∀ (j : Nat) t v, Try.f8.params[j]? = some t → args[j]? = some v → Value.okWide Try.prog W .any base t v)
    (hW : DataW.Whole enc Try.prog Try.f8.params.toList Rows.imageHoldsSpec.vars false W args.toList ds gs before) :
    Calls Try.prog 8 args W fun e W' => ∃ v, e = .returned v ∧ Rows.imageHoldsSpec.post enc Try.prog Try.f8 false true false false W args v W' := by
  have hW' := hW
  obtain ⟨p, q, hA0, hV, rfl, hfz, hnd⟩ := hW
  have hA : DataW.TrodAll enc Try.prog W 0 (fun _ => true) true Try.f8.params.toList args.toList ds p := hA0
  rw [Try.params8] at hA hval
  obtain ⟨v0, vs0, d0, ds0, p0, q0, hargs, rfl, rfl, h0, r0⟩ := trodAll_cons hA
  obtain ⟨v1, vs1, d1, ds1, p1, q1, rfl, rfl, rfl, h1, r1⟩ := trodAll_cons r0
  obtain ⟨v2, vs2, d2, ds2, p2, q2, rfl, rfl, rfl, h2, r2⟩ := trodAll_cons r1
  obtain ⟨v3, vs3, d3, ds3, p3, q3, rfl, rfl, rfl, h3, r3⟩ := trodAll_cons r2
  obtain ⟨rfl, rfl, rfl⟩ := trodAll_nil r3
  obtain rfl : args = #[v0, v1, v2, v3] := by cases args; simp_all
  obtain ⟨rfl, rfl⟩ := trodVars_none hV
  clear hA0
  obtain ⟨a1, rfl, rfl, rfl, w1⟩ := open_int Try.underlying3 (hval 1 3 v1 rfl rfl) h1
  obtain ⟨a2, rfl, rfl, rfl, w2⟩ := open_int Try.underlying5 (hval 2 5 v2 rfl rfl) h2
  simp only [List.append_nil, List.nil_append] at hW'
  have h0k := h0
  obtain ⟨n0, hf0⟩ := h0
  obtain ⟨cs0, rfl, hsz0⟩ := okWide_struct Try.underlying24 (hval 0 24 v0 rfl rfl)
  obtain ⟨f0, ns0, hcs0, hr0⟩ := open_prog (w := W) hf0
  have hcs0' : cs0 = #[ns0] := by
    apply Array.ext'
    simpa [Value.cells] using hcs0
  subst hcs0'
  have h3k := h3
  obtain ⟨n3, hf3⟩ := h3
  obtain ⟨ad3, len3, cap3, rfl⟩ := okWide_slice Try.underlying27 (hval 3 27 v3 rfl rfl)
  obtain ⟨ns3, f3, hcs3, hr3⟩ := open_bytes (w := W) hf3
  obtain rfl : (Value.slice ad3 len3 cap3) = ns3 := by simpa [Value.cells] using hcs3
  have hlt0 : ∀ x ∈ p0, x.block < W.heap.size := fun x hx => by simpa using hW'.lt x (by simp [hx])
  have hlt3 : ∀ x ∈ p3, x.block < W.heap.size := fun x hx => by simpa using hW'.lt x (by simp [hx])
  refine (imageHolds_ok f0 ns0 a1 a2 f3 _ (hp W) hr0 (wf_i64 w1) (wf_u8 w2) hr3 (fun _ _ _ e => by cases e; exact plain_slice Try.underlying27 (hval 3 27 _ rfl rfl)) W (has_hp W)).mono ?_
  rintro e W' ⟨v, G', rfl, hg, rfl⟩
  have hb := hg.below
  exact ⟨_, rfl, post_below rfl rfl hW' (fun _ _ _ => (trodAll_cons_mk (shut_bool Try.underlying4 _) trodAll_mk0))
    (fun sp hsp => by have this := (trodAll_cons_mk (WideElems.Trod_stays laidOut (by kernel_rfl) (of_decide_eq_true (by kernel_rfl)) h0k (fun x hx => hb.same (hlt0 x hx)) (fun x hx => hsp x (by simp [hx]))) (trodAll_cons_mk (shut_int Try.underlying3 w1) (trodAll_cons_mk (shut_int Try.underlying5 w2) (trodAll_cons_mk (WideElems.Trod_stays laidOut (by kernel_rfl) (of_decide_eq_true (by kernel_rfl)) h3k (fun x hx => hb.same (hlt3 x hx)) (fun x hx => hsp x (by simp [hx]))) trodAll_mk0)))); simp only [List.append_nil, List.nil_append] at this; exact this)
    hb (ok_one (by kernel_rfl) rfl (okWide_bool_mk Try.underlying4 _))⟩

set_option maxRecDepth 100000 in
theorem lifted (os : Os) (started : os.Started) (H : Type) (enc : TypeId × Value → H) :
    ReturnsInHanded {} Try.checked os 8 .any (Rows.imageHoldsSpec.pre6 enc Try.prog Try.f8 Rows.imageHoldsRow.domain false) (Rows.imageHoldsSpec.post enc Try.prog Try.f8 false true false false) := by
  refine returnsInHanded_of_change (C := Try.checked) own started (by kernel_rfl) Try.func8
    (ChangeSpec.witness6 (enc := enc) (C := Try.checked) false ⟨#[], #[.agg #[.slice none 0 0], .int .i64 0, .int .u8 0, .slice none 0 0], []⟩ 8 (by kernel_rfl) (by kernel_rfl) (by kernel_rfl) (by kernel_rfl)) ?_
  intro W base args ds gs before hval hW _ _
  exact contract H enc W base args ds gs before hval hW

theorem over : Rows.imageHoldsRow.holds Try.pinned (OpenSpec.ofChange Rows.imageHoldsSpec) :=
  OpenClaim.holds_of_wide 8 Try.f8 rfl rfl rfl rfl rfl rfl rfl ⟨rfl, rfl, rfl, rfl, rfl⟩ rfl rfl rfl rfl rfl (by kernel_rfl) Try.func8 (by kernel_rfl)
    (of_decide_eq_true (by kernel_rfl)) (by unfold Func.isWrapper; first | (rw [if_pos (by decide +kernel)]; kernel_rfl) | (rw [if_neg (by decide +kernel)]; exact ⟨rfl, rfl⟩))
    (fun os started H enc _ => lifted os started H enc)

theorem proved : Rows.ImageHoldsSaid := over
end Go.Proofs.Ytpopbkiphdcilaa.imageHolds

