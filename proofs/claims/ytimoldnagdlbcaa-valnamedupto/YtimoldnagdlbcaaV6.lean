/-
  Package val and the reference: equality of values.
-/
import Derived.Test.YtimoldnagdlbcaaV5
namespace Go.Proofs.Ytimoldnagdlbcaa
set_option linter.unusedSimpArgs false
set_option linter.unusedVariables false
open Go.Sx

mutual
def veq : VT → VT → Bool
  | .mk k n l, .mk k' n' l' => (k == k') && (n == n') && veqL l l'
def veqL : List VT → List VT → Bool
  | [], [] => true
  | x :: l, y :: l' => veq x y && veqL l l'
  | [], _ :: _ => false
  | _ :: _, [] => false
end
theorem veqL_len : ∀ (l l' : List VT), l.length ≠ l'.length → veqL l l' = false
  | [], [], h => by simp at h
  | [], _ :: _, _ => by simp only [veqL]
  | _ :: _, [], _ => by simp only [veqL]
  | x :: l, y :: l', h => by simp only [veqL]; rw [veqL_len l l' (by simpa using h)]; simp
theorem veqL_nil (l l' : List VT) (h : l.length ≤ 0) (h' : l'.length = l.length) : veqL l l' = true := by
  cases l with
  | nil => cases l' with
    | nil => simp only [veqL]
    | cons y l' => simp at h'
  | cons x l => simp at h

set_option maxHeartbeats 2000000 in
theorem equal_ok (x : VT) : ∀ (y : VT) (sl sl' : Value) (G : Hp) (hr : x.rep G sl) (hr' : y.rep G sl'), Pure Try.prog 56 [.agg #[.int .i64 x.k, .int .i64 x.n, sl], .agg #[.int .i64 y.k, .int .i64 y.n, sl']] G (fun r _ => r = .bool (veq x y)) := by
  induction x using VT.ind with
  | h k m l IH =>
  intro y sl sl' G hr hr'
  obtain ⟨k', m', l'⟩ := y
  refine enterX ty tyok Try.func56 rfl Try.ntmps56 [.a [.v (.int .i64 k), .v (.int .i64 m), .v sl], .a [.v (.int .i64 k'), .v (.int .i64 m'), .v sl']] (by simp) ?_
  intro C hP hQ hnt hty hmb hmh hro; have hQp := qp_body hQ; simp only [so, sq, zy, zz, tyE, SO', SQ', opQ, opStore, opAlloc, ev, putS, dOk, cv, SV.cs, SV.one, SV.bool?, eqB, Value.oneCell', ldOwn, binInt, binConst, binBool, binStr, isC, TK.agg, rv, rv1, ldV, resOne, resV, Nat.reduceAdd, Nat.reduceMul, Nat.reduceSub, Nat.reduceLT, Nat.reduceLeDiff, Nat.reduceEqDiff, Nat.reduceBEq, reduceIte, reduceCtorEq, eq_self]
  rw [rep_iff] at hr hr'
  obtain ⟨hk, hm, hl, ad, cap, rfl, hr⟩ := hr
  obtain ⟨hk', hm', hl', ad', cap', rfl, hr'⟩ := hr'
  (try (refine runo0 400 hty hnt hmh ?_; simp only [so, sq, zy, zz, tyE, SO', SQ', opQ, opStore, opAlloc, ev, putS, dOk, cv, SV.cs, SV.one, SV.bool?, eqB, Value.oneCell', ldOwn, binInt, binConst, binBool, binStr, isC, TK.agg, rv, rv1, ldV, resOne, resV, Nat.reduceAdd, Nat.reduceMul, Nat.reduceSub, Nat.reduceLT, Nat.reduceLeDiff, Nat.reduceEqDiff, Nat.reduceBEq, reduceIte, reduceCtorEq, eq_self])); (repeat (first | refine x_seq rfl ?_ | refine go_ops ?_ | refine go_blk ?_ | refine x_skip rfl ?_ | refine x_blk rfl rfl ?_ | refine x_exit rfl rfl rfl ?_ | refine x_ift rfl rfl rfl ?_ | refine x_iff rfl rfl rfl ?_ | refine x_label rfl ?_ | ((first | refine x_reg rfl rfl ?_ | (refine go_newx hty hnt hmh rfl rfl ?_; intro _)); refine runo0 400 hty hnt hmh ?_; simp only [so, sq, zy, zz, tyE, SO', SQ', opQ, opStore, opAlloc, ev, putS, dOk, cv, SV.cs, SV.one, SV.bool?, eqB, Value.oneCell', ldOwn, binInt, binConst, binBool, binStr, isC, TK.agg, rv, rv1, ldV, resOne, resV, Nat.reduceAdd, Nat.reduceMul, Nat.reduceSub, Nat.reduceLT, Nat.reduceLeDiff, Nat.reduceEqDiff, Nat.reduceBEq, reduceIte, reduceCtorEq, eq_self])))
  refine go_gsplit rfl rfl (fun g1 => ?_) (fun g1 => ?_) <;> (simp only [so, sq, zy, zz, tyE, SO', SQ', opQ, opStore, opAlloc, ev, putS, dOk, cv, SV.cs, SV.one, SV.bool?, eqB, Value.oneCell', ldOwn, binInt, binConst, binBool, binStr, isC, TK.agg, rv, rv1, ldV, resOne, resV, Nat.reduceAdd, Nat.reduceMul, Nat.reduceSub, Nat.reduceLT, Nat.reduceLeDiff, Nat.reduceEqDiff, Nat.reduceBEq, reduceIte, reduceCtorEq, eq_self]; ((try (refine runo0 400 hty hnt hmh ?_; simp only [so, sq, zy, zz, tyE, SO', SQ', opQ, opStore, opAlloc, ev, putS, dOk, cv, SV.cs, SV.one, SV.bool?, eqB, Value.oneCell', ldOwn, binInt, binConst, binBool, binStr, isC, TK.agg, rv, rv1, ldV, resOne, resV, Nat.reduceAdd, Nat.reduceMul, Nat.reduceSub, Nat.reduceLT, Nat.reduceLeDiff, Nat.reduceEqDiff, Nat.reduceBEq, reduceIte, reduceCtorEq, eq_self])); (repeat (first | refine x_seq rfl ?_ | refine go_ops ?_ | refine go_blk ?_ | refine x_skip rfl ?_ | refine x_blk rfl rfl ?_ | refine x_exit rfl rfl rfl ?_ | refine x_ift rfl rfl rfl ?_ | refine x_iff rfl rfl rfl ?_ | refine x_label rfl ?_ | ((first | refine x_reg rfl rfl ?_ | (refine go_newx hty hnt hmh rfl rfl ?_; intro _)); refine runo0 400 hty hnt hmh ?_; simp only [so, sq, zy, zz, tyE, SO', SQ', opQ, opStore, opAlloc, ev, putS, dOk, cv, SV.cs, SV.one, SV.bool?, eqB, Value.oneCell', ldOwn, binInt, binConst, binBool, binStr, isC, TK.agg, rv, rv1, ldV, resOne, resV, Nat.reduceAdd, Nat.reduceMul, Nat.reduceSub, Nat.reduceLT, Nat.reduceLeDiff, Nat.reduceEqDiff, Nat.reduceBEq, reduceIte, reduceCtorEq, eq_self])))))
  · refine x_ret rfl hQ hmb (by rw [hty]; rfl) rfl ?_; simp only [SV.den, resV]
    have : (k == k') = false := by simpa using g1
    simp only [veq, this, decide_true, decide_false, if_true, if_false, Bool.true_and, Bool.false_and, Bool.and_false, Bool.and_true, Bool.false_eq_true, Bool.true_eq_false, reduceIte]
  have e1 : (k == k') = true := by simpa using g1
  refine go_gsplit rfl rfl (fun g2 => ?_) (fun g2 => ?_) <;> (simp only [so, sq, zy, zz, tyE, SO', SQ', opQ, opStore, opAlloc, ev, putS, dOk, cv, SV.cs, SV.one, SV.bool?, eqB, Value.oneCell', ldOwn, binInt, binConst, binBool, binStr, isC, TK.agg, rv, rv1, ldV, resOne, resV, Nat.reduceAdd, Nat.reduceMul, Nat.reduceSub, Nat.reduceLT, Nat.reduceLeDiff, Nat.reduceEqDiff, Nat.reduceBEq, reduceIte, reduceCtorEq, eq_self]; ((try (refine runo0 400 hty hnt hmh ?_; simp only [so, sq, zy, zz, tyE, SO', SQ', opQ, opStore, opAlloc, ev, putS, dOk, cv, SV.cs, SV.one, SV.bool?, eqB, Value.oneCell', ldOwn, binInt, binConst, binBool, binStr, isC, TK.agg, rv, rv1, ldV, resOne, resV, Nat.reduceAdd, Nat.reduceMul, Nat.reduceSub, Nat.reduceLT, Nat.reduceLeDiff, Nat.reduceEqDiff, Nat.reduceBEq, reduceIte, reduceCtorEq, eq_self])); (repeat (first | refine x_seq rfl ?_ | refine go_ops ?_ | refine go_blk ?_ | refine x_skip rfl ?_ | refine x_blk rfl rfl ?_ | refine x_exit rfl rfl rfl ?_ | refine x_ift rfl rfl rfl ?_ | refine x_iff rfl rfl rfl ?_ | refine x_label rfl ?_ | ((first | refine x_reg rfl rfl ?_ | (refine go_newx hty hnt hmh rfl rfl ?_; intro _)); refine runo0 400 hty hnt hmh ?_; simp only [so, sq, zy, zz, tyE, SO', SQ', opQ, opStore, opAlloc, ev, putS, dOk, cv, SV.cs, SV.one, SV.bool?, eqB, Value.oneCell', ldOwn, binInt, binConst, binBool, binStr, isC, TK.agg, rv, rv1, ldV, resOne, resV, Nat.reduceAdd, Nat.reduceMul, Nat.reduceSub, Nat.reduceLT, Nat.reduceLeDiff, Nat.reduceEqDiff, Nat.reduceBEq, reduceIte, reduceCtorEq, eq_self])))))
  · refine x_ret rfl hQ hmb (by rw [hty]; rfl) rfl ?_; simp only [SV.den, resV]
    have : (m == m') = false := by simpa using g2
    simp only [veq, this, decide_true, decide_false, if_true, if_false, Bool.true_and, Bool.false_and, Bool.and_false, Bool.and_true, Bool.false_eq_true, Bool.true_eq_false, reduceIte]
  have e2 : (m == m') = true := by simpa using g2
  refine x_split rfl rfl rfl (fun g3 => ?_) (fun g3 => ?_) <;> (simp only [so, sq, zy, zz, tyE, SO', SQ', opQ, opStore, opAlloc, ev, putS, dOk, cv, SV.cs, SV.one, SV.bool?, eqB, Value.oneCell', ldOwn, binInt, binConst, binBool, binStr, isC, TK.agg, rv, rv1, ldV, resOne, resV, Nat.reduceAdd, Nat.reduceMul, Nat.reduceSub, Nat.reduceLT, Nat.reduceLeDiff, Nat.reduceEqDiff, Nat.reduceBEq, reduceIte, reduceCtorEq, eq_self]; (repeat (first | refine x_seq rfl ?_ | refine go_ops ?_ | refine go_blk ?_ | refine x_skip rfl ?_ | refine x_blk rfl rfl ?_ | refine x_exit rfl rfl rfl ?_ | refine x_ift rfl rfl rfl ?_ | refine x_iff rfl rfl rfl ?_ | refine x_label rfl ?_ | ((first | refine x_reg rfl rfl ?_ | (refine go_newx hty hnt hmh rfl rfl ?_; intro _)); refine runo0 400 hty hnt hmh ?_; simp only [so, sq, zy, zz, tyE, SO', SQ', opQ, opStore, opAlloc, ev, putS, dOk, cv, SV.cs, SV.one, SV.bool?, eqB, Value.oneCell', ldOwn, binInt, binConst, binBool, binStr, isC, TK.agg, rv, rv1, ldV, resOne, resV, Nat.reduceAdd, Nat.reduceMul, Nat.reduceSub, Nat.reduceLT, Nat.reduceLeDiff, Nat.reduceEqDiff, Nat.reduceBEq, reduceIte, reduceCtorEq, eq_self]))))
  · have : l.length ≠ l'.length := by simp at g3; omega
    refine x_ret rfl hQ hmb (by rw [hty]; rfl) rfl ?_; simp only [SV.den, resV]
    simp only [veq, veqL_len l l' this, decide_true, decide_false, if_true, if_false, Bool.true_and, Bool.false_and, Bool.and_false, Bool.and_true, Bool.false_eq_true, Bool.true_eq_false, reduceIte]
  have hll : l'.length = l.length := by simp at g3; omega
  refine go_keep [2, 3, 29, 30] [0, 1] ?_
  simp only [so, sq, zy, zz, tyE, SO', SQ', opQ, opStore, opAlloc, ev, putS, dOk, cv, SV.cs, SV.one, SV.bool?, eqB, Value.oneCell', ldOwn, binInt, binConst, binBool, binStr, isC, TK.agg, rv, rv1, ldV, resOne, resV, Nat.reduceAdd, Nat.reduceMul, Nat.reduceSub, Nat.reduceLT, Nat.reduceLeDiff, Nat.reduceEqDiff, Nat.reduceBEq, reduceIte, reduceCtorEq, eq_self]
  rename_i b0 b1
  refine x_loop rfl (fun q s => ∃ (j : Nat) (G' : Hp), j ≤ l.length ∧ q = l.length - j ∧ Le G G' ∧ veqL l l' = veqL (l.drop j) (l'.drop j) ∧
    s = ⟨[(2, .p 0 b0 0), (3, .p 1 b1 0), (29, .v (.int .i64 l.length)), (30, .v (.int .i64 j))], [(0, b0, .c 25 [.v (.int .i64 k), .v (.int .i64 m), .v (.slice ad l.length cap)]), (1, b1, .c 25 [.v (.int .i64 k'), .v (.int .i64 m'), .v (.slice ad' l'.length cap')])], G', []⟩) ⟨0, G, by omega, rfl, Le.refl _, by simp, rfl⟩ ?_
  rintro q s ⟨j, G', hj, hq, hle, hc, rfl⟩ ih
  (try (refine runo0 400 hty hnt hmh ?_; simp only [so, sq, zy, zz, tyE, SO', SQ', opQ, opStore, opAlloc, ev, putS, dOk, cv, SV.cs, SV.one, SV.bool?, eqB, Value.oneCell', ldOwn, binInt, binConst, binBool, binStr, isC, TK.agg, rv, rv1, ldV, resOne, resV, Nat.reduceAdd, Nat.reduceMul, Nat.reduceSub, Nat.reduceLT, Nat.reduceLeDiff, Nat.reduceEqDiff, Nat.reduceBEq, reduceIte, reduceCtorEq, eq_self])); (repeat (first | refine x_seq rfl ?_ | refine go_ops ?_ | refine go_blk ?_ | refine x_skip rfl ?_ | refine x_blk rfl rfl ?_ | refine x_exit rfl rfl rfl ?_ | refine x_ift rfl rfl rfl ?_ | refine x_iff rfl rfl rfl ?_ | refine x_label rfl ?_ | ((first | refine x_reg rfl rfl ?_ | (refine go_newx hty hnt hmh rfl rfl ?_; intro _)); refine runo0 400 hty hnt hmh ?_; simp only [so, sq, zy, zz, tyE, SO', SQ', opQ, opStore, opAlloc, ev, putS, dOk, cv, SV.cs, SV.one, SV.bool?, eqB, Value.oneCell', ldOwn, binInt, binConst, binBool, binStr, isC, TK.agg, rv, rv1, ldV, resOne, resV, Nat.reduceAdd, Nat.reduceMul, Nat.reduceSub, Nat.reduceLT, Nat.reduceLeDiff, Nat.reduceEqDiff, Nat.reduceBEq, reduceIte, reduceCtorEq, eq_self])))
  refine x_if rfl rfl rfl rfl (fun ht => ?_) (fun ht => ?_)
  · have hlt : j < l.length := by simp at ht; omega
    have hlt' : j < l'.length := by omega
    rcases hr with rfl | ⟨b, off, cs, rfl, ha, hrV⟩
    · simp at hlt
    rcases hr' with rfl | ⟨b', off', cs', rfl, ha', hrV'⟩
    · simp at hlt'
    obtain ⟨adx, capx, hat, hrx⟩ := At_get ha hrV hlt
    obtain ⟨ady, capy, haty, hry⟩ := At_get ha' hrV' hlt'
    have hdrop : l.drop j = l[j] :: l.drop (j + 1) := List.drop_eq_getElem_cons hlt
    have hdrop' : l'.drop j = l'[j] :: l'.drop (j + 1) := List.drop_eq_getElem_cons hlt'
    (try (refine runo0 400 hty hnt hmh ?_; simp only [so, sq, zy, zz, tyE, SO', SQ', opQ, opStore, opAlloc, ev, putS, dOk, cv, SV.cs, SV.one, SV.bool?, eqB, Value.oneCell', ldOwn, binInt, binConst, binBool, binStr, isC, TK.agg, rv, rv1, ldV, resOne, resV, Nat.reduceAdd, Nat.reduceMul, Nat.reduceSub, Nat.reduceLT, Nat.reduceLeDiff, Nat.reduceEqDiff, Nat.reduceBEq, reduceIte, reduceCtorEq, eq_self])); (repeat (first | refine x_seq rfl ?_ | refine go_ops ?_ | refine go_blk ?_ | refine x_skip rfl ?_ | refine x_blk rfl rfl ?_ | refine x_exit rfl rfl rfl ?_ | refine x_ift rfl rfl rfl ?_ | refine x_iff rfl rfl rfl ?_ | refine x_label rfl ?_ | ((first | refine x_reg rfl rfl ?_ | (refine go_newx hty hnt hmh rfl rfl ?_; intro _)); refine runo0 400 hty hnt hmh ?_; simp only [so, sq, zy, zz, tyE, SO', SQ', opQ, opStore, opAlloc, ev, putS, dOk, cv, SV.cs, SV.one, SV.bool?, eqB, Value.oneCell', ldOwn, binInt, binConst, binBool, binStr, isC, TK.agg, rv, rv1, ldV, resOne, resV, Nat.reduceAdd, Nat.reduceMul, Nat.reduceSub, Nat.reduceLT, Nat.reduceLeDiff, Nat.reduceEqDiff, Nat.reduceBEq, reduceIte, reduceCtorEq, eq_self])))
    refine x_draw rfl (by rw [hP]; kernel_rfl) rfl (by kernel_rfl) ?_
    refine runq 400 hty hnt ?_; simp only [so, sq, zy, zz, tyE, SO', SQ', opQ, opStore, opAlloc, ev, putS, dOk, cv, SV.cs, SV.one, SV.bool?, eqB, Value.oneCell', ldOwn, binInt, binConst, binBool, binStr, isC, TK.agg, rv, rv1, ldV, resOne, resV, Nat.reduceAdd, Nat.reduceMul, Nat.reduceSub, Nat.reduceLT, Nat.reduceLeDiff, Nat.reduceEqDiff, Nat.reduceBEq, reduceIte, reduceCtorEq, eq_self]
    refine q_q (by rw [hnt]; rfl) (quiet_index (by rw [hty]; rfl) (by rw [hty]; rfl) rfl rfl rfl (by omega) (by omega)) ?_
    refine q_q (by rw [hnt]; rfl) (quiet_load (by rw [hty]; rfl) rfl (by simp [TK.agg]) (hat.mono hle) rfl) ?_
    refine runq 400 hty hnt ?_; simp only [so, sq, zy, zz, tyE, SO', SQ', opQ, opStore, opAlloc, ev, putS, dOk, cv, SV.cs, SV.one, SV.bool?, eqB, Value.oneCell', ldOwn, binInt, binConst, binBool, binStr, isC, TK.agg, rv, rv1, ldV, resOne, resV, Nat.reduceAdd, Nat.reduceMul, Nat.reduceSub, Nat.reduceLT, Nat.reduceLeDiff, Nat.reduceEqDiff, Nat.reduceBEq, reduceIte, reduceCtorEq, eq_self]
    refine q_q (by rw [hnt]; rfl) (quiet_index (by rw [hty]; rfl) (by rw [hty]; rfl) rfl rfl rfl (by omega) (by omega)) ?_
    refine q_q (by rw [hnt]; rfl) (quiet_load (by rw [hty]; rfl) rfl (by simp [TK.agg]) (haty.mono hle) rfl) ?_
    refine q_callf (by rw [hnt]; rfl) (by rw [hP]; kernel_rfl) rfl (hP ▸ IH l[j] (List.getElem_mem hlt) l'[j] _ _ G' (VT.rep_mono hle hrx) (VT.rep_mono hle hry)) ?_
    refine runq 400 hty hnt ?_; simp only [so, sq, zy, zz, tyE, SO', SQ', opQ, opStore, opAlloc, ev, putS, dOk, cv, SV.cs, SV.one, SV.bool?, eqB, Value.oneCell', ldOwn, binInt, binConst, binBool, binStr, isC, TK.agg, rv, rv1, ldV, resOne, resV, Nat.reduceAdd, Nat.reduceMul, Nat.reduceSub, Nat.reduceLT, Nat.reduceLeDiff, Nat.reduceEqDiff, Nat.reduceBEq, reduceIte, reduceCtorEq, eq_self]
    refine q_end ?_
    (try (refine runo0 400 hty hnt hmh ?_; simp only [so, sq, zy, zz, tyE, SO', SQ', opQ, opStore, opAlloc, ev, putS, dOk, cv, SV.cs, SV.one, SV.bool?, eqB, Value.oneCell', ldOwn, binInt, binConst, binBool, binStr, isC, TK.agg, rv, rv1, ldV, resOne, resV, Nat.reduceAdd, Nat.reduceMul, Nat.reduceSub, Nat.reduceLT, Nat.reduceLeDiff, Nat.reduceEqDiff, Nat.reduceBEq, reduceIte, reduceCtorEq, eq_self])); (repeat (first | refine x_seq rfl ?_ | refine go_ops ?_ | refine go_blk ?_ | refine x_skip rfl ?_ | refine x_blk rfl rfl ?_ | refine x_exit rfl rfl rfl ?_ | refine x_ift rfl rfl rfl ?_ | refine x_iff rfl rfl rfl ?_ | refine x_label rfl ?_ | ((first | refine x_reg rfl rfl ?_ | (refine go_newx hty hnt hmh rfl rfl ?_; intro _)); refine runo0 400 hty hnt hmh ?_; simp only [so, sq, zy, zz, tyE, SO', SQ', opQ, opStore, opAlloc, ev, putS, dOk, cv, SV.cs, SV.one, SV.bool?, eqB, Value.oneCell', ldOwn, binInt, binConst, binBool, binStr, isC, TK.agg, rv, rv1, ldV, resOne, resV, Nat.reduceAdd, Nat.reduceMul, Nat.reduceSub, Nat.reduceLT, Nat.reduceLeDiff, Nat.reduceEqDiff, Nat.reduceBEq, reduceIte, reduceCtorEq, eq_self])))
    refine x_if rfl rfl rfl rfl (fun hv => ?_) (fun hv => ?_)
    · have hv' : veq l[j] l'[j] = false := by simpa using hv
      (try (refine runo0 400 hty hnt hmh ?_; simp only [so, sq, zy, zz, tyE, SO', SQ', opQ, opStore, opAlloc, ev, putS, dOk, cv, SV.cs, SV.one, SV.bool?, eqB, Value.oneCell', ldOwn, binInt, binConst, binBool, binStr, isC, TK.agg, rv, rv1, ldV, resOne, resV, Nat.reduceAdd, Nat.reduceMul, Nat.reduceSub, Nat.reduceLT, Nat.reduceLeDiff, Nat.reduceEqDiff, Nat.reduceBEq, reduceIte, reduceCtorEq, eq_self])); (repeat (first | refine x_seq rfl ?_ | refine go_ops ?_ | refine go_blk ?_ | refine x_skip rfl ?_ | refine x_blk rfl rfl ?_ | refine x_exit rfl rfl rfl ?_ | refine x_ift rfl rfl rfl ?_ | refine x_iff rfl rfl rfl ?_ | refine x_label rfl ?_ | ((first | refine x_reg rfl rfl ?_ | (refine go_newx hty hnt hmh rfl rfl ?_; intro _)); refine runo0 400 hty hnt hmh ?_; simp only [so, sq, zy, zz, tyE, SO', SQ', opQ, opStore, opAlloc, ev, putS, dOk, cv, SV.cs, SV.one, SV.bool?, eqB, Value.oneCell', ldOwn, binInt, binConst, binBool, binStr, isC, TK.agg, rv, rv1, ldV, resOne, resV, Nat.reduceAdd, Nat.reduceMul, Nat.reduceSub, Nat.reduceLT, Nat.reduceLeDiff, Nat.reduceEqDiff, Nat.reduceBEq, reduceIte, reduceCtorEq, eq_self])))
      refine x_ret rfl hQ hmb (by rw [hty]; rfl) rfl ?_; simp only [SV.den, resV]
      simp only [veq, hc, hdrop, hdrop', veqL, hv', decide_true, decide_false, if_true, if_false, Bool.true_and, Bool.false_and, Bool.and_false, Bool.and_true, Bool.false_eq_true, Bool.true_eq_false, reduceIte]
    · have hv' : veq l[j] l'[j] = true := by simpa using hv
      (try (refine runo0 400 hty hnt hmh ?_; simp only [so, sq, zy, zz, tyE, SO', SQ', opQ, opStore, opAlloc, ev, putS, dOk, cv, SV.cs, SV.one, SV.bool?, eqB, Value.oneCell', ldOwn, binInt, binConst, binBool, binStr, isC, TK.agg, rv, rv1, ldV, resOne, resV, Nat.reduceAdd, Nat.reduceMul, Nat.reduceSub, Nat.reduceLT, Nat.reduceLeDiff, Nat.reduceEqDiff, Nat.reduceBEq, reduceIte, reduceCtorEq, eq_self])); (repeat (first | refine x_seq rfl ?_ | refine go_ops ?_ | refine go_blk ?_ | refine x_skip rfl ?_ | refine x_blk rfl rfl ?_ | refine x_exit rfl rfl rfl ?_ | refine x_ift rfl rfl rfl ?_ | refine x_iff rfl rfl rfl ?_ | refine x_label rfl ?_ | ((first | refine x_reg rfl rfl ?_ | (refine go_newx hty hnt hmh rfl rfl ?_; intro _)); refine runo0 400 hty hnt hmh ?_; simp only [so, sq, zy, zz, tyE, SO', SQ', opQ, opStore, opAlloc, ev, putS, dOk, cv, SV.cs, SV.one, SV.bool?, eqB, Value.oneCell', ldOwn, binInt, binConst, binBool, binStr, isC, TK.agg, rv, rv1, ldV, resOne, resV, Nat.reduceAdd, Nat.reduceMul, Nat.reduceSub, Nat.reduceLT, Nat.reduceLeDiff, Nat.reduceEqDiff, Nat.reduceBEq, reduceIte, reduceCtorEq, eq_self])))
      rw [wr (by omega) (by omega)]
      refine go_keep [2, 3, 29, 30] [0, 1] ?_
      simp only [so, sq, zy, zz, tyE, SO', SQ', opQ, opStore, opAlloc, ev, putS, dOk, cv, SV.cs, SV.one, SV.bool?, eqB, Value.oneCell', ldOwn, binInt, binConst, binBool, binStr, isC, TK.agg, rv, rv1, ldV, resOne, resV, Nat.reduceAdd, Nat.reduceMul, Nat.reduceSub, Nat.reduceLT, Nat.reduceLeDiff, Nat.reduceEqDiff, Nat.reduceBEq, reduceIte, reduceCtorEq, eq_self]
      refine ih (l.length - (j + 1)) _ (by omega) ⟨j + 1, G', by omega, rfl, hle, ?_, by simp⟩
      rw [hc, hdrop, hdrop']; simp only [veqL, hv', decide_true, decide_false, if_true, if_false, Bool.true_and, Bool.false_and, Bool.and_false, Bool.and_true, Bool.false_eq_true, Bool.true_eq_false, reduceIte]
  · have hge : l.length ≤ j := by simp at ht; omega
    (try (refine runo0 400 hty hnt hmh ?_; simp only [so, sq, zy, zz, tyE, SO', SQ', opQ, opStore, opAlloc, ev, putS, dOk, cv, SV.cs, SV.one, SV.bool?, eqB, Value.oneCell', ldOwn, binInt, binConst, binBool, binStr, isC, TK.agg, rv, rv1, ldV, resOne, resV, Nat.reduceAdd, Nat.reduceMul, Nat.reduceSub, Nat.reduceLT, Nat.reduceLeDiff, Nat.reduceEqDiff, Nat.reduceBEq, reduceIte, reduceCtorEq, eq_self])); (repeat (first | refine x_seq rfl ?_ | refine go_ops ?_ | refine go_blk ?_ | refine x_skip rfl ?_ | refine x_blk rfl rfl ?_ | refine x_exit rfl rfl rfl ?_ | refine x_ift rfl rfl rfl ?_ | refine x_iff rfl rfl rfl ?_ | refine x_label rfl ?_ | ((first | refine x_reg rfl rfl ?_ | (refine go_newx hty hnt hmh rfl rfl ?_; intro _)); refine runo0 400 hty hnt hmh ?_; simp only [so, sq, zy, zz, tyE, SO', SQ', opQ, opStore, opAlloc, ev, putS, dOk, cv, SV.cs, SV.one, SV.bool?, eqB, Value.oneCell', ldOwn, binInt, binConst, binBool, binStr, isC, TK.agg, rv, rv1, ldV, resOne, resV, Nat.reduceAdd, Nat.reduceMul, Nat.reduceSub, Nat.reduceLT, Nat.reduceLeDiff, Nat.reduceEqDiff, Nat.reduceBEq, reduceIte, reduceCtorEq, eq_self])))
    refine x_ret rfl hQ hmb (by rw [hty]; rfl) rfl ?_; simp only [SV.den, resV]
    simp only [veq, e1, e2, hc, veqL_nil (l.drop j) (l'.drop j) (by simp; omega) (by simp; omega), decide_true, decide_false, if_true, if_false, Bool.true_and, Bool.false_and, Bool.and_false, Bool.and_true, Bool.false_eq_true, Bool.true_eq_false, reduceIte]
end Go.Proofs.Ytimoldnagdlbcaa
