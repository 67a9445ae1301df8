/-
  Rows.ImageDecodesSaid is proved here.
-/
import Derived.Test.YtpopbkiphdcilaaZ5
set_option linter.unusedSimpArgs false
set_option linter.unusedVariables false
namespace Go.Proofs.Ytpopbkiphdcilaa
set_option linter.unusedSimpArgs false
set_option linter.unusedVariables false
open Go.Sx
set_option maxHeartbeats 4000000
end Go.Proofs.Ytpopbkiphdcilaa
namespace Go.Proofs.Ytpopbkiphdcilaa
set_option linter.unusedSimpArgs false
set_option linter.unusedVariables false
open Go.Sx
def nde (x y : Nd) : Bool := x.op == y.op && (x.n == y.n && x.l == y.l)
def ndL : List Nd → List Nd → Bool
  | [], [] => true
  | x :: l, y :: m => nde x y && ndL l m
  | _, _ => false
def fue (a b : Fu) : Bool := a.params == b.params && ndL a.nodes b.nodes
theorem ndL_len : ∀ {l m : List Nd}, ndL l m = true → l.length = m.length
  | [], [], _ => rfl
  | x :: l, y :: m, h => by
    simp only [ndL, Bool.and_eq_true] at h
    simp [ndL_len h.2]
  | [], _ :: _, h => by simp [ndL] at h
  | _ :: _, [], h => by simp [ndL] at h
theorem nde_refl (x : Nd) : nde x x = true := by simp [nde]
theorem ndL_refl : ∀ l : List Nd, ndL l l = true
  | [] => rfl
  | x :: l => by simp [ndL, nde_refl, ndL_refl l]
theorem fue_refl (a : Fu) : fue a a = true := by simp [fue, ndL_refl]
theorem ndL_drop {l m : List Nd} {k : Nat} (h1 : k < l.length) (h2 : k < m.length) : ndL (l.drop k) (m.drop k) = (nde l[k] m[k] && ndL (l.drop (k + 1)) (m.drop (k + 1))) := by
  rw [List.drop_eq_getElem_cons h1, List.drop_eq_getElem_cons h2]; rfl
theorem beq_drop {l m : List Int} {k : Nat} (h1 : k < l.length) (h2 : k < m.length) : (l.drop k == m.drop k) = (l[k] == m[k] && l.drop (k + 1) == m.drop (k + 1)) := by
  rw [List.drop_eq_getElem_cons h1, List.drop_eq_getElem_cons h2]; rfl
theorem beq_len {l m : List Int} (h : l.length ≠ m.length) : (l == m) = false := by
  rw [beq_eq_false_iff_ne]
  rintro rfl
  exact h rfl
set_option maxHeartbeats 4000000
theorem equal_ok (l m : List Int) (s1 s2 : Value) (G : Hp) (h1 : rI.S G l s1) (h2 : rI.S G m s2) : Pure Try.prog 51 [s1, s2] G (fun r _ => r = .bool (l == m)) := by
  obtain ⟨ad1, cap1, rfl⟩ := Rp.S_slice h1
  obtain ⟨ad2, cap2, rfl⟩ := Rp.S_slice h2
  have h63 := Rp.S_len h1
  refine enterX ty tyok Try.func51 rfl Try.ntmps51 [.v (.slice ad1 l.length cap1), .v (.slice ad2 m.length cap2)] (by simp) ?_
  intro C hP hQ hnt hty hmb hmh hro; have hQp := qp_body hQ; refine st_ ?_
  refine rn_ ?_; intros
  refine x_split rfl rfl rfl (fun hl => ?_) (fun hl => ?_) <;> (refine st_ ?_; (refine ru_ ?_; intros))
  · refine x_retc rfl hQ hmb rfl (by rw [hty]; simp only [so, sq, zy, zz, tyE, SO', SQ', opQ, opStore, opAlloc, ev, putS, dOk, cv, SV.cs, SV.one, SV.bool?, eqB, Value.oneCell', ldOwn, binInt, binConst, binBool, binStr, isC, TK.agg, rv, rv1, ldV, resOne, resV, Nat.reduceAdd, Nat.reduceMul, Nat.reduceSub, Nat.reduceLT, Nat.reduceLeDiff, Nat.reduceEqDiff, Nat.reduceBEq, reduceIte, reduceCtorEq, eq_self]; try rfl) rfl ?_; simp only [SV.den, resV, dens]
    rw [beq_len (by simp at hl; omega)]
  have hlm : l.length = m.length := by simp at hl; omega
  refine go_keep [0, 1, 12, 13] [] ?_
  refine st_ ?_
  refine x_loop rfl (fun q s => ∃ (k : Nat), k ≤ l.length ∧ q = l.length - k ∧ (l == m) = (l.drop k == m.drop k) ∧
    s = ⟨[(0, .v (.slice ad1 l.length cap1)), (1, .v (.slice ad2 m.length cap2)), (12, .v (.int .i64 l.length)), (13, .v (.int .i64 k))], [], G, []⟩) ⟨0, by omega, rfl, by simp, by simp⟩ ?_
  rintro q s ⟨k, hk, hq, hinv, rfl⟩ ih
  refine rn_ ?_; intros
  refine x_if rfl rfl rfl rfl (fun hjl => ?_) (fun hjl => ?_)
  · have hlt : k < l.length := by simp at hjl; omega
    obtain ⟨c1, o1, rfl, ha1⟩ := rI_at h1 (i := k) hlt
    obtain ⟨c2, o2, rfl, ha2⟩ := rI_at h2 (i := k) (by omega)
    rw [beq_drop hlt (by omega)] at hinv
    refine rn_ ?_; intros
    refine x_draw rfl (by rw [hP]; kernel_rfl) rfl (by kernel_rfl) ?_
    refine runq 400 hty hnt ?_; refine st_ ?_
    refine q_q (by rw [hnt]; rfl) (quiet_index (by rw [hty]; rfl) (by rw [hty]; rfl) rfl rfl rfl (by omega) (by omega)) ?_; refine runq 400 hty hnt ?_; refine st_ ?_
    refine q_q (by rw [hnt]; rfl) (quiet_load (vs := [.int .i64 l[k]]) (by rw [hty]; rfl) rfl (by simp [TK.agg]) (by simpa using ha1) rfl) ?_
    refine runq 400 hty hnt ?_; refine st_ ?_
    refine q_q (by rw [hnt]; rfl) (quiet_index (by rw [hty]; rfl) (by rw [hty]; rfl) rfl rfl rfl (by omega) (by omega)) ?_; refine runq 400 hty hnt ?_; refine st_ ?_
    refine q_q (by rw [hnt]; rfl) (quiet_load (vs := [.int .i64 m[k]]) (by rw [hty]; rfl) rfl (by simp [TK.agg]) (by simpa using ha2) rfl) ?_
    refine runq 400 hty hnt ?_; refine st_ ?_
    refine q_end ?_; refine rn_ ?_; intros
    refine x_split rfl rfl rfl (fun hne => ?_) (fun hne => ?_) <;> (refine st_ ?_; (refine ru_ ?_; intros))
    · refine x_retc rfl hQ hmb rfl (by rw [hty]; simp only [so, sq, zy, zz, tyE, SO', SQ', opQ, opStore, opAlloc, ev, putS, dOk, cv, SV.cs, SV.one, SV.bool?, eqB, Value.oneCell', ldOwn, binInt, binConst, binBool, binStr, isC, TK.agg, rv, rv1, ldV, resOne, resV, Nat.reduceAdd, Nat.reduceMul, Nat.reduceSub, Nat.reduceLT, Nat.reduceLeDiff, Nat.reduceEqDiff, Nat.reduceBEq, reduceIte, reduceCtorEq, eq_self]; try rfl) rfl ?_; simp only [SV.den, resV, dens]
      rw [hinv, beq_eq_false_iff_ne.2 (by simpa using hne)]; rfl
    · rw [wr (n := (k : Int) + 1) (by omega) (by omega)]
      refine go_keep [0, 1, 12, 13] [] ?_
      refine st_ ?_
      exact ih (l.length - (k + 1)) _ (by omega) ⟨k + 1, by omega, rfl, by rw [hinv, show (l[k] == m[k]) = true by simpa using hne]; rfl, by simp⟩
  · have hge : k = l.length := by simp at hjl; omega
    subst hge
    refine rn_ ?_; intros
    refine x_retc rfl hQ hmb rfl (by rw [hty]; simp only [so, sq, zy, zz, tyE, SO', SQ', opQ, opStore, opAlloc, ev, putS, dOk, cv, SV.cs, SV.one, SV.bool?, eqB, Value.oneCell', ldOwn, binInt, binConst, binBool, binStr, isC, TK.agg, rv, rv1, ldV, resOne, resV, Nat.reduceAdd, Nat.reduceMul, Nat.reduceSub, Nat.reduceLT, Nat.reduceLeDiff, Nat.reduceEqDiff, Nat.reduceBEq, reduceIte, reduceCtorEq, eq_self]; try rfl) rfl ?_; simp only [SV.den, resV, dens]
    rw [hinv, List.drop_length, hlm, List.drop_length]; rfl
theorem same1_ok (x y : Nd) (s1 s2 : Value) (G : Hp) (h1 : rI.S G x.l s1) (h2 : rI.S G y.l s2) : Pure Try.prog 50 [.agg #[.int .i64 x.op, .int .i64 x.n, s1], .agg #[.int .i64 y.op, .int .i64 y.n, s2]] G (fun r _ => r = .bool (nde x y)) := by
  have h1' := h1
  have h2' := h2
  obtain ⟨ad1, cap1, rfl⟩ := Rp.S_slice h1
  obtain ⟨ad2, cap2, rfl⟩ := Rp.S_slice h2
  refine enterX ty tyok Try.func50 rfl Try.ntmps50 [.a [.v (.int .i64 x.op), .v (.int .i64 x.n), .v (.slice ad1 x.l.length cap1)], .a [.v (.int .i64 y.op), .v (.int .i64 y.n), .v (.slice ad2 y.l.length cap2)]] (by simp) ?_
  intro C hP hQ hnt hty hmb hmh hro; have hQp := qp_body hQ; refine st_ ?_
  refine rn_ ?_; intros
  refine go_gsplit rfl rfl (fun g1 => ?_) (fun g1 => ?_) <;> (refine st_ ?_; (refine rn_ ?_; intros))
  · refine go_gsplit rfl rfl (fun g2 => ?_) (fun g2 => ?_) <;> (refine st_ ?_; (refine rn_ ?_; intros))
    · refine go_callf (by rw [hnt]; rfl) (by rw [hP]; kernel_rfl) rfl (hP ▸ equal_ok x.l y.l _ _ G h1' h2') ?_; refine rn_ ?_; intros
      refine x_retc rfl hQ hmb rfl (by rw [hty]; simp only [so, sq, zy, zz, tyE, SO', SQ', opQ, opStore, opAlloc, ev, putS, dOk, cv, SV.cs, SV.one, SV.bool?, eqB, Value.oneCell', ldOwn, binInt, binConst, binBool, binStr, isC, TK.agg, rv, rv1, ldV, resOne, resV, Nat.reduceAdd, Nat.reduceMul, Nat.reduceSub, Nat.reduceLT, Nat.reduceLeDiff, Nat.reduceEqDiff, Nat.reduceBEq, reduceIte, reduceCtorEq, eq_self]; try rfl) rfl ?_; simp only [SV.den, resV, dens]
      simp only [nde, g1, g2, Bool.true_and]
    · refine x_retc rfl hQ hmb rfl (by rw [hty]; simp only [so, sq, zy, zz, tyE, SO', SQ', opQ, opStore, opAlloc, ev, putS, dOk, cv, SV.cs, SV.one, SV.bool?, eqB, Value.oneCell', ldOwn, binInt, binConst, binBool, binStr, isC, TK.agg, rv, rv1, ldV, resOne, resV, Nat.reduceAdd, Nat.reduceMul, Nat.reduceSub, Nat.reduceLT, Nat.reduceLeDiff, Nat.reduceEqDiff, Nat.reduceBEq, reduceIte, reduceCtorEq, eq_self]; try rfl) rfl ?_; simp only [SV.den, resV, dens]
      simp only [nde, g1, g2, Bool.true_and, Bool.false_and]
  · repeat (first | (refine go_gsplit rfl rfl (fun hc => absurd hc (by first | decide +kernel | simp)) (fun _ => ?_); refine st_ ?_; (refine rn_ ?_; intros)) | (refine go_gsplit rfl rfl (fun _ => ?_) (fun hc => absurd hc (by first | decide +kernel | simp)); refine st_ ?_; (refine rn_ ?_; intros)) | (refine x_split rfl rfl rfl (fun hc => absurd hc (by first | decide +kernel | simp)) (fun _ => ?_); refine st_ ?_; (refine ru_ ?_; intros)) | (refine x_split rfl rfl rfl (fun _ => ?_) (fun hc => absurd hc (by first | decide +kernel | simp)); refine st_ ?_; (refine ru_ ?_; intros)))
    refine x_retc rfl hQ hmb rfl (by rw [hty]; simp only [so, sq, zy, zz, tyE, SO', SQ', opQ, opStore, opAlloc, ev, putS, dOk, cv, SV.cs, SV.one, SV.bool?, eqB, Value.oneCell', ldOwn, binInt, binConst, binBool, binStr, isC, TK.agg, rv, rv1, ldV, resOne, resV, Nat.reduceAdd, Nat.reduceMul, Nat.reduceSub, Nat.reduceLT, Nat.reduceLeDiff, Nat.reduceEqDiff, Nat.reduceBEq, reduceIte, reduceCtorEq, eq_self]; try rfl) rfl ?_; simp only [SV.den, resV, dens]
    simp only [nde, g1, Bool.false_and]
theorem eqfunc_ok (a b : Fu) (s1 s2 : Value) (G : Hp) (h1 : rN.S G a.nodes s1) (h2 : rN.S G b.nodes s2) :
    Pure Try.prog 49 [s1, s2, .func (.func 50) #[] #[]] G (fun r _ => r = .bool (ndL a.nodes b.nodes)) := by
  obtain ⟨ad1, cap1, rfl⟩ := Rp.S_slice h1
  obtain ⟨ad2, cap2, rfl⟩ := Rp.S_slice h2
  have h63 := Rp.S_len h1
  refine enterX ty tyok Try.func49 rfl Try.ntmps49 [.v (.slice ad1 a.nodes.length cap1), .v (.slice ad2 b.nodes.length cap2), .v (.func (.func 50) #[] #[])] (by simp) ?_
  intro C hP hQ hnt hty hmb hmh hro; have hQp := qp_body hQ; refine st_ ?_
  refine rn_ ?_; intros
  have hfalse : a.nodes.length ≠ b.nodes.length → ndL a.nodes b.nodes = false := fun h => by
    cases hq : ndL a.nodes b.nodes with
    | false => rfl
    | true => exact absurd (ndL_len hq) h
  refine x_split rfl rfl rfl (fun hl => ?_) (fun hl => ?_) <;> (refine st_ ?_; (refine ru_ ?_; intros))
  · refine x_retc rfl hQ hmb rfl (by rw [hty]; simp only [so, sq, zy, zz, tyE, SO', SQ', opQ, opStore, opAlloc, ev, putS, dOk, cv, SV.cs, SV.one, SV.bool?, eqB, Value.oneCell', ldOwn, binInt, binConst, binBool, binStr, isC, TK.agg, rv, rv1, ldV, resOne, resV, Nat.reduceAdd, Nat.reduceMul, Nat.reduceSub, Nat.reduceLT, Nat.reduceLeDiff, Nat.reduceEqDiff, Nat.reduceBEq, reduceIte, reduceCtorEq, eq_self]; try rfl) rfl ?_; simp only [SV.den, resV, dens]
    rw [hfalse (by simp at hl; omega)]
  have hlm : a.nodes.length = b.nodes.length := by simp at hl; omega
  refine go_keep [0, 1, 2, 15, 16, 17] [] ?_
  refine st_ ?_
  refine x_loop rfl (fun q s => ∃ (k : Nat) (G' : Hp), k ≤ a.nodes.length ∧ q = a.nodes.length - k ∧ Le G G' ∧ ndL a.nodes b.nodes = ndL (a.nodes.drop k) (b.nodes.drop k) ∧
    s = ⟨[(0, .v (.slice ad1 a.nodes.length cap1)), (1, .v (.slice ad2 b.nodes.length cap2)), (2, .v (.func (.func 50) #[] #[])), (15, .v (.slice ad1 a.nodes.length cap1)), (16, .v (.int .i64 a.nodes.length)), (17, .v (.int .i64 k))], [], G', []⟩) ⟨0, G, by omega, rfl, Le.refl _, by simp, by simp⟩ ?_
  rintro q s ⟨k, G0, hk, hq, hle, hinv, rfl⟩ ih
  refine rn_ ?_; intros
  refine x_if rfl rfl rfl rfl (fun hjl => ?_) (fun hjl => ?_)
  · have hlt : k < a.nodes.length := by simp at hjl; omega
    rw [ndL_drop hlt (by omega)] at hinv
    obtain ⟨b1, o1, c1, cs1, hse1, hat1, sl1, rfl, hop1, hn1, hsl1⟩ := Rp.S_get h1 (i := k) (by omega)
    cases hse1
    have hsl1' := hsl1
    obtain ⟨_, ae1, ce1, rfl, _⟩ := hsl1
    have hat1' : At G b1 (o1 + k * 3) [.int .i64 a.nodes[k].op, .int .i64 a.nodes[k].n, .slice ae1 a.nodes[k].l.length ce1] := by simpa [rN] using hat1
    obtain ⟨b2, o2, c2, cs2, hse2, hat2, sl2, rfl, hop2, hn2, hsl2⟩ := Rp.S_get h2 (i := k) (by omega)
    cases hse2
    have hsl2' := hsl2
    obtain ⟨_, ae2, ce2, rfl, _⟩ := hsl2
    have hat2' : At G b2 (o2 + k * 3) [.int .i64 b.nodes[k].op, .int .i64 b.nodes[k].n, .slice ae2 b.nodes[k].l.length ce2] := by simpa [rN] using hat2
    refine rn_ ?_; intros
    refine go_q (by rw [hnt]; rfl) (quiet_index (by rw [hty]; rfl) (by rw [hty]; rfl) rfl rfl rfl (by omega) (by omega)) ?_
    refine rn_ ?_; intros
    refine go_q (by rw [hnt]; rfl) (quiet_load (by rw [hty]; rfl) rfl (by simp [TK.agg]) (hat1'.mono hle) rfl) ?_
    refine rn_ ?_; intros
    refine go_q (by rw [hnt]; rfl) (quiet_index (by rw [hty]; rfl) (by rw [hty]; rfl) rfl rfl rfl (by omega) (by omega)) ?_
    refine rn_ ?_; intros
    refine go_q (by rw [hnt]; rfl) (quiet_load (by rw [hty]; rfl) rfl (by simp [TK.agg]) (hat2'.mono hle) rfl) ?_
    refine rn_ ?_; intros
    refine go_callw (cap := []) (by rw [hnt]; rfl) (by rw [hP]; kernel_rfl) rfl rfl rfl (by rw [hP]; exact same1_ok a.nodes[k] b.nodes[k] _ _ G0 (Rp.S_mono hle hsl1') (Rp.S_mono hle hsl2')) ?_
    rintro v G1 (hle1 : Le G0 G1) rfl
    refine rn_ ?_; intros
    refine x_split rfl rfl rfl (fun hne => ?_) (fun hne => ?_) <;> (refine st_ ?_; (refine ru_ ?_; intros))
    · refine x_retc rfl hQ hmb rfl (by rw [hty]; simp only [so, sq, zy, zz, tyE, SO', SQ', opQ, opStore, opAlloc, ev, putS, dOk, cv, SV.cs, SV.one, SV.bool?, eqB, Value.oneCell', ldOwn, binInt, binConst, binBool, binStr, isC, TK.agg, rv, rv1, ldV, resOne, resV, Nat.reduceAdd, Nat.reduceMul, Nat.reduceSub, Nat.reduceLT, Nat.reduceLeDiff, Nat.reduceEqDiff, Nat.reduceBEq, reduceIte, reduceCtorEq, eq_self]; try rfl) rfl ?_; simp only [SV.den, resV, dens]
      rw [hinv, show nde a.nodes[k] b.nodes[k] = false by simpa using hne]; rfl
    · rw [wr (n := (k : Int) + 1) (by omega) (by omega)]
      refine go_keep [0, 1, 2, 15, 16, 17] [] ?_
      refine st_ ?_
      exact ih (a.nodes.length - (k + 1)) _ (by omega) ⟨k + 1, G1, by omega, rfl, hle.trans hle1, by rw [hinv, show nde a.nodes[k] b.nodes[k] = true by simpa using hne]; rfl, by simp⟩
  · have hge : k = a.nodes.length := by simp at hjl; omega
    subst hge
    refine rn_ ?_; intros
    refine x_retc rfl hQ hmb rfl (by rw [hty]; simp only [so, sq, zy, zz, tyE, SO', SQ', opQ, opStore, opAlloc, ev, putS, dOk, cv, SV.cs, SV.one, SV.bool?, eqB, Value.oneCell', ldOwn, binInt, binConst, binBool, binStr, isC, TK.agg, rv, rv1, ldV, resOne, resV, Nat.reduceAdd, Nat.reduceMul, Nat.reduceSub, Nat.reduceLT, Nat.reduceLeDiff, Nat.reduceEqDiff, Nat.reduceBEq, reduceIte, reduceCtorEq, eq_self]; try rfl) rfl ?_; simp only [SV.den, resV, dens]
    rw [hinv, List.drop_length, hlm, List.drop_length]; rfl
theorem same_ok (a b : Fu) (s1 s2 : Value) (G : Hp) (h1 : rN.S G a.nodes s1) (h2 : rN.S G b.nodes s2) : Pure Try.prog 41 [.agg #[.int .i64 a.params, s1], .agg #[.int .i64 b.params, s2]] G (fun r _ => r = .bool (fue a b)) := by
  have h1' := h1
  have h2' := h2
  obtain ⟨ad1, cap1, rfl⟩ := Rp.S_slice h1
  obtain ⟨ad2, cap2, rfl⟩ := Rp.S_slice h2
  refine enterX ty tyok Try.func41 rfl Try.ntmps41 [.a [.v (.int .i64 a.params), .v (.slice ad1 a.nodes.length cap1)], .a [.v (.int .i64 b.params), .v (.slice ad2 b.nodes.length cap2)]] (by simp) ?_
  intro C hP hQ hnt hty hmb hmh hro; have hQp := qp_body hQ; refine st_ ?_
  refine rn_ ?_; intros
  refine go_gsplit rfl rfl (fun g1 => ?_) (fun g1 => ?_) <;> (refine st_ ?_; (refine rn_ ?_; intros))
  · refine go_callf (by rw [hnt]; rfl) (by rw [hP]; kernel_rfl) rfl (hP ▸ eqfunc_ok a b _ _ G h1' h2') ?_; refine rn_ ?_; intros
    refine x_retc rfl hQ hmb rfl (by rw [hty]; simp only [so, sq, zy, zz, tyE, SO', SQ', opQ, opStore, opAlloc, ev, putS, dOk, cv, SV.cs, SV.one, SV.bool?, eqB, Value.oneCell', ldOwn, binInt, binConst, binBool, binStr, isC, TK.agg, rv, rv1, ldV, resOne, resV, Nat.reduceAdd, Nat.reduceMul, Nat.reduceSub, Nat.reduceLT, Nat.reduceLeDiff, Nat.reduceEqDiff, Nat.reduceBEq, reduceIte, reduceCtorEq, eq_self]; try rfl) rfl ?_; simp only [SV.den, resV, dens]
    simp only [fue, g1, Bool.true_and]
  · refine x_retc rfl hQ hmb rfl (by rw [hty]; simp only [so, sq, zy, zz, tyE, SO', SQ', opQ, opStore, opAlloc, ev, putS, dOk, cv, SV.cs, SV.one, SV.bool?, eqB, Value.oneCell', ldOwn, binInt, binConst, binBool, binStr, isC, TK.agg, rv, rv1, ldV, resOne, resV, Nat.reduceAdd, Nat.reduceMul, Nat.reduceSub, Nat.reduceLT, Nat.reduceLeDiff, Nat.reduceEqDiff, Nat.reduceBEq, reduceIte, reduceCtorEq, eq_self]; try rfl) rfl ?_; simp only [SV.den, resV, dens]
    simp only [fue, g1, Bool.false_and]
theorem refsame_ok (a b : Fu) (s1 s2 : Value) (G : Hp) (h1 : rN.S G a.nodes s1) (h2 : rN.S G b.nodes s2) : Pure Try.prog 46 [.agg #[.int .i64 a.params, s1], .agg #[.int .i64 b.params, s2]] G (fun r _ => r = .bool (fue a b)) := by
  obtain ⟨ad1, cap1, rfl⟩ := Rp.S_slice h1
  obtain ⟨ad2, cap2, rfl⟩ := Rp.S_slice h2
  have h63 := Rp.S_len h1
  refine enterX ty tyok Try.func46 rfl Try.ntmps46 [.a [.v (.int .i64 a.params), .v (.slice ad1 a.nodes.length cap1)], .a [.v (.int .i64 b.params), .v (.slice ad2 b.nodes.length cap2)]] (by simp) ?_
  intro C hP hQ hnt hty hmb hmh hro; have hQp := qp_body hQ; refine st_ ?_
  refine rn_ ?_; intros
  rename_i c2 c3
  have hfalse : a.nodes.length ≠ b.nodes.length → ndL a.nodes b.nodes = false := fun h => by
    cases hq : ndL a.nodes b.nodes with
    | false => rfl
    | true => exact absurd (ndL_len hq) h
  refine go_gsplit rfl rfl (fun g1 => ?_) (fun g1 => ?_) <;> (refine st_ ?_; (refine rn_ ?_; intros))
  · refine x_retc rfl hQ hmb rfl (by rw [hty]; simp only [so, sq, zy, zz, tyE, SO', SQ', opQ, opStore, opAlloc, ev, putS, dOk, cv, SV.cs, SV.one, SV.bool?, eqB, Value.oneCell', ldOwn, binInt, binConst, binBool, binStr, isC, TK.agg, rv, rv1, ldV, resOne, resV, Nat.reduceAdd, Nat.reduceMul, Nat.reduceSub, Nat.reduceLT, Nat.reduceLeDiff, Nat.reduceEqDiff, Nat.reduceBEq, reduceIte, reduceCtorEq, eq_self]; try rfl) rfl ?_; simp only [SV.den, resV, dens]
    simp only [fue, beq_eq_false_iff_ne.2 (show a.params ≠ b.params by simpa using g1), Bool.false_and]
  have hpe : (a.params == b.params) = true := by simpa using g1
  refine x_split rfl rfl rfl (fun g2 => ?_) (fun g2 => ?_) <;> (refine st_ ?_; (refine ru_ ?_; intros))
  · refine x_retc rfl hQ hmb rfl (by rw [hty]; simp only [so, sq, zy, zz, tyE, SO', SQ', opQ, opStore, opAlloc, ev, putS, dOk, cv, SV.cs, SV.one, SV.bool?, eqB, Value.oneCell', ldOwn, binInt, binConst, binBool, binStr, isC, TK.agg, rv, rv1, ldV, resOne, resV, Nat.reduceAdd, Nat.reduceMul, Nat.reduceSub, Nat.reduceLT, Nat.reduceLeDiff, Nat.reduceEqDiff, Nat.reduceBEq, reduceIte, reduceCtorEq, eq_self]; try rfl) rfl ?_; simp only [SV.den, resV, dens]
    simp only [fue, hpe, Bool.true_and]
    rw [hfalse (by simp at g2; omega)]
  have hlm : a.nodes.length = b.nodes.length := by simp at g2; omega
  have hfu : fue a b = ndL a.nodes b.nodes := by simp only [fue, hpe, Bool.true_and]
  refine go_keep [2, 3, 5] [0, 1] ?_
  refine st_ ?_
  refine x_loop rfl (fun q s => ∃ (k : Nat), k ≤ a.nodes.length ∧ q = a.nodes.length - k ∧ ndL a.nodes b.nodes = ndL (a.nodes.drop k) (b.nodes.drop k) ∧
    s = ⟨[(2, .p 0 c2 0), (3, .p 1 c3 0), (5, .v (.int .i64 k))], [(0, c2, .c 59 [.v (.int .i64 a.params), .v (.slice ad1 a.nodes.length cap1)]), (1, c3, .c 59 [.v (.int .i64 b.params), .v (.slice ad2 b.nodes.length cap2)])], G, []⟩) ⟨0, by omega, rfl, by simp, by simp⟩ ?_
  rintro q s ⟨k, hk, hq, hinv, rfl⟩ ih
  refine rn_ ?_; intros
  refine x_if rfl rfl rfl rfl (fun hjl => ?_) (fun hjl => ?_)
  · have hlt : k < a.nodes.length := by simp at hjl; omega
    rw [ndL_drop hlt (by omega)] at hinv
    obtain ⟨b1, o1, c1, cs1, hse1, hat1, sl1, rfl, hop1, hn1, hsl1⟩ := Rp.S_get h1 (i := k) (by omega)
    cases hse1
    have hsl1' := hsl1
    obtain ⟨_, ae1, ce1, rfl, _⟩ := hsl1
    have hat1' : At G b1 (o1 + k * 3) [.int .i64 a.nodes[k].op, .int .i64 a.nodes[k].n, .slice ae1 a.nodes[k].l.length ce1] := by simpa [rN] using hat1
    obtain ⟨b2, o2, c2, cs2, hse2, hat2, sl2, rfl, hop2, hn2, hsl2⟩ := Rp.S_get h2 (i := k) (by omega)
    cases hse2
    have hsl2' := hsl2
    obtain ⟨_, ae2, ce2, rfl, _⟩ := hsl2
    have hat2' : At G b2 (o2 + k * 3) [.int .i64 b.nodes[k].op, .int .i64 b.nodes[k].n, .slice ae2 b.nodes[k].l.length ce2] := by simpa [rN] using hat2
    generalize hx : a.nodes[k] = x at *
    generalize hy : b.nodes[k] = y at *
    refine rn_ ?_; intros
    refine cut_tail 1 (fun s' => ∃ b6 b7, s' = ⟨[(2, .p 0 c2 0), (3, .p 1 c3 0), (5, .v (.int .i64 k)), (6, .p 10 b6 0), (7, .p 11 b7 0)], [(0, c2, .c 59 [.v (.int .i64 a.params), .v (.slice (some ⟨b1, o1, none⟩) a.nodes.length cap1)]), (1, c3, .c 59 [.v (.int .i64 b.params), .v (.slice (some ⟨b2, o2, none⟩) b.nodes.length cap2)]),
      (10, b6, .c 62 [.v (.int .i64 x.op), .v (.int .i64 x.n), .v (.slice ae1 x.l.length ce1)]), (11, b7, .c 62 [.v (.int .i64 y.op), .v (.int .i64 y.n), .v (.slice ae2 y.l.length ce2)])], G, []⟩) ?_ (fun key => ?_)
    rotate_left
    · simp only [List.drop_succ_cons, List.drop_zero] at key
      refine x_held [(0, c2, .c 59 [.v (.int .i64 a.params), .v (.slice (some ⟨b1, o1, none⟩) a.nodes.length cap1)]), (1, c3, .c 59 [.v (.int .i64 b.params), .v (.slice (some ⟨b2, o2, none⟩) b.nodes.length cap2)])] rfl (by rw [hP]; kernel_rfl) rfl rfl rfl ?_; refine st_ ?_
      refine h_take 0 rfl (by kernel_rfl) (by kernel_rfl) (by kernel_rfl) hQp (by rw [hnt]; rfl) (allIn (by repeat (first | exact trivial | refine ⟨rfl, ?_⟩))) (by first | exact Le.refl _ | assumption) (quiet_op (by rw [hty]; first | rfl | (refine st_ ?_; rfl))) ?_; refine st_ ?_
      refine h_take 1 rfl (by kernel_rfl) (by kernel_rfl) (by kernel_rfl) hQp (by rw [hnt]; rfl) (allIn (by repeat (first | exact trivial | refine ⟨rfl, ?_⟩))) (by first | exact Le.refl _ | assumption) (quiet_op (by rw [hty]; first | rfl | (refine st_ ?_; rfl))) ?_; refine st_ ?_
      refine h_take 2 rfl (by kernel_rfl) (by kernel_rfl) (by kernel_rfl) hQp (by rw [hnt]; rfl) (allIn (by repeat (first | exact trivial | refine ⟨rfl, ?_⟩))) (by first | exact Le.refl _ | assumption) (quiet_op (by rw [hty]; first | rfl | (refine st_ ?_; rfl))) ?_; refine st_ ?_
      refine h_take 3 rfl (by kernel_rfl) (by kernel_rfl) (by kernel_rfl) hQp (by rw [hnt]; rfl) (allIn (by repeat (first | exact trivial | refine ⟨rfl, ?_⟩))) (by first | exact Le.refl _ | assumption) (x := .v (.pointer (some ⟨b1, o1 + k * 3, none⟩))) ((quiet_index (by rw [hty]; rfl) (by rw [hty]; rfl) rfl rfl rfl (by omega) (by omega)).cast (by simp [SV.den])) ?_
      refine st_ ?_
      refine h_take 4 rfl (by kernel_rfl) (by kernel_rfl) (by kernel_rfl) hQp (by rw [hnt]; rfl) (allIn (by repeat (first | exact trivial | refine ⟨rfl, ?_⟩))) (by first | exact Le.refl _ | assumption) (x := .a [.v (.int .i64 x.op), .v (.int .i64 x.n), .v (.slice ae1 x.l.length ce1)]) ((quiet_load (by rw [hty]; rfl) rfl (by simp [TK.agg]) hat1' rfl).cast rfl) ?_
      refine st_ ?_
      refine h_take 5 rfl (by kernel_rfl) (by kernel_rfl) (by kernel_rfl) hQp (by rw [hnt]; rfl) (allIn (by repeat (first | exact trivial | refine ⟨rfl, ?_⟩))) (by first | exact Le.refl _ | assumption) (quiet_op (by rw [hty]; first | rfl | (refine st_ ?_; rfl))) ?_; refine st_ ?_
      refine h_take 6 rfl (by kernel_rfl) (by kernel_rfl) (by kernel_rfl) hQp (by rw [hnt]; rfl) (allIn (by repeat (first | exact trivial | refine ⟨rfl, ?_⟩))) (by first | exact Le.refl _ | assumption) (quiet_op (by rw [hty]; first | rfl | (refine st_ ?_; rfl))) ?_; refine st_ ?_
      refine h_take 7 rfl (by kernel_rfl) (by kernel_rfl) (by kernel_rfl) hQp (by rw [hnt]; rfl) (allIn (by repeat (first | exact trivial | refine ⟨rfl, ?_⟩))) (by first | exact Le.refl _ | assumption) (quiet_op (by rw [hty]; first | rfl | (refine st_ ?_; rfl))) ?_; refine st_ ?_
      refine h_take 8 rfl (by kernel_rfl) (by kernel_rfl) (by kernel_rfl) hQp (by rw [hnt]; rfl) (allIn (by repeat (first | exact trivial | refine ⟨rfl, ?_⟩))) (by first | exact Le.refl _ | assumption) (x := .v (.pointer (some ⟨b2, o2 + k * 3, none⟩))) ((quiet_index (by rw [hty]; rfl) (by rw [hty]; rfl) rfl rfl rfl (by omega) (by omega)).cast (by simp [SV.den])) ?_
      refine st_ ?_
      refine h_take 9 rfl (by kernel_rfl) (by kernel_rfl) (by kernel_rfl) hQp (by rw [hnt]; rfl) (allIn (by repeat (first | exact trivial | refine ⟨rfl, ?_⟩))) (by first | exact Le.refl _ | assumption) (x := .a [.v (.int .i64 y.op), .v (.int .i64 y.n), .v (.slice ae2 y.l.length ce2)]) ((quiet_load (by rw [hty]; rfl) rfl (by simp [TK.agg]) hat2' rfl).cast rfl) ?_
      refine st_ ?_
      refine h_two 10 11 rfl rfl (by kernel_rfl) ?_ ?_
      · refine go_newAt 10 (by rw [hnt]; rfl) (by rw [hty]; rfl) rfl (by omega) ?_
        intro b6
        refine st_ ?_
        refine rn_ ?_; intros
        refine h_hs (allIn (by repeat (first | exact trivial | refine ⟨rfl, ?_⟩))) (by first | exact Le.refl _ | assumption) ?_
        refine h_one 11 rfl (by kernel_rfl) ?_
        refine go_newAt 11 (by rw [hnt]; rfl) (by rw [hty]; rfl) rfl (by omega) ?_
        intro b7
        refine st_ ?_
        refine rn_ ?_; intros
        refine h_hs (allIn (by repeat (first | exact trivial | refine ⟨rfl, ?_⟩))) (by first | exact Le.refl _ | assumption) ?_
        refine h_one 12 rfl (by kernel_rfl) ?_
        refine rn_ ?_; intros
        refine h_hs (allIn (by repeat (first | exact trivial | refine ⟨rfl, ?_⟩))) (by first | exact Le.refl _ | assumption) ?_
        refine h_one 13 rfl (by kernel_rfl) ?_
        refine rn_ ?_; intros
        refine h_hs (allIn (by repeat (first | exact trivial | refine ⟨rfl, ?_⟩))) (by first | exact Le.refl _ | assumption) ?_
        refine h_end (by kernel_rfl) ?_
        refine go_keep [2, 3, 5, 6, 7] [0, 1, 10, 11] ?_
        refine st_ ?_
        exact key _ ⟨_, _, rfl⟩
      · refine go_newAt 11 (by rw [hnt]; rfl) (by rw [hty]; rfl) rfl (by omega) ?_
        intro b7
        refine st_ ?_
        refine rn_ ?_; intros
        refine h_hs (allIn (by repeat (first | exact trivial | refine ⟨rfl, ?_⟩))) (by first | exact Le.refl _ | assumption) ?_
        refine h_one 10 rfl (by kernel_rfl) ?_
        refine go_newAt 10 (by rw [hnt]; rfl) (by rw [hty]; rfl) rfl (by omega) ?_
        intro b6
        refine st_ ?_
        refine rn_ ?_; intros
        refine h_hs (allIn (by repeat (first | exact trivial | refine ⟨rfl, ?_⟩))) (by first | exact Le.refl _ | assumption) ?_
        refine h_one 12 rfl (by kernel_rfl) ?_
        refine rn_ ?_; intros
        refine h_hs (allIn (by repeat (first | exact trivial | refine ⟨rfl, ?_⟩))) (by first | exact Le.refl _ | assumption) ?_
        refine h_one 13 rfl (by kernel_rfl) ?_
        refine rn_ ?_; intros
        refine h_hs (allIn (by repeat (first | exact trivial | refine ⟨rfl, ?_⟩))) (by first | exact Le.refl _ | assumption) ?_
        refine h_end (by kernel_rfl) ?_
        refine go_keep [2, 3, 5, 6, 7] [0, 1, 10, 11] ?_
        refine st_ ?_
        exact key _ ⟨_, _, rfl⟩
    rintro s' ⟨b6, b7, rfl⟩
    simp only [List.drop_succ_cons, List.drop_zero]
    refine rn_ ?_; intros
    refine go_gsplit rfl rfl (fun e1 => ?_) (fun e1 => ?_) <;> (refine st_ ?_; (refine rn_ ?_; intros))
    · repeat (first | (refine go_gsplit rfl rfl (fun hc => absurd hc (by first | decide +kernel | simp)) (fun _ => ?_); refine st_ ?_; (refine rn_ ?_; intros)) | (refine go_gsplit rfl rfl (fun _ => ?_) (fun hc => absurd hc (by first | decide +kernel | simp)); refine st_ ?_; (refine rn_ ?_; intros)) | (refine x_split rfl rfl rfl (fun hc => absurd hc (by first | decide +kernel | simp)) (fun _ => ?_); refine st_ ?_; (refine ru_ ?_; intros)) | (refine x_split rfl rfl rfl (fun _ => ?_) (fun hc => absurd hc (by first | decide +kernel | simp)); refine st_ ?_; (refine ru_ ?_; intros)))
      refine x_retc rfl hQ hmb rfl (by rw [hty]; simp only [so, sq, zy, zz, tyE, SO', SQ', opQ, opStore, opAlloc, ev, putS, dOk, cv, SV.cs, SV.one, SV.bool?, eqB, Value.oneCell', ldOwn, binInt, binConst, binBool, binStr, isC, TK.agg, rv, rv1, ldV, resOne, resV, Nat.reduceAdd, Nat.reduceMul, Nat.reduceSub, Nat.reduceLT, Nat.reduceLeDiff, Nat.reduceEqDiff, Nat.reduceBEq, reduceIte, reduceCtorEq, eq_self]; try rfl) rfl ?_; simp only [SV.den, resV, dens]
      rw [hfu, hinv]; simp only [nde, beq_eq_false_iff_ne.2 (show x.op ≠ y.op by simpa using e1), Bool.false_and]
    have e1' : (x.op == y.op) = true := by simpa using e1
    refine go_gsplit rfl rfl (fun e2 => ?_) (fun e2 => ?_) <;> (refine st_ ?_; (refine rn_ ?_; intros))
    · repeat (first | (refine go_gsplit rfl rfl (fun hc => absurd hc (by first | decide +kernel | simp)) (fun _ => ?_); refine st_ ?_; (refine rn_ ?_; intros)) | (refine go_gsplit rfl rfl (fun _ => ?_) (fun hc => absurd hc (by first | decide +kernel | simp)); refine st_ ?_; (refine rn_ ?_; intros)) | (refine x_split rfl rfl rfl (fun hc => absurd hc (by first | decide +kernel | simp)) (fun _ => ?_); refine st_ ?_; (refine ru_ ?_; intros)) | (refine x_split rfl rfl rfl (fun _ => ?_) (fun hc => absurd hc (by first | decide +kernel | simp)); refine st_ ?_; (refine ru_ ?_; intros)))
      refine x_retc rfl hQ hmb rfl (by rw [hty]; simp only [so, sq, zy, zz, tyE, SO', SQ', opQ, opStore, opAlloc, ev, putS, dOk, cv, SV.cs, SV.one, SV.bool?, eqB, Value.oneCell', ldOwn, binInt, binConst, binBool, binStr, isC, TK.agg, rv, rv1, ldV, resOne, resV, Nat.reduceAdd, Nat.reduceMul, Nat.reduceSub, Nat.reduceLT, Nat.reduceLeDiff, Nat.reduceEqDiff, Nat.reduceBEq, reduceIte, reduceCtorEq, eq_self]; try rfl) rfl ?_; simp only [SV.den, resV, dens]
      rw [hfu, hinv]; simp only [nde, e1', beq_eq_false_iff_ne.2 (show x.n ≠ y.n by simpa using e2), Bool.false_and, Bool.true_and]
    have e2' : (x.n == y.n) = true := by simpa using e2
    have hnd : nde x y = (x.l == y.l) := by simp only [nde, e1', e2', Bool.true_and]
    refine x_split rfl rfl rfl (fun e3 => ?_) (fun e3 => ?_) <;> (refine st_ ?_; (refine ru_ ?_; intros))
    · refine x_retc rfl hQ hmb rfl (by rw [hty]; simp only [so, sq, zy, zz, tyE, SO', SQ', opQ, opStore, opAlloc, ev, putS, dOk, cv, SV.cs, SV.one, SV.bool?, eqB, Value.oneCell', ldOwn, binInt, binConst, binBool, binStr, isC, TK.agg, rv, rv1, ldV, resOne, resV, Nat.reduceAdd, Nat.reduceMul, Nat.reduceSub, Nat.reduceLT, Nat.reduceLeDiff, Nat.reduceEqDiff, Nat.reduceBEq, reduceIte, reduceCtorEq, eq_self]; try rfl) rfl ?_; simp only [SV.den, resV, dens]
      rw [hfu, hinv, hnd, beq_len (by simp at e3; omega)]; rfl
    have hll : x.l.length = y.l.length := by simp at e3; omega
    have h63' := Rp.S_len hsl1'
    refine go_keep [2, 3, 5, 6, 7, 8] [0, 1, 10, 11] ?_
    refine st_ ?_
    refine x_loop rfl (fun q s => ∃ (m : Nat), m ≤ x.l.length ∧ q = x.l.length - m ∧ (x.l == y.l) = (x.l.drop m == y.l.drop m) ∧
      s = ⟨[(2, .p 0 c2 0), (3, .p 1 c3 0), (5, .v (.int .i64 k)), (6, .p 10 b6 0), (7, .p 11 b7 0), (8, .v (.int .i64 m))], [(0, c2, .c 59 [.v (.int .i64 a.params), .v (.slice (some ⟨b1, o1, none⟩) a.nodes.length cap1)]), (1, c3, .c 59 [.v (.int .i64 b.params), .v (.slice (some ⟨b2, o2, none⟩) b.nodes.length cap2)]),
      (10, b6, .c 62 [.v (.int .i64 x.op), .v (.int .i64 x.n), .v (.slice ae1 x.l.length ce1)]), (11, b7, .c 62 [.v (.int .i64 y.op), .v (.int .i64 y.n), .v (.slice ae2 y.l.length ce2)])], G, []⟩) ⟨0, by omega, rfl, by simp, by simp⟩ ?_
    rintro q2 s ⟨m, hm, hq2, hinv2, rfl⟩ ih2
    refine rn_ ?_; intros
    refine x_if rfl rfl rfl rfl (fun hml => ?_) (fun hml => ?_)
    · have hlt2 : m < x.l.length := by simp at hml; omega
      obtain ⟨d1, p1, rfl, ha1⟩ := rI_at hsl1' (i := m) hlt2
      obtain ⟨d2, p2, rfl, ha2⟩ := rI_at hsl2' (i := m) (by omega)
      rw [beq_drop hlt2 (by omega)] at hinv2
      refine rn_ ?_; intros
      refine x_draw rfl (by rw [hP]; kernel_rfl) rfl (by kernel_rfl) ?_
      refine runq 400 hty hnt ?_; refine st_ ?_
      refine q_q (by rw [hnt]; rfl) (quiet_index (by rw [hty]; rfl) (by rw [hty]; rfl) rfl rfl rfl (by omega) (by omega)) ?_; refine runq 400 hty hnt ?_; refine st_ ?_
      refine q_q (by rw [hnt]; rfl) (quiet_load (vs := [.int .i64 x.l[m]]) (by rw [hty]; rfl) rfl (by simp [TK.agg]) (by simpa using ha1) rfl) ?_
      refine runq 400 hty hnt ?_; refine st_ ?_
      refine q_q (by rw [hnt]; rfl) (quiet_index (by rw [hty]; rfl) (by rw [hty]; rfl) rfl rfl rfl (by omega) (by omega)) ?_; refine runq 400 hty hnt ?_; refine st_ ?_
      refine q_q (by rw [hnt]; rfl) (quiet_load (vs := [.int .i64 y.l[m]]) (by rw [hty]; rfl) rfl (by simp [TK.agg]) (by simpa using ha2) rfl) ?_
      refine runq 400 hty hnt ?_; refine st_ ?_
      refine q_end ?_; refine rn_ ?_; intros
      refine x_split rfl rfl rfl (fun hne => ?_) (fun hne => ?_) <;> (refine st_ ?_; (refine ru_ ?_; intros))
      · refine x_retc rfl hQ hmb rfl (by rw [hty]; simp only [so, sq, zy, zz, tyE, SO', SQ', opQ, opStore, opAlloc, ev, putS, dOk, cv, SV.cs, SV.one, SV.bool?, eqB, Value.oneCell', ldOwn, binInt, binConst, binBool, binStr, isC, TK.agg, rv, rv1, ldV, resOne, resV, Nat.reduceAdd, Nat.reduceMul, Nat.reduceSub, Nat.reduceLT, Nat.reduceLeDiff, Nat.reduceEqDiff, Nat.reduceBEq, reduceIte, reduceCtorEq, eq_self]; try rfl) rfl ?_; simp only [SV.den, resV, dens]
        rw [hfu, hinv, hnd, hinv2, beq_eq_false_iff_ne.2 (by simpa using hne)]; rfl
      · rw [wr (n := (m : Int) + 1) (by omega) (by omega)]
        refine go_keep [2, 3, 5, 6, 7, 8] [0, 1, 10, 11] ?_
        refine st_ ?_
        exact ih2 (x.l.length - (m + 1)) _ (by omega) ⟨m + 1, by omega, rfl, by rw [hinv2, show (x.l[m] == y.l[m]) = true by simpa using hne]; rfl, by simp⟩
    · have hge : m = x.l.length := by simp at hml; omega
      subst hge
      rw [List.drop_length, hll, List.drop_length] at hinv2
      refine rn_ ?_; intros
      rw [wr (n := (k : Int) + 1) (by omega) (by omega)]
      refine go_keep [2, 3, 5] [0, 1] ?_
      refine st_ ?_
      exact ih (a.nodes.length - (k + 1)) _ (by omega) ⟨k + 1, by omega, rfl, by rw [hinv, hnd, hinv2]; rfl, by simp⟩
  · have hge : k = a.nodes.length := by simp at hjl; omega
    subst hge
    refine rn_ ?_; intros
    refine x_retc rfl hQ hmb rfl (by rw [hty]; simp only [so, sq, zy, zz, tyE, SO', SQ', opQ, opStore, opAlloc, ev, putS, dOk, cv, SV.cs, SV.one, SV.bool?, eqB, Value.oneCell', ldOwn, binInt, binConst, binBool, binStr, isC, TK.agg, rv, rv1, ldV, resOne, resV, Nat.reduceAdd, Nat.reduceMul, Nat.reduceSub, Nat.reduceLT, Nat.reduceLeDiff, Nat.reduceEqDiff, Nat.reduceBEq, reduceIte, reduceCtorEq, eq_self]; try rfl) rfl ?_; simp only [SV.den, resV, dens]
    rw [hfu, hinv, List.drop_length, hlm, List.drop_length]; rfl
end Go.Proofs.Ytpopbkiphdcilaa
namespace Go.Proofs.Ytpopbkiphdcilaa
set_option linter.unusedSimpArgs false
set_option linter.unusedVariables false
open Go.Sx
def fuL : Pr → Pr → Bool
  | [], [] => true
  | a :: p, b :: q => fue a b && fuL p q
  | _, _ => false
theorem fuL_len : ∀ {p q : Pr}, fuL p q = true → p.length = q.length
  | [], [], _ => rfl
  | a :: p, b :: q, h => by simp only [fuL, Bool.and_eq_true] at h; simp [fuL_len h.2]
theorem fuL_refl : ∀ p : Pr, fuL p p = true
  | [] => rfl
  | a :: p => by simp [fuL, fue_refl, fuL_refl p]
theorem fuL_drop {p q : Pr} {k : Nat} (h1 : k < p.length) (h2 : k < q.length) : fuL (p.drop k) (q.drop k) = (fue (fu p k) (fu q k) && fuL (p.drop (k + 1)) (q.drop (k + 1))) := by
  rw [fu_drop h1, fu_drop h2]; rfl
theorem fuL_false {p q : Pr} (h : p.length ≠ q.length) : fuL p q = false := by
  cases hq : fuL p q with
  | false => rfl
  | true => exact absurd (fuL_len hq) h
set_option maxHeartbeats 4000000
theorem eqfuns_ok (p q : Pr) (s1 s2 : Value) (G : Hp) (h1 : rF.S G p s1) (h2 : rF.S G q s2) :
    Pure Try.prog 40 [s1, s2, .func (.func 41) #[] #[]] G (fun r _ => r = .bool (fuL p q)) := by
  have h10 := h1
  have h20 := h2
  obtain ⟨ad1, cap1, rfl⟩ := Rp.S_slice h1
  obtain ⟨ad2, cap2, rfl⟩ := Rp.S_slice h2
  have h63 := Rp.S_len h1
  refine enterX ty tyok Try.func40 rfl Try.ntmps40 [.v (.slice ad1 p.length cap1), .v (.slice ad2 q.length cap2), .v (.func (.func 41) #[] #[])] (by simp) ?_
  intro C hP hQ hnt hty hmb hmh hro; have hQp := qp_body hQ; refine st_ ?_
  refine rn_ ?_; intros
  refine x_split rfl rfl rfl (fun hl => ?_) (fun hl => ?_) <;> (refine st_ ?_; (refine ru_ ?_; intros))
  · refine x_retc rfl hQ hmb rfl (by rw [hty]; simp only [so, sq, zy, zz, tyE, SO', SQ', opQ, opStore, opAlloc, ev, putS, dOk, cv, SV.cs, SV.one, SV.bool?, eqB, Value.oneCell', ldOwn, binInt, binConst, binBool, binStr, isC, TK.agg, rv, rv1, ldV, resOne, resV, Nat.reduceAdd, Nat.reduceMul, Nat.reduceSub, Nat.reduceLT, Nat.reduceLeDiff, Nat.reduceEqDiff, Nat.reduceBEq, reduceIte, reduceCtorEq, eq_self]; try rfl) rfl ?_; simp only [SV.den, resV, dens]
    rw [fuL_false (by simp at hl; omega)]
  have hlm : p.length = q.length := by simp at hl; omega
  refine go_keep [0, 1, 2, 15, 16, 17] [] ?_
  refine st_ ?_
  refine x_loop rfl (fun qq s => ∃ (k : Nat) (G' : Hp), k ≤ p.length ∧ qq = p.length - k ∧ Le G G' ∧ fuL p q = fuL (p.drop k) (q.drop k) ∧
    s = ⟨[(0, .v (.slice ad1 p.length cap1)), (1, .v (.slice ad2 q.length cap2)), (2, .v (.func (.func 41) #[] #[])), (15, .v (.slice ad1 p.length cap1)), (16, .v (.int .i64 p.length)), (17, .v (.int .i64 k))], [], G', []⟩) ⟨0, G, by omega, rfl, Le.refl _, by simp, rfl⟩ ?_
  rintro qq s ⟨k, G0, hk, hq, hle, hinv, rfl⟩ ih
  refine rn_ ?_; intros
  refine x_if rfl rfl rfl rfl (fun hjl => ?_) (fun hjl => ?_)
  · have hlt : k < p.length := by simp at hjl; omega
    rw [fuL_drop hlt (by omega)] at hinv
    obtain ⟨b1, o1, n1, rfl, hat1, hp1, hn1⟩ := rF_at h10 hlt
    obtain ⟨b2, o2, n2, rfl, hat2, hp2, hn2⟩ := rF_at h20 (i := k) (by omega)
    have hc := same_ok (fu p k) (fu q k) n1 n2 G0 (Rp.S_mono hle hn1) (Rp.S_mono hle hn2)
    obtain ⟨adn1, capn1, rfl⟩ := Rp.S_slice hn1
    obtain ⟨adn2, capn2, rfl⟩ := Rp.S_slice hn2
    refine rn_ ?_; intros
    refine go_q (by rw [hnt]; rfl) (quiet_index (by rw [hty]; rfl) (by rw [hty]; rfl) rfl rfl rfl (by omega) (by omega)) ?_
    refine rn_ ?_; intros
    refine go_q (by rw [hnt]; rfl) (quiet_load (by rw [hty]; rfl) rfl (by simp [TK.agg]) (hat1.mono hle) rfl) ?_
    refine rn_ ?_; intros
    refine go_q (by rw [hnt]; rfl) (quiet_index (by rw [hty]; rfl) (by rw [hty]; rfl) rfl rfl rfl (by omega) (by omega)) ?_
    refine rn_ ?_; intros
    refine go_q (by rw [hnt]; rfl) (quiet_load (by rw [hty]; rfl) rfl (by simp [TK.agg]) (hat2.mono hle) rfl) ?_
    refine rn_ ?_; intros
    refine go_callw (cap := []) (by rw [hnt]; rfl) (by rw [hP]; kernel_rfl) rfl rfl rfl (by rw [hP]; exact hc) ?_
    rintro v G1 (hle1 : Le G0 G1) rfl
    refine rn_ ?_; intros
    refine x_split rfl rfl rfl (fun hne => ?_) (fun hne => ?_) <;> (refine st_ ?_; (refine ru_ ?_; intros))
    · refine x_retc rfl hQ hmb rfl (by rw [hty]; simp only [so, sq, zy, zz, tyE, SO', SQ', opQ, opStore, opAlloc, ev, putS, dOk, cv, SV.cs, SV.one, SV.bool?, eqB, Value.oneCell', ldOwn, binInt, binConst, binBool, binStr, isC, TK.agg, rv, rv1, ldV, resOne, resV, Nat.reduceAdd, Nat.reduceMul, Nat.reduceSub, Nat.reduceLT, Nat.reduceLeDiff, Nat.reduceEqDiff, Nat.reduceBEq, reduceIte, reduceCtorEq, eq_self]; try rfl) rfl ?_; simp only [SV.den, resV, dens]
      rw [hinv, show fue (fu p k) (fu q k) = false by simpa using hne]; rfl
    · rw [wr (n := (k : Int) + 1) (by omega) (by omega)]
      refine go_keep [0, 1, 2, 15, 16, 17] [] ?_
      refine st_ ?_
      exact ih (p.length - (k + 1)) _ (by omega) ⟨k + 1, G1, by omega, rfl, hle.trans hle1, by rw [hinv, show fue (fu p k) (fu q k) = true by simpa using hne]; rfl, by simp⟩
  · have hge : k = p.length := by simp at hjl; omega
    subst hge
    refine rn_ ?_; intros
    refine x_retc rfl hQ hmb rfl (by rw [hty]; simp only [so, sq, zy, zz, tyE, SO', SQ', opQ, opStore, opAlloc, ev, putS, dOk, cv, SV.cs, SV.one, SV.bool?, eqB, Value.oneCell', ldOwn, binInt, binConst, binBool, binStr, isC, TK.agg, rv, rv1, ldV, resOne, resV, Nat.reduceAdd, Nat.reduceMul, Nat.reduceSub, Nat.reduceLT, Nat.reduceLeDiff, Nat.reduceEqDiff, Nat.reduceBEq, reduceIte, reduceCtorEq, eq_self]; try rfl) rfl ?_; simp only [SV.den, resV, dens]
    rw [hinv, List.drop_length, hlm, List.drop_length]; rfl
theorem samep_ok (p q : Pr) (s1 s2 : Value) (G : Hp) (h1 : rF.S G p s1) (h2 : rF.S G q s2) : Pure Try.prog 24 [.agg #[s1], .agg #[s2]] G (fun r _ => r = .bool (fuL p q)) := by
  have h10 := h1
  have h20 := h2
  obtain ⟨ad1, cap1, rfl⟩ := Rp.S_slice h1
  obtain ⟨ad2, cap2, rfl⟩ := Rp.S_slice h2
  refine enterX ty tyok Try.func24 rfl Try.ntmps24 [.a [.v (.slice ad1 p.length cap1)], .a [.v (.slice ad2 q.length cap2)]] (by simp) ?_
  intro C hP hQ hnt hty hmb hmh hro; have hQp := qp_body hQ; refine st_ ?_
  refine rn_ ?_; intros
  refine go_callf (by rw [hnt]; rfl) (by rw [hP]; kernel_rfl) rfl (hP ▸ eqfuns_ok p q _ _ G h10 h20) ?_; refine rn_ ?_; intros
  refine x_retc rfl hQ hmb rfl (by rw [hty]; simp only [so, sq, zy, zz, tyE, SO', SQ', opQ, opStore, opAlloc, ev, putS, dOk, cv, SV.cs, SV.one, SV.bool?, eqB, Value.oneCell', ldOwn, binInt, binConst, binBool, binStr, isC, TK.agg, rv, rv1, ldV, resOne, resV, Nat.reduceAdd, Nat.reduceMul, Nat.reduceSub, Nat.reduceLT, Nat.reduceLeDiff, Nat.reduceEqDiff, Nat.reduceBEq, reduceIte, reduceCtorEq, eq_self]; try rfl) rfl ?_; simp only [SV.den, resV, dens]
theorem rfuns_ok (p q : Pr) (s1 s2 : Value) (G : Hp) (h1 : rF.S G p s1) (h2 : rF.S G q s2) : Pure Try.prog 37 [s1, s2] G (fun r _ => r = .bool (fuL p q)) := by
  have h10 := h1
  have h20 := h2
  obtain ⟨ad1, cap1, rfl⟩ := Rp.S_slice h1
  obtain ⟨ad2, cap2, rfl⟩ := Rp.S_slice h2
  have h63 := Rp.S_len h1
  refine enterX ty tyok Try.func37 rfl Try.ntmps37 [.v (.slice ad1 p.length cap1), .v (.slice ad2 q.length cap2)] (by simp) ?_
  intro C hP hQ hnt hty hmb hmh hro; have hQp := qp_body hQ; refine st_ ?_
  refine rn_ ?_; intros
  refine x_split rfl rfl rfl (fun hl => ?_) (fun hl => ?_) <;> (refine st_ ?_; (refine ru_ ?_; intros))
  · refine x_retc rfl hQ hmb rfl (by rw [hty]; simp only [so, sq, zy, zz, tyE, SO', SQ', opQ, opStore, opAlloc, ev, putS, dOk, cv, SV.cs, SV.one, SV.bool?, eqB, Value.oneCell', ldOwn, binInt, binConst, binBool, binStr, isC, TK.agg, rv, rv1, ldV, resOne, resV, Nat.reduceAdd, Nat.reduceMul, Nat.reduceSub, Nat.reduceLT, Nat.reduceLeDiff, Nat.reduceEqDiff, Nat.reduceBEq, reduceIte, reduceCtorEq, eq_self]; try rfl) rfl ?_; simp only [SV.den, resV, dens]
    rw [fuL_false (by simp at hl; omega)]
  have hlm : p.length = q.length := by simp at hl; omega
  refine go_keep [0, 1, 5] [] ?_
  refine st_ ?_
  refine x_loop rfl (fun qq s => ∃ (k : Nat), k ≤ p.length ∧ qq = p.length - k ∧ fuL p q = fuL (p.drop k) (q.drop k) ∧
    s = ⟨[(0, .v (.slice ad1 p.length cap1)), (1, .v (.slice ad2 q.length cap2)), (5, .v (.int .i64 k))], [], G, []⟩) ⟨0, by omega, rfl, by simp, rfl⟩ ?_
  rintro qq s ⟨k, hk, hq, hinv, rfl⟩ ih
  refine rn_ ?_; intros
  refine x_if rfl rfl rfl rfl (fun hjl => ?_) (fun hjl => ?_)
  · have hlt : k < p.length := by simp at hjl; omega
    rw [fuL_drop hlt (by omega)] at hinv
    obtain ⟨b1, o1, n1, rfl, hat1, hp1, hn1⟩ := rF_at h10 hlt
    obtain ⟨b2, o2, n2, rfl, hat2, hp2, hn2⟩ := rF_at h20 (i := k) (by omega)
    have hc := refsame_ok (fu p k) (fu q k) n1 n2 G hn1 hn2
    obtain ⟨adn1, capn1, rfl⟩ := Rp.S_slice hn1
    obtain ⟨adn2, capn2, rfl⟩ := Rp.S_slice hn2
    refine rn_ ?_; intros
    refine x_draw rfl (by rw [hP]; kernel_rfl) rfl (by kernel_rfl) ?_
    refine runq 400 hty hnt ?_; refine st_ ?_
    refine q_q (by rw [hnt]; rfl) (quiet_index (by rw [hty]; rfl) (by rw [hty]; rfl) rfl rfl rfl (by omega) (by omega)) ?_; refine runq 400 hty hnt ?_; refine st_ ?_
    refine q_q (by rw [hnt]; rfl) (quiet_load (by rw [hty]; rfl) rfl (by simp [TK.agg]) hat1 rfl) ?_; refine runq 400 hty hnt ?_; refine st_ ?_
    refine q_q (by rw [hnt]; rfl) (quiet_index (by rw [hty]; rfl) (by rw [hty]; rfl) rfl rfl rfl (by omega) (by omega)) ?_; refine runq 400 hty hnt ?_; refine st_ ?_
    refine q_q (by rw [hnt]; rfl) (quiet_load (by rw [hty]; rfl) rfl (by simp [TK.agg]) hat2 rfl) ?_; refine runq 400 hty hnt ?_; refine st_ ?_
    refine q_callf (by rw [hnt]; rfl) (by rw [hP]; kernel_rfl) rfl (hP ▸ hc) ?_; refine runq 400 hty hnt ?_; refine st_ ?_
    refine q_end ?_; refine rn_ ?_; intros
    refine x_split rfl rfl rfl (fun hne => ?_) (fun hne => ?_) <;> (refine st_ ?_; (refine ru_ ?_; intros))
    · refine x_retc rfl hQ hmb rfl (by rw [hty]; simp only [so, sq, zy, zz, tyE, SO', SQ', opQ, opStore, opAlloc, ev, putS, dOk, cv, SV.cs, SV.one, SV.bool?, eqB, Value.oneCell', ldOwn, binInt, binConst, binBool, binStr, isC, TK.agg, rv, rv1, ldV, resOne, resV, Nat.reduceAdd, Nat.reduceMul, Nat.reduceSub, Nat.reduceLT, Nat.reduceLeDiff, Nat.reduceEqDiff, Nat.reduceBEq, reduceIte, reduceCtorEq, eq_self]; try rfl) rfl ?_; simp only [SV.den, resV, dens]
      rw [hinv, show fue (fu p k) (fu q k) = false by simpa using hne]; rfl
    · rw [wr (n := (k : Int) + 1) (by omega) (by omega)]
      refine go_keep [0, 1, 5] [] ?_
      refine st_ ?_
      exact ih (p.length - (k + 1)) _ (by omega) ⟨k + 1, by omega, rfl, by rw [hinv, show fue (fu p k) (fu q k) = true by simpa using hne]; rfl, by simp⟩
  · have hge : k = p.length := by simp at hjl; omega
    subst hge
    refine rn_ ?_; intros
    refine x_retc rfl hQ hmb rfl (by rw [hty]; simp only [so, sq, zy, zz, tyE, SO', SQ', opQ, opStore, opAlloc, ev, putS, dOk, cv, SV.cs, SV.one, SV.bool?, eqB, Value.oneCell', ldOwn, binInt, binConst, binBool, binStr, isC, TK.agg, rv, rv1, ldV, resOne, resV, Nat.reduceAdd, Nat.reduceMul, Nat.reduceSub, Nat.reduceLT, Nat.reduceLeDiff, Nat.reduceEqDiff, Nat.reduceBEq, reduceIte, reduceCtorEq, eq_self]; try rfl) rfl ?_; simp only [SV.den, resV, dens]
    rw [hinv, List.drop_length, hlm, List.drop_length]; rfl
theorem rsamep_ok (p q : Pr) (s1 s2 : Value) (G : Hp) (h1 : rF.S G p s1) (h2 : rF.S G q s2) : Pure Try.prog 20 [.agg #[s1], .agg #[s2]] G (fun r _ => r = .bool (fuL p q)) := by
  have h10 := h1
  have h20 := h2
  obtain ⟨ad1, cap1, rfl⟩ := Rp.S_slice h1
  obtain ⟨ad2, cap2, rfl⟩ := Rp.S_slice h2
  refine enterX ty tyok Try.func20 rfl Try.ntmps20 [.a [.v (.slice ad1 p.length cap1)], .a [.v (.slice ad2 q.length cap2)]] (by simp) ?_
  intro C hP hQ hnt hty hmb hmh hro; have hQp := qp_body hQ; refine st_ ?_
  refine rn_ ?_; intros
  refine go_callf (by rw [hnt]; rfl) (by rw [hP]; kernel_rfl) rfl (hP ▸ rfuns_ok p q _ _ G h10 h20) ?_; refine rn_ ?_; intros
  refine x_retc rfl hQ hmb rfl (by rw [hty]; simp only [so, sq, zy, zz, tyE, SO', SQ', opQ, opStore, opAlloc, ev, putS, dOk, cv, SV.cs, SV.one, SV.bool?, eqB, Value.oneCell', ldOwn, binInt, binConst, binBool, binStr, isC, TK.agg, rv, rv1, ldV, resOne, resV, Nat.reduceAdd, Nat.reduceMul, Nat.reduceSub, Nat.reduceLT, Nat.reduceLeDiff, Nat.reduceEqDiff, Nat.reduceBEq, reduceIte, reduceCtorEq, eq_self]; try rfl) rfl ?_; simp only [SV.den, resV, dens]
end Go.Proofs.Ytpopbkiphdcilaa
namespace Go.Proofs.Ytpopbkiphdcilaa
set_option linter.unusedSimpArgs false
set_option linter.unusedVariables false
open Go.Sx
set_option maxHeartbeats 4000000
def seB (sealed : Bool) (b : List Int) : List Int := if sealed then (if b.length < 4 then b else sealB (b.take (b.length - 4))) else b
theorem seB_len (sealed : Bool) (b : List Int) : (seB sealed b).length = b.length := by
  unfold seB
  split
  · split
    · rfl
    · rw [sealB_len, List.length_take]; omega
  · rfl
theorem imageDecodes_ok (b : List Int) (sb : Value) (sealed : Bool) (G : Hp) (hb : rBS G b sb) : Pure Try.prog 5 [sb, .bool sealed] G (fun r _ => r = .bool true) := by
  obtain ⟨hb0, adb, capb, rfl, hcb⟩ := hb
  have hok := rB_ok hb0
  refine enterX ty tyok Try.func5 rfl Try.ntmps5 [.v (.slice adb b.length capb), .v (.bool sealed)] (by simp) ?_
  intro C hP hQ hnt hty hmb hmh hro; have hQp := qp_body hQ; refine st_ ?_
  refine rn_ ?_; intros
  refine x_split rfl rfl rfl (fun h1 => ?_) (fun h1 => ?_) <;> (refine st_ ?_; (refine ru_ ?_; intros))
  · refine go_callf (by rw [hnt]; rfl) (by rw [hP]; kernel_rfl) rfl (hP ▸ works_ok _) ?_; refine rn_ ?_; intros
    refine x_retc rfl hQ hmb rfl (by rw [hty]; simp only [so, sq, zy, zz, tyE, SO', SQ', opQ, opStore, opAlloc, ev, putS, dOk, cv, SV.cs, SV.one, SV.bool?, eqB, Value.oneCell', ldOwn, binInt, binConst, binBool, binStr, isC, TK.agg, rv, rv1, ldV, resOne, resV, Nat.reduceAdd, Nat.reduceMul, Nat.reduceSub, Nat.reduceLT, Nat.reduceLeDiff, Nat.reduceEqDiff, Nat.reduceBEq, reduceIte, reduceCtorEq, eq_self]; try rfl) rfl ?_; simp only [SV.den, resV, dens]
  have h1' : b.length ≤ 3000 := by have := of_decide_eq_false h1; omega
  refine rn_ ?_; intros
  rename_i bl
  refine go_litrow 0 (n := 0) (size := 1) rfl (by omega) rfl (by omega) ?_
  refine st_ ?_
  have hsb := Rp.src (r := rB) (cap := capb) (by obtain ⟨_, a', c', hse, h⟩ := hb0; cases hse; exact h)
  obtain ⟨csb, hcb1, hsb'⟩ := hsb
  obtain ⟨rfl, _⟩ := rB_L.1 hcb1
  refine go_append_any 0 (by rw [hnt]; rfl) (by rw [hty]; rfl) (by rw [hty]; rfl) (by decide) rfl rfl rfl (by omega) rfl (hsb'.imp id fun h => h C _ rfl) (by simp [bZ]) (Rp.L_one hcb1) (by omega) (by simp only []; omega) ?_
  intro v'
  simp only [Nat.zero_add, dens, List.nil_append]
  refine st_ ?_
  refine rn_ ?_; intros
  refine go_keep [4, 5, 20] [0] ?_
  refine st_ ?_
  refine cut_tail 1 (fun s' => ∃ (vc : Value) (G' : Hp) (b0 : Nat), Le G G' ∧ okB (seB sealed b) ∧
    s' = ⟨[(4, .b false), (5, .v vc)], [(0, b0, .row vc 5 1 (seB sealed b).length (bZ (seB sealed b)))], G', []⟩) ?_ (fun key => ?_)
  rotate_left
  · cases sealed
    · refine go_slot 20 (.b false) rfl (by simp [SV.den]) ?_
      refine st_ ?_
      refine x_iff rfl rfl rfl ?_
      refine x_skip rfl ?_
      refine go_keep [4, 5] [0] ?_
      refine st_ ?_
      exact key _ ⟨v', G, bl, Le.refl _, hok, rfl⟩
    · refine go_slot 20 (.b true) rfl (by simp [SV.den]) ?_; refine rn_ ?_; intros
      rename_i bl2
      refine go_litrow 1 (n := 0) (size := 1) rfl (by omega) rfl (by omega) ?_
      refine st_ ?_
      refine go_rowE 0 rfl ?_
      rintro adc capc rfl hcc hpc
      refine go_pubL rB 0 rfl (by omega) (ts := b) (by omega) (by omega) hcb1 ?_
      rintro G1 adc1 capc1 (hle1 : Le G G1) hse hS1
      injection hse with e1 _ e3
      subst e1 e3
      refine st_ ?_
      refine go_call (by rw [hnt]; rfl) (by rw [hP]; kernel_rfl) rfl (hP ▸ Sealed_ok b _ _ ⟨hS1, _, _, rfl, hcc⟩ (by omega)) ?_
      rintro v G2 (hle2 : Le G1 G2) hv
      have hv' : rBS G2 (seB true b) v := hv
      have hlen2 := seB_len true b
      clear hv
      obtain ⟨hv0, ad2, cap2, rfl, _⟩ := hv'
      have hokc := rB_ok hv0
      generalize seB true b = cl at *
      refine st_ ?_
      have hsb := Rp.src (r := rB) (cap := cap2) (by obtain ⟨_, a', c', hse, h⟩ := hv0; cases hse; exact h)
      obtain ⟨csb, hcb1, hsb'⟩ := hsb
      obtain ⟨rfl, _⟩ := rB_L.1 hcb1
      refine go_append_any 1 (by rw [hnt]; rfl) (by rw [hty]; rfl) (by rw [hty]; rfl) (by decide) rfl rfl rfl (by omega) rfl (hsb'.imp id fun h => h C _ rfl) (by simp [bZ]) (Rp.L_one hcb1) (by omega) (by simp only []; omega) ?_
      intro v3
      simp only [Nat.zero_add, dens, List.nil_append]
      refine st_ ?_
      refine runo0 400 hty hnt hmh ?_; refine st_ ?_
      refine go_ops ?_
      refine go_keep [4, 5] [1] ?_
      refine st_ ?_
      refine go_ren 1 0 rfl (by omega) ?_
      exact key _ ⟨v3, G2, bl2, hle1.trans hle2, hokc, rfl⟩
  rintro s' ⟨vc, G1, b0, hle1, hokc, rfl⟩
  have hlenc := seB_len sealed b
  generalize seB sealed b = cl at *
  refine go_rowE 0 rfl ?_
  rintro adc capc rfl hcc hpc
  refine rn_ ?_; intros
  refine go_q (v := .string (strOfNums cl)) (by rw [hnt]; rfl) (quiet_strG (by rw [hty]; rfl) (by rw [hty]; rfl) (by rw [hty]; rfl) rfl rfl rfl (str_hatO 0 rfl hpc)) ?_
  refine rn_ ?_; intros
  refine go_lendB 0 (by rw [hnt]; rfl) (by rw [hP]; kernel_rfl) rfl rfl (by omega) rfl (by omega) hokc (ψ := fun v H => ∃ (a1 : Option Addr) (n1 c1 : Nat), v = .tuple #[.agg #[.slice a1 n1 c1], .int .i64 (decR cl).2] ∧ rF.S H ((decR cl).1.map (·.2)) (.slice a1 n1 c1)) (fun G2 hle2 hS2 => by rw [hP]; exact iDecodeF_ok cl _ G2 hS2) ?_ ?_
  · rintro v H H' hle ⟨a1, n1, c1, e1, h1⟩
    exact ⟨a1, n1, c1, e1, Rp.S_mono hle h1⟩
  rintro v G2 (hle2 : Le G1 G2) ⟨a1, n1, c1, rfl, hF1⟩
  refine st_ ?_
  refine rn_ ?_; intros
  refine go_q (v := .string (strOfNums cl)) (by rw [hnt]; rfl) (quiet_strG (by rw [hty]; rfl) (by rw [hty]; rfl) (by rw [hty]; rfl) rfl rfl rfl (str_hatO 0 rfl hpc)) ?_
  refine rn_ ?_; intros
  try simp only [beq_self_eq_true]
  refine go_slot 9 (.b true) rfl (by simp [SV.den]) ?_
  rename_i b7
  refine go_keep [5, 6, 7, 8, 9, 10] [0, 1] ?_
  refine st_ ?_
  refine x_loop rfl (fun q s => ∃ (i : Nat) (xs : List Int), i ≤ cl.length ∧ q = cl.length - i ∧ xs.length = cl.length ∧
    s = ⟨[(5, .v (.slice adc cl.length capc)), (6, .v (.string (strOfNums cl))), (7, .p 1 b7 0), (8, .v (.int .i64 (decR cl).2)), (9, .b true), (10, .v (.int .i64 i))],
      [(0, b0, .row (.slice adc cl.length capc) 5 1 cl.length (bZ xs)), (1, b7, .c 24 [.v (.slice a1 n1 c1)])], G2, []⟩) ⟨0, cl, by omega, rfl, rfl, rfl⟩ ?_
  rintro q s ⟨i, xs, hi, hq, hxs, rfl⟩ ih
  refine rn_ ?_; intros
  refine x_if rfl rfl rfl rfl (fun hil => ?_) (fun hil => ?_)
  · have hlt : i < cl.length := by simp at hil; omega
    obtain ⟨g, rfl⟩ : ∃ g, adc = some ⟨g, 0, none⟩ := by
      rcases hpc with ⟨h0, _⟩ | h0
      · have : cl.length = 0 := by rw [← bZ_len, h0]; rfl
        omega
      · exact h0
    refine rn_ ?_; intros
    refine go_q (by rw [hnt]; rfl) (quiet_index (by rw [hty]; rfl) (by rw [hty]; rfl) rfl rfl rfl (by omega) (by omega)) ?_
    refine rn_ ?_; intros
    refine go_q (v := .int .u8 xs[i]) (by rw [hnt]; rfl) ((quiet_loadR (k := 0) (by rw [hty]; rfl) rfl (by simp [TK.agg]) rfl (by simp [bZ_len]; omega)).cast (by exact ldU (by omega) (by simp))) ?_
    refine rn_ ?_; intros
    refine go_q (by rw [hnt]; rfl) (quiet_index (by rw [hty]; rfl) (by rw [hty]; rfl) rfl rfl rfl (by omega) (by omega)) ?_
    refine rn_ ?_; intros
    refine go_storeR 0 rfl (by rw [hty]; rfl) rfl rfl rfl rfl rfl rfl (layU (i := i) (IntKind.u8.wrap (xs[i] + 1)) (by omega) (by simp) rfl) ?_
    refine rn_ ?_; intros
    rw [wr (n := (i : Int) + 1) (by omega) (by omega)]
    refine go_keep [5, 6, 7, 8, 9, 10] [0, 1] ?_
    refine st_ ?_
    exact ih (cl.length - (i + 1)) _ (by omega) ⟨i + 1, _, by omega, rfl, by simp [hxs], rfl⟩
  refine rn_ ?_; intros
  refine go_strB 60 (by rw [hnt]; rfl) (by rw [hty]; rfl) (by rw [hty]; rfl) (by rw [hty]; rfl) rfl rfl hokc rfl (by omega) ?_
  rintro G3 g3 c3 (hle3 : Le G2 G3) hn3 hc3 hat3
  refine st_ ?_
  have hS3 : rBS G3 cl (.slice (some ⟨g3, 0, none⟩) cl.length c3) := ⟨⟨by omega, _, _, rfl, .inr ⟨g3, 0, _, rfl, hat3, rB_L.2 ⟨rfl, hokc⟩⟩⟩, _, _, rfl, hc3⟩
  refine go_call (by rw [hnt]; rfl) (by rw [hP]; kernel_rfl) rfl (hP ▸ rdecode_ok cl _ _ hS3) ?_
  rintro v G4 (hle4 : Le G3 G4) ⟨a2, n2, c2, rfl, hF2⟩
  refine st_ ?_
  refine rn_ ?_; intros
  repeat ((refine go_gsplit rfl rfl (fun _ => ?_) (fun hc => absurd hc (by first | decide +kernel | simp)); refine st_ ?_; (refine rn_ ?_; intros)))
  refine go_callf (by rw [hnt]; rfl) (by rw [hP]; kernel_rfl) rfl (hP ▸ rsamep_ok _ _ _ _ _ (Rp.S_mono (hle3.trans hle4) hF1) hF2) ?_; refine rn_ ?_; intros
  rw [fuL_refl]
  repeat ((refine go_gsplit rfl rfl (fun _ => ?_) (fun hc => absurd hc (by first | decide +kernel | simp)); refine st_ ?_; (refine rn_ ?_; intros)))
  refine go_callf (by rw [hnt]; rfl) (by rw [hP]; kernel_rfl) rfl (hP ▸ inum_ok (decR cl).2 _) ?_; refine rn_ ?_; intros
  try simp only [beq_self_eq_true]
  repeat ((refine go_gsplit rfl rfl (fun _ => ?_) (fun hc => absurd hc (by first | decide +kernel | simp)); refine st_ ?_; (refine rn_ ?_; intros)))
  refine go_callf (by rw [hnt]; rfl) (by rw [hP]; kernel_rfl) rfl (hP ▸ works_ok _) ?_; refine rn_ ?_; intros
  refine x_retc rfl hQ hmb rfl (by rw [hty]; simp only [so, sq, zy, zz, tyE, SO', SQ', opQ, opStore, opAlloc, ev, putS, dOk, cv, SV.cs, SV.one, SV.bool?, eqB, Value.oneCell', ldOwn, binInt, binConst, binBool, binStr, isC, TK.agg, rv, rv1, ldV, resOne, resV, Nat.reduceAdd, Nat.reduceMul, Nat.reduceSub, Nat.reduceLT, Nat.reduceLeDiff, Nat.reduceEqDiff, Nat.reduceBEq, reduceIte, reduceCtorEq, eq_self]; try rfl) rfl ?_; simp only [SV.den, resV, dens]
end Go.Proofs.Ytpopbkiphdcilaa
namespace Go.Proofs.Ytpopbkiphdcilaa.imageDecodes
set_option linter.unusedSimpArgs false
set_option linter.unusedVariables false
open Go.ChangeShapes Go.WideShapes Go.ChangeAt Go.RowKit Go.Sx

set_option maxRecDepth 100000
theorem contract (H : Type) (enc : TypeId × Value → H) (W : World) (base : Nat) (args : Array Value) (ds gs : List (DataW H)) (before : List MemPlace)
    (hval : ∀ (j : Nat) t v, Try.f5.params[j]? = some t → args[j]? = some v → Value.okWide Try.prog W .any base t v)
    (hW : DataW.Whole enc Try.prog Try.f5.params.toList Rows.imageDecodesSpec.vars false W args.toList ds gs before) :
    Calls Try.prog 5 args W fun e W' => ∃ v, e = .returned v ∧ Rows.imageDecodesSpec.post enc Try.prog Try.f5 false true false false W args v W' := by
  have hW' := hW
  obtain ⟨p, q, hA0, hV, rfl, hfz, hnd⟩ := hW
  have hA : DataW.TrodAll enc Try.prog W 0 (fun _ => true) true Try.f5.params.toList args.toList ds p := hA0
  rw [Try.params5] at hA hval
  obtain ⟨v0, vs0, d0, ds0, p0, q0, hargs, rfl, rfl, h0, r0⟩ := trodAll_cons hA
  obtain ⟨v1, vs1, d1, ds1, p1, q1, rfl, rfl, rfl, h1, r1⟩ := trodAll_cons r0
  obtain ⟨rfl, rfl, rfl⟩ := trodAll_nil r1
  obtain rfl : args = #[v0, v1] := by cases args; simp_all
  obtain ⟨rfl, rfl⟩ := trodVars_none hV
  clear hA0
  obtain ⟨a1, rfl, rfl, rfl⟩ := open_bool Try.underlying4 (hval 1 4 v1 rfl rfl) h1
  simp only [List.append_nil, List.nil_append] at hW'
  have h0k := h0
  obtain ⟨n0, hf0⟩ := h0
  obtain ⟨ad0, len0, cap0, rfl⟩ := okWide_slice Try.underlying27 (hval 0 27 v0 rfl rfl)
  obtain ⟨ns0, f0, hcs0, hr0⟩ := open_bytes (w := W) hf0
  obtain rfl : (Value.slice ad0 len0 cap0) = ns0 := by simpa [Value.cells] using hcs0
  have hlt0 : ∀ x ∈ p0, x.block < W.heap.size := fun x hx => by simpa using hW'.lt x (by simp [hx])
  refine (imageDecodes_ok f0 _ a1 (hp W) hr0 W (has_hp W)).mono ?_
  rintro e W' ⟨v, G', rfl, hg, rfl⟩
  have hb := hg.below
  exact ⟨_, rfl, post_below rfl rfl hW' (fun _ _ _ => (trodAll_cons_mk (shut_bool Try.underlying4 _) trodAll_mk0))
    (fun sp hsp => by have this := (trodAll_cons_mk (WideElems.Trod_stays laidOut (by kernel_rfl) (of_decide_eq_true (by kernel_rfl)) h0k (fun x hx => hb.same (hlt0 x hx)) (fun x hx => hsp x (by simp [hx]))) (trodAll_cons_mk (shut_bool Try.underlying4 a1) trodAll_mk0)); simp only [List.append_nil, List.nil_append] at this; exact this)
    hb (ok_one (by kernel_rfl) rfl (okWide_bool_mk Try.underlying4 _))⟩

set_option maxRecDepth 100000 in
theorem lifted (os : Os) (started : os.Started) (H : Type) (enc : TypeId × Value → H) :
    ReturnsInHanded {} Try.checked os 5 .any (Rows.imageDecodesSpec.pre6 enc Try.prog Try.f5 Rows.imageDecodesRow.domain false) (Rows.imageDecodesSpec.post enc Try.prog Try.f5 false true false false) := by
  refine returnsInHanded_of_change (C := Try.checked) own started (by kernel_rfl) Try.func5
    (ChangeSpec.witness6 (enc := enc) (C := Try.checked) false ⟨#[], #[.slice none 0 0, .bool false], []⟩ 8 (by kernel_rfl) (by kernel_rfl) (by kernel_rfl) (by kernel_rfl)) ?_
  intro W base args ds gs before hval hW _ _
  exact contract H enc W base args ds gs before hval hW

theorem over : Rows.imageDecodesRow.holds Try.pinned (OpenSpec.ofChange Rows.imageDecodesSpec) :=
  OpenClaim.holds_of_wide 5 Try.f5 rfl rfl rfl rfl rfl rfl rfl ⟨rfl, rfl, rfl, rfl, rfl⟩ rfl rfl rfl rfl rfl (by kernel_rfl) Try.func5 (by kernel_rfl)
    (of_decide_eq_true (by kernel_rfl)) (by unfold Func.isWrapper; first | (rw [if_pos (by decide +kernel)]; kernel_rfl) | (rw [if_neg (by decide +kernel)]; exact ⟨rfl, rfl⟩))
    (fun os started H enc _ => lifted os started H enc)

theorem proved : Rows.ImageDecodesSaid := over
end Go.Proofs.Ytpopbkiphdcilaa.imageDecodes

