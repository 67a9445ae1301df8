/-
  Package val: the iterator over the parts of a value.
-/
import Derived.Test.YtimoldnagdlbcaaV11
import Derived.Test.YtimoldnagdlbcaaSxN
namespace Go.Proofs.Ytimoldnagdlbcaa
set_option linter.unusedSimpArgs false
set_option linter.unusedVariables false
open Go.Sx

mutual
/-- The parts of a value, with their depths. -/
def prt : VT → Int → List (Int × VT)
  | .mk k n l, d => (d, .mk k n l) :: prtL l (d + 1)
def prtL : List VT → Int → List (Int × VT)
  | [], _ => []
  | x :: l, d => prt x d ++ prtL l d
end
mutual
theorem prt_len : ∀ (x : VT) (d : Int), (prt x d).length = tsz x
  | .mk k n l, d => by simp only [prt, tsz, List.length_cons, prtL_len l]; omega
theorem prtL_len : ∀ (l : List VT) (d : Int), (prtL l d).length = tszL l
  | [], _ => by simp [prtL, tszL]
  | x :: l, d => by simp only [prtL, tszL, List.length_append, prt_len x, prtL_len l]
end

/-- The values that the iterator hands to yield. -/
def encP (L : List (Int × VT)) (k : Nat) (vs : List Value) (G : Hp) : Prop :=
  ∃ d x ad cap, L[k]? = some (d, x) ∧ vs = [.int .i64 d, .agg #[.int .i64 x.k, .int .i64 x.n, .slice ad x.l.length cap]] ∧ x.rep G (.slice ad x.l.length cap)
theorem encP_mono (L : List (Int × VT)) : ∀ k vs G G', Le G G' → encP L k vs G → encP L k vs G' := by
  rintro k vs G G' hle ⟨d, x, ad, cap, h1, h2, h3⟩
  exact ⟨d, x, ad, cap, h1, h2, VT.rep_mono hle h3⟩

theorem get_drop {α : Type} {L r : List α} {k : Nat} {x : α} (h : L.drop k = x :: r) : L[k]? = some x ∧ L.drop (k + 1) = r ∧ k < L.length := by
  have hk : k < L.length := by
    rcases Nat.lt_or_ge k L.length with q | q
    · exact q
    · rw [List.drop_eq_nil_of_le q] at h; cases h
  rw [List.drop_eq_getElem_cons hk] at h
  cases h
  exact ⟨List.getElem?_eq_getElem hk, rfl, hk⟩
theorem drop_app {α : Type} {L a r : List α} {k : Nat} (h : L.drop k = a ++ r) : L.drop (k + a.length) = r := by
  have := congrArg (List.drop a.length) h
  rw [List.drop_drop, List.drop_left] at this
  exact this

set_option maxHeartbeats 4000000
theorem visit_ok (lp : Nat) (A : Nat → Zn) (B : Zn) (L : List (Int × VT)) (hy : YOk Try.prog lp A B (encP L) L.length) (x : VT) :
    ∀ (sl : Value) (d : Int) (G : Hp) (k : Nat) (rest : List (Int × VT)) (hr : x.rep G sl) (hb : tsz x ≤ 2000000) (hd : 0 ≤ d) (hd2 : d + tsz x ≤ 4000000) (hL : L.drop k = prt x d ++ rest),
      YFun Try.prog 59 [.agg #[.int .i64 x.k, .int .i64 x.n, sl], .int .i64 d, .func (.yield lp) #[] #[]] G (A k) (fun v _ Y => (v = .bool true ∧ Y = A (k + tsz x)) ∨ (v = .bool false ∧ Y = B)) := by
  induction x using VT.ind with
  | h kk m l IH =>
  intro sl d G k rest hr hb hd hd2 hL
  have hr0 := hr
  refine enterZ ty tyok Try.func59 rfl Try.ntmps59 [.a [.v (.int .i64 kk), .v (.int .i64 m), .v sl], .v (.int .i64 d), .v (.func (.yield lp) #[] #[])] (by simp) ?_
  intro C Z M hP hQ hnt hty hmb hmh hro hG0; have hQp := qp_body hQ; simp only [so, sq, zy, zz, tyE, SO', SQ', opQ, opStore, opAlloc, ev, putS, dOk, cv, SV.cs, SV.one, SV.bool?, eqB, Value.oneCell', ldOwn, binInt, binConst, binBool, binStr, isC, TK.agg, rv, rv1, ldV, resOne, resV, Nat.reduceAdd, Nat.reduceMul, Nat.reduceSub, Nat.reduceLT, Nat.reduceLeDiff, Nat.reduceEqDiff, Nat.reduceBEq, reduceIte, reduceCtorEq, eq_self]
  rw [rep_iff] at hr
  obtain ⟨hk, hm, hl, ad, cap, rfl, hr⟩ := hr
  have htl := tszL_len l
  have htx : tsz (.mk kk m l) = 1 + tszL l := by simp only [tsz]
  simp only [prt, List.cons_append] at hL
  obtain ⟨hLk, hLr, hkN⟩ := get_drop hL
  have hy' : YOk C.P lp A B (encP L) L.length := by rw [hP]; exact hy
  (try (refine runo0 400 hty hnt hmh ?_; simp only [so, sq, zy, zz, tyE, SO', SQ', opQ, opStore, opAlloc, ev, putS, dOk, cv, SV.cs, SV.one, SV.bool?, eqB, Value.oneCell', ldOwn, binInt, binConst, binBool, binStr, isC, TK.agg, rv, rv1, ldV, resOne, resV, Nat.reduceAdd, Nat.reduceMul, Nat.reduceSub, Nat.reduceLT, Nat.reduceLeDiff, Nat.reduceEqDiff, Nat.reduceBEq, reduceIte, reduceCtorEq, eq_self])); (repeat (first | refine x_seq rfl ?_ | refine go_ops ?_ | refine go_blk ?_ | refine x_skip rfl ?_ | refine x_blk rfl rfl ?_ | refine x_exit rfl rfl rfl ?_ | refine x_ift rfl rfl rfl ?_ | refine x_iff rfl rfl rfl ?_ | refine x_label rfl ?_ | ((first | refine x_reg rfl rfl ?_ | (refine go_newx hty hnt hmh rfl rfl ?_; intro _)); refine runo0 400 hty hnt hmh ?_; simp only [so, sq, zy, zz, tyE, SO', SQ', opQ, opStore, opAlloc, ev, putS, dOk, cv, SV.cs, SV.one, SV.bool?, eqB, Value.oneCell', ldOwn, binInt, binConst, binBool, binStr, isC, TK.agg, rv, rv1, ldV, resOne, resV, Nat.reduceAdd, Nat.reduceMul, Nat.reduceSub, Nat.reduceLT, Nat.reduceLeDiff, Nat.reduceEqDiff, Nat.reduceBEq, reduceIte, reduceCtorEq, eq_self])))
  refine go_call (by rw [hnt]; rfl) (by rw [hP]; kernel_rfl) rfl (hP ▸ clone_ok (.mk kk m l) _ G hr0 hb) ?_
  rintro v G1 (hle1 : Le G G1) ⟨adc, capc, rfl, hrc⟩
  (try (refine runo0 400 hty hnt hmh ?_; simp only [so, sq, zy, zz, tyE, SO', SQ', opQ, opStore, opAlloc, ev, putS, dOk, cv, SV.cs, SV.one, SV.bool?, eqB, Value.oneCell', ldOwn, binInt, binConst, binBool, binStr, isC, TK.agg, rv, rv1, ldV, resOne, resV, Nat.reduceAdd, Nat.reduceMul, Nat.reduceSub, Nat.reduceLT, Nat.reduceLeDiff, Nat.reduceEqDiff, Nat.reduceBEq, reduceIte, reduceCtorEq, eq_self])); (repeat (first | refine x_seq rfl ?_ | refine go_ops ?_ | refine go_blk ?_ | refine x_skip rfl ?_ | refine x_blk rfl rfl ?_ | refine x_exit rfl rfl rfl ?_ | refine x_ift rfl rfl rfl ?_ | refine x_iff rfl rfl rfl ?_ | refine x_label rfl ?_ | ((first | refine x_reg rfl rfl ?_ | (refine go_newx hty hnt hmh rfl rfl ?_; intro _)); refine runo0 400 hty hnt hmh ?_; simp only [so, sq, zy, zz, tyE, SO', SQ', opQ, opStore, opAlloc, ev, putS, dOk, cv, SV.cs, SV.one, SV.bool?, eqB, Value.oneCell', ldOwn, binInt, binConst, binBool, binStr, isC, TK.agg, rv, rv1, ldV, resOne, resV, Nat.reduceAdd, Nat.reduceMul, Nat.reduceSub, Nat.reduceLT, Nat.reduceLeDiff, Nat.reduceEqDiff, Nat.reduceBEq, reduceIte, reduceCtorEq, eq_self])))
  have henc : encP L k [.int .i64 d, .agg #[.int .i64 (VT.mk kk m l).k, .int .i64 (VT.mk kk m l).n, .slice adc (VT.mk kk m l).l.length capc]] G1 := ⟨_, _, _, _, hLk, rfl, hrc⟩
  refine go_yield 0 hy' (by rw [hnt]; rfl) rfl rfl rfl rfl hkN henc (fun Z1 M1 => ?_) (fun Z1 M1 => ?_)
  rotate_left
  · (try (refine runo0 400 hty hnt hmh ?_; simp only [so, sq, zy, zz, tyE, SO', SQ', opQ, opStore, opAlloc, ev, putS, dOk, cv, SV.cs, SV.one, SV.bool?, eqB, Value.oneCell', ldOwn, binInt, binConst, binBool, binStr, isC, TK.agg, rv, rv1, ldV, resOne, resV, Nat.reduceAdd, Nat.reduceMul, Nat.reduceSub, Nat.reduceLT, Nat.reduceLeDiff, Nat.reduceEqDiff, Nat.reduceBEq, reduceIte, reduceCtorEq, eq_self])); (repeat (first | refine x_seq rfl ?_ | refine go_ops ?_ | refine go_blk ?_ | refine x_skip rfl ?_ | refine x_blk rfl rfl ?_ | refine x_exit rfl rfl rfl ?_ | refine x_ift rfl rfl rfl ?_ | refine x_iff rfl rfl rfl ?_ | refine x_label rfl ?_ | ((first | refine x_reg rfl rfl ?_ | (refine go_newx hty hnt hmh rfl rfl ?_; intro _)); refine runo0 400 hty hnt hmh ?_; simp only [so, sq, zy, zz, tyE, SO', SQ', opQ, opStore, opAlloc, ev, putS, dOk, cv, SV.cs, SV.one, SV.bool?, eqB, Value.oneCell', ldOwn, binInt, binConst, binBool, binStr, isC, TK.agg, rv, rv1, ldV, resOne, resV, Nat.reduceAdd, Nat.reduceMul, Nat.reduceSub, Nat.reduceLT, Nat.reduceLeDiff, Nat.reduceEqDiff, Nat.reduceBEq, reduceIte, reduceCtorEq, eq_self])))
    refine x_retZ rfl hQ hmb hmh hG0 rfl (by rw [hty]; simp only [so, sq, zy, zz, tyE, SO', SQ', opQ, opStore, opAlloc, ev, putS, dOk, cv, SV.cs, SV.one, SV.bool?, eqB, Value.oneCell', ldOwn, binInt, binConst, binBool, binStr, isC, TK.agg, rv, rv1, ldV, resOne, resV, Nat.reduceAdd, Nat.reduceMul, Nat.reduceSub, Nat.reduceLT, Nat.reduceLeDiff, Nat.reduceEqDiff, Nat.reduceBEq, reduceIte, reduceCtorEq, eq_self]; try rfl) rfl rfl ?_
    exact .inr ⟨rfl, rfl⟩
  (try (refine runo0 400 hty hnt hmh ?_; simp only [so, sq, zy, zz, tyE, SO', SQ', opQ, opStore, opAlloc, ev, putS, dOk, cv, SV.cs, SV.one, SV.bool?, eqB, Value.oneCell', ldOwn, binInt, binConst, binBool, binStr, isC, TK.agg, rv, rv1, ldV, resOne, resV, Nat.reduceAdd, Nat.reduceMul, Nat.reduceSub, Nat.reduceLT, Nat.reduceLeDiff, Nat.reduceEqDiff, Nat.reduceBEq, reduceIte, reduceCtorEq, eq_self])); (repeat (first | refine x_seq rfl ?_ | refine go_ops ?_ | refine go_blk ?_ | refine x_skip rfl ?_ | refine x_blk rfl rfl ?_ | refine x_exit rfl rfl rfl ?_ | refine x_ift rfl rfl rfl ?_ | refine x_iff rfl rfl rfl ?_ | refine x_label rfl ?_ | ((first | refine x_reg rfl rfl ?_ | (refine go_newx hty hnt hmh rfl rfl ?_; intro _)); refine runo0 400 hty hnt hmh ?_; simp only [so, sq, zy, zz, tyE, SO', SQ', opQ, opStore, opAlloc, ev, putS, dOk, cv, SV.cs, SV.one, SV.bool?, eqB, Value.oneCell', ldOwn, binInt, binConst, binBool, binStr, isC, TK.agg, rv, rv1, ldV, resOne, resV, Nat.reduceAdd, Nat.reduceMul, Nat.reduceSub, Nat.reduceLT, Nat.reduceLeDiff, Nat.reduceEqDiff, Nat.reduceBEq, reduceIte, reduceCtorEq, eq_self])))
  refine go_keep [1, 2, 16, 17, 18] [0] ?_
  simp only [so, sq, zy, zz, tyE, SO', SQ', opQ, opStore, opAlloc, ev, putS, dOk, cv, SV.cs, SV.one, SV.bool?, eqB, Value.oneCell', ldOwn, binInt, binConst, binBool, binStr, isC, TK.agg, rv, rv1, ldV, resOne, resV, Nat.reduceAdd, Nat.reduceMul, Nat.reduceSub, Nat.reduceLT, Nat.reduceLeDiff, Nat.reduceEqDiff, Nat.reduceBEq, reduceIte, reduceCtorEq, eq_self]
  refine x_loop rfl (fun q s => ∃ (j : Nat) (G' : Hp) (Z' M' : Nat → Prop), j ≤ l.length ∧ q = l.length - j ∧ Le G G' ∧ L.drop (k + 1 + tszL (l.take j)) = prtL (l.drop j) (d + 1) ++ rest ∧
    s = ⟨[(1, .v (.int .i64 d)), (2, .v (.func (.yield lp) #[] #[])), (16, .v (.slice ad l.length cap)), (17, .v (.int .i64 l.length)), (18, .v (.int .i64 j))], [(0, 0, .z (lim (A (k + 1 + tszL (l.take j))) Z C.w0.heap.size) Z' M')], G', []⟩)
    ⟨0, G1, Z1, M1, by omega, rfl, hle1, by simpa [tszL] using hLr, by simp [tszL]⟩ ?_
  rintro q s ⟨j, G', Z2, M2, hj, hq, hle, hLj, rfl⟩ ih
  (try (refine runo0 400 hty hnt hmh ?_; simp only [so, sq, zy, zz, tyE, SO', SQ', opQ, opStore, opAlloc, ev, putS, dOk, cv, SV.cs, SV.one, SV.bool?, eqB, Value.oneCell', ldOwn, binInt, binConst, binBool, binStr, isC, TK.agg, rv, rv1, ldV, resOne, resV, Nat.reduceAdd, Nat.reduceMul, Nat.reduceSub, Nat.reduceLT, Nat.reduceLeDiff, Nat.reduceEqDiff, Nat.reduceBEq, reduceIte, reduceCtorEq, eq_self])); (repeat (first | refine x_seq rfl ?_ | refine go_ops ?_ | refine go_blk ?_ | refine x_skip rfl ?_ | refine x_blk rfl rfl ?_ | refine x_exit rfl rfl rfl ?_ | refine x_ift rfl rfl rfl ?_ | refine x_iff rfl rfl rfl ?_ | refine x_label rfl ?_ | ((first | refine x_reg rfl rfl ?_ | (refine go_newx hty hnt hmh rfl rfl ?_; intro _)); refine runo0 400 hty hnt hmh ?_; simp only [so, sq, zy, zz, tyE, SO', SQ', opQ, opStore, opAlloc, ev, putS, dOk, cv, SV.cs, SV.one, SV.bool?, eqB, Value.oneCell', ldOwn, binInt, binConst, binBool, binStr, isC, TK.agg, rv, rv1, ldV, resOne, resV, Nat.reduceAdd, Nat.reduceMul, Nat.reduceSub, Nat.reduceLT, Nat.reduceLeDiff, Nat.reduceEqDiff, Nat.reduceBEq, reduceIte, reduceCtorEq, eq_self])))
  refine x_if rfl rfl rfl rfl (fun ht => ?_) (fun ht => ?_)
  · have hlt : j < l.length := by simpa using ht
    rcases hr with rfl | ⟨b, off, cs, rfl, ha, hrV⟩
    · simp at hlt
    obtain ⟨adx, capx, hat, hrx⟩ := At_get ha hrV hlt
    have hdrop : l.drop j = l[j] :: l.drop (j + 1) := List.drop_eq_getElem_cons hlt
    have htk : l.take (j + 1) = l.take j ++ [l[j]] := by rw [List.take_append_getElem]
    have htj := tszL_mem (List.getElem_mem hlt)
    have htk2 : tszL (l.take (j + 1)) = tszL (l.take j) + tsz l[j] := by rw [htk, tszL_append]; simp only [tszL]; omega
    rw [hdrop] at hLj
    simp only [prtL, List.append_assoc] at hLj
    have hLj2 := drop_app hLj
    rw [prt_len] at hLj2
    (try (refine runo0 400 hty hnt hmh ?_; simp only [so, sq, zy, zz, tyE, SO', SQ', opQ, opStore, opAlloc, ev, putS, dOk, cv, SV.cs, SV.one, SV.bool?, eqB, Value.oneCell', ldOwn, binInt, binConst, binBool, binStr, isC, TK.agg, rv, rv1, ldV, resOne, resV, Nat.reduceAdd, Nat.reduceMul, Nat.reduceSub, Nat.reduceLT, Nat.reduceLeDiff, Nat.reduceEqDiff, Nat.reduceBEq, reduceIte, reduceCtorEq, eq_self])); (repeat (first | refine x_seq rfl ?_ | refine go_ops ?_ | refine go_blk ?_ | refine x_skip rfl ?_ | refine x_blk rfl rfl ?_ | refine x_exit rfl rfl rfl ?_ | refine x_ift rfl rfl rfl ?_ | refine x_iff rfl rfl rfl ?_ | refine x_label rfl ?_ | ((first | refine x_reg rfl rfl ?_ | (refine go_newx hty hnt hmh rfl rfl ?_; intro _)); refine runo0 400 hty hnt hmh ?_; simp only [so, sq, zy, zz, tyE, SO', SQ', opQ, opStore, opAlloc, ev, putS, dOk, cv, SV.cs, SV.one, SV.bool?, eqB, Value.oneCell', ldOwn, binInt, binConst, binBool, binStr, isC, TK.agg, rv, rv1, ldV, resOne, resV, Nat.reduceAdd, Nat.reduceMul, Nat.reduceSub, Nat.reduceLT, Nat.reduceLeDiff, Nat.reduceEqDiff, Nat.reduceBEq, reduceIte, reduceCtorEq, eq_self])))
    refine go_q (by rw [hnt]; rfl) (quiet_index (by rw [hty]; rfl) (by rw [hty]; rfl) rfl rfl rfl (by omega) (by omega)) ?_
    refine go_q (by rw [hnt]; rfl) (quiet_load (by rw [hty]; rfl) rfl (by simp [TK.agg]) (hat.mono hle) rfl) ?_
    (try (refine runo0 400 hty hnt hmh ?_; simp only [so, sq, zy, zz, tyE, SO', SQ', opQ, opStore, opAlloc, ev, putS, dOk, cv, SV.cs, SV.one, SV.bool?, eqB, Value.oneCell', ldOwn, binInt, binConst, binBool, binStr, isC, TK.agg, rv, rv1, ldV, resOne, resV, Nat.reduceAdd, Nat.reduceMul, Nat.reduceSub, Nat.reduceLT, Nat.reduceLeDiff, Nat.reduceEqDiff, Nat.reduceBEq, reduceIte, reduceCtorEq, eq_self])); (repeat (first | refine x_seq rfl ?_ | refine go_ops ?_ | refine go_blk ?_ | refine x_skip rfl ?_ | refine x_blk rfl rfl ?_ | refine x_exit rfl rfl rfl ?_ | refine x_ift rfl rfl rfl ?_ | refine x_iff rfl rfl rfl ?_ | refine x_label rfl ?_ | ((first | refine x_reg rfl rfl ?_ | (refine go_newx hty hnt hmh rfl rfl ?_; intro _)); refine runo0 400 hty hnt hmh ?_; simp only [so, sq, zy, zz, tyE, SO', SQ', opQ, opStore, opAlloc, ev, putS, dOk, cv, SV.cs, SV.one, SV.bool?, eqB, Value.oneCell', ldOwn, binInt, binConst, binBool, binStr, isC, TK.agg, rv, rv1, ldV, resOne, resV, Nat.reduceAdd, Nat.reduceMul, Nat.reduceSub, Nat.reduceLT, Nat.reduceLeDiff, Nat.reduceEqDiff, Nat.reduceBEq, reduceIte, reduceCtorEq, eq_self])))
    rw [wr (n := d + 1) (by omega) (by omega)]
    refine go_callz 0 (by rw [hnt]; rfl) (by rw [hP]; kernel_rfl) rfl rfl rfl (hP ▸ IH l[j] (List.getElem_mem hlt) _ (d + 1) G' _ _ (VT.rep_mono hle hrx) (by omega) (by omega) (by omega) hLj) ?_
    rintro v G2 Y Z3 M3 (hle2 : Le G' G2) (⟨rfl, rfl⟩ | ⟨rfl, rfl⟩)
    · refine go_slot 26 (.b true) rfl rfl ?_
      (try (refine runo0 400 hty hnt hmh ?_; simp only [so, sq, zy, zz, tyE, SO', SQ', opQ, opStore, opAlloc, ev, putS, dOk, cv, SV.cs, SV.one, SV.bool?, eqB, Value.oneCell', ldOwn, binInt, binConst, binBool, binStr, isC, TK.agg, rv, rv1, ldV, resOne, resV, Nat.reduceAdd, Nat.reduceMul, Nat.reduceSub, Nat.reduceLT, Nat.reduceLeDiff, Nat.reduceEqDiff, Nat.reduceBEq, reduceIte, reduceCtorEq, eq_self])); (repeat (first | refine x_seq rfl ?_ | refine go_ops ?_ | refine go_blk ?_ | refine x_skip rfl ?_ | refine x_blk rfl rfl ?_ | refine x_exit rfl rfl rfl ?_ | refine x_ift rfl rfl rfl ?_ | refine x_iff rfl rfl rfl ?_ | refine x_label rfl ?_ | ((first | refine x_reg rfl rfl ?_ | (refine go_newx hty hnt hmh rfl rfl ?_; intro _)); refine runo0 400 hty hnt hmh ?_; simp only [so, sq, zy, zz, tyE, SO', SQ', opQ, opStore, opAlloc, ev, putS, dOk, cv, SV.cs, SV.one, SV.bool?, eqB, Value.oneCell', ldOwn, binInt, binConst, binBool, binStr, isC, TK.agg, rv, rv1, ldV, resOne, resV, Nat.reduceAdd, Nat.reduceMul, Nat.reduceSub, Nat.reduceLT, Nat.reduceLeDiff, Nat.reduceEqDiff, Nat.reduceBEq, reduceIte, reduceCtorEq, eq_self])))
      rw [wr (n := (j : Int) + 1) (by omega) (by omega)]
      refine go_keep [1, 2, 16, 17, 18] [0] ?_
      simp only [so, sq, zy, zz, tyE, SO', SQ', opQ, opStore, opAlloc, ev, putS, dOk, cv, SV.cs, SV.one, SV.bool?, eqB, Value.oneCell', ldOwn, binInt, binConst, binBool, binStr, isC, TK.agg, rv, rv1, ldV, resOne, resV, Nat.reduceAdd, Nat.reduceMul, Nat.reduceSub, Nat.reduceLT, Nat.reduceLeDiff, Nat.reduceEqDiff, Nat.reduceBEq, reduceIte, reduceCtorEq, eq_self]
      refine ih (l.length - (j + 1)) _ (by omega) ⟨j + 1, G2, Z3, M3, by omega, rfl, hle.trans hle2, ?_, ?_⟩
      · rw [htk2, ← hLj2]; congr 1; omega
      · rw [htk2]; simp [Nat.add_assoc]
    · refine go_slot 26 (.b false) rfl rfl ?_
      (try (refine runo0 400 hty hnt hmh ?_; simp only [so, sq, zy, zz, tyE, SO', SQ', opQ, opStore, opAlloc, ev, putS, dOk, cv, SV.cs, SV.one, SV.bool?, eqB, Value.oneCell', ldOwn, binInt, binConst, binBool, binStr, isC, TK.agg, rv, rv1, ldV, resOne, resV, Nat.reduceAdd, Nat.reduceMul, Nat.reduceSub, Nat.reduceLT, Nat.reduceLeDiff, Nat.reduceEqDiff, Nat.reduceBEq, reduceIte, reduceCtorEq, eq_self])); (repeat (first | refine x_seq rfl ?_ | refine go_ops ?_ | refine go_blk ?_ | refine x_skip rfl ?_ | refine x_blk rfl rfl ?_ | refine x_exit rfl rfl rfl ?_ | refine x_ift rfl rfl rfl ?_ | refine x_iff rfl rfl rfl ?_ | refine x_label rfl ?_ | ((first | refine x_reg rfl rfl ?_ | (refine go_newx hty hnt hmh rfl rfl ?_; intro _)); refine runo0 400 hty hnt hmh ?_; simp only [so, sq, zy, zz, tyE, SO', SQ', opQ, opStore, opAlloc, ev, putS, dOk, cv, SV.cs, SV.one, SV.bool?, eqB, Value.oneCell', ldOwn, binInt, binConst, binBool, binStr, isC, TK.agg, rv, rv1, ldV, resOne, resV, Nat.reduceAdd, Nat.reduceMul, Nat.reduceSub, Nat.reduceLT, Nat.reduceLeDiff, Nat.reduceEqDiff, Nat.reduceBEq, reduceIte, reduceCtorEq, eq_self])))
      refine x_retZ rfl hQ hmb hmh hG0 rfl (by rw [hty]; simp only [so, sq, zy, zz, tyE, SO', SQ', opQ, opStore, opAlloc, ev, putS, dOk, cv, SV.cs, SV.one, SV.bool?, eqB, Value.oneCell', ldOwn, binInt, binConst, binBool, binStr, isC, TK.agg, rv, rv1, ldV, resOne, resV, Nat.reduceAdd, Nat.reduceMul, Nat.reduceSub, Nat.reduceLT, Nat.reduceLeDiff, Nat.reduceEqDiff, Nat.reduceBEq, reduceIte, reduceCtorEq, eq_self]; try rfl) rfl rfl ?_
      exact .inr ⟨rfl, rfl⟩
  · have hge : l.length ≤ j := by simpa using ht
    have hje : j = l.length := by omega
    subst hje
    (try (refine runo0 400 hty hnt hmh ?_; simp only [so, sq, zy, zz, tyE, SO', SQ', opQ, opStore, opAlloc, ev, putS, dOk, cv, SV.cs, SV.one, SV.bool?, eqB, Value.oneCell', ldOwn, binInt, binConst, binBool, binStr, isC, TK.agg, rv, rv1, ldV, resOne, resV, Nat.reduceAdd, Nat.reduceMul, Nat.reduceSub, Nat.reduceLT, Nat.reduceLeDiff, Nat.reduceEqDiff, Nat.reduceBEq, reduceIte, reduceCtorEq, eq_self])); (repeat (first | refine x_seq rfl ?_ | refine go_ops ?_ | refine go_blk ?_ | refine x_skip rfl ?_ | refine x_blk rfl rfl ?_ | refine x_exit rfl rfl rfl ?_ | refine x_ift rfl rfl rfl ?_ | refine x_iff rfl rfl rfl ?_ | refine x_label rfl ?_ | ((first | refine x_reg rfl rfl ?_ | (refine go_newx hty hnt hmh rfl rfl ?_; intro _)); refine runo0 400 hty hnt hmh ?_; simp only [so, sq, zy, zz, tyE, SO', SQ', opQ, opStore, opAlloc, ev, putS, dOk, cv, SV.cs, SV.one, SV.bool?, eqB, Value.oneCell', ldOwn, binInt, binConst, binBool, binStr, isC, TK.agg, rv, rv1, ldV, resOne, resV, Nat.reduceAdd, Nat.reduceMul, Nat.reduceSub, Nat.reduceLT, Nat.reduceLeDiff, Nat.reduceEqDiff, Nat.reduceBEq, reduceIte, reduceCtorEq, eq_self])))
    refine x_retZ rfl hQ hmb hmh hG0 rfl (by rw [hty]; simp only [so, sq, zy, zz, tyE, SO', SQ', opQ, opStore, opAlloc, ev, putS, dOk, cv, SV.cs, SV.one, SV.bool?, eqB, Value.oneCell', ldOwn, binInt, binConst, binBool, binStr, isC, TK.agg, rv, rv1, ldV, resOne, resV, Nat.reduceAdd, Nat.reduceMul, Nat.reduceSub, Nat.reduceLT, Nat.reduceLeDiff, Nat.reduceEqDiff, Nat.reduceBEq, reduceIte, reduceCtorEq, eq_self]; try rfl) rfl rfl ?_
    refine .inl ⟨rfl, ?_⟩
    rw [List.take_length, htx, Nat.add_assoc]

theorem parts2_ok (x : VT) (b off : Nat) (ad : Option Addr) (cap : Nat) (G : Hp) (hr : x.rep G (.slice ad x.l.length cap)) (hat : At G b off [.int .i64 x.k, .int .i64 x.n, .slice ad x.l.length cap]) (hb : tsz x ≤ 2000000) :
    Iter Try.prog 58 [.pointer (some ⟨b, off, none⟩)] G (encP (prt x 0)) (prt x 0).length := by
  intro lp A B hy
  refine enterZ ty tyok Try.func58 rfl Try.ntmps58 [.v (.func (.yield lp) #[] #[]), .v (.pointer (some ⟨b, off, none⟩))] (by simp) ?_
  intro C Z M hP hQ hnt hty hmb hmh hro hG0; have hQp := qp_body hQ; simp only [so, sq, zy, zz, tyE, SO', SQ', opQ, opStore, opAlloc, ev, putS, dOk, cv, SV.cs, SV.one, SV.bool?, eqB, Value.oneCell', ldOwn, binInt, binConst, binBool, binStr, isC, TK.agg, rv, rv1, ldV, resOne, resV, Nat.reduceAdd, Nat.reduceMul, Nat.reduceSub, Nat.reduceLT, Nat.reduceLeDiff, Nat.reduceEqDiff, Nat.reduceBEq, reduceIte, reduceCtorEq, eq_self]
  (try (refine runo0 400 hty hnt hmh ?_; simp only [so, sq, zy, zz, tyE, SO', SQ', opQ, opStore, opAlloc, ev, putS, dOk, cv, SV.cs, SV.one, SV.bool?, eqB, Value.oneCell', ldOwn, binInt, binConst, binBool, binStr, isC, TK.agg, rv, rv1, ldV, resOne, resV, Nat.reduceAdd, Nat.reduceMul, Nat.reduceSub, Nat.reduceLT, Nat.reduceLeDiff, Nat.reduceEqDiff, Nat.reduceBEq, reduceIte, reduceCtorEq, eq_self])); (repeat (first | refine x_seq rfl ?_ | refine go_ops ?_ | refine go_blk ?_ | refine x_skip rfl ?_ | refine x_blk rfl rfl ?_ | refine x_exit rfl rfl rfl ?_ | refine x_ift rfl rfl rfl ?_ | refine x_iff rfl rfl rfl ?_ | refine x_label rfl ?_ | ((first | refine x_reg rfl rfl ?_ | (refine go_newx hty hnt hmh rfl rfl ?_; intro _)); refine runo0 400 hty hnt hmh ?_; simp only [so, sq, zy, zz, tyE, SO', SQ', opQ, opStore, opAlloc, ev, putS, dOk, cv, SV.cs, SV.one, SV.bool?, eqB, Value.oneCell', ldOwn, binInt, binConst, binBool, binStr, isC, TK.agg, rv, rv1, ldV, resOne, resV, Nat.reduceAdd, Nat.reduceMul, Nat.reduceSub, Nat.reduceLT, Nat.reduceLeDiff, Nat.reduceEqDiff, Nat.reduceBEq, reduceIte, reduceCtorEq, eq_self])))
  refine go_q (by rw [hnt]; rfl) (quiet_load (by rw [hty]; rfl) rfl (by simp [TK.agg]) hat rfl) ?_
  (try (refine runo0 400 hty hnt hmh ?_; simp only [so, sq, zy, zz, tyE, SO', SQ', opQ, opStore, opAlloc, ev, putS, dOk, cv, SV.cs, SV.one, SV.bool?, eqB, Value.oneCell', ldOwn, binInt, binConst, binBool, binStr, isC, TK.agg, rv, rv1, ldV, resOne, resV, Nat.reduceAdd, Nat.reduceMul, Nat.reduceSub, Nat.reduceLT, Nat.reduceLeDiff, Nat.reduceEqDiff, Nat.reduceBEq, reduceIte, reduceCtorEq, eq_self])); (repeat (first | refine x_seq rfl ?_ | refine go_ops ?_ | refine go_blk ?_ | refine x_skip rfl ?_ | refine x_blk rfl rfl ?_ | refine x_exit rfl rfl rfl ?_ | refine x_ift rfl rfl rfl ?_ | refine x_iff rfl rfl rfl ?_ | refine x_label rfl ?_ | ((first | refine x_reg rfl rfl ?_ | (refine go_newx hty hnt hmh rfl rfl ?_; intro _)); refine runo0 400 hty hnt hmh ?_; simp only [so, sq, zy, zz, tyE, SO', SQ', opQ, opStore, opAlloc, ev, putS, dOk, cv, SV.cs, SV.one, SV.bool?, eqB, Value.oneCell', ldOwn, binInt, binConst, binBool, binStr, isC, TK.agg, rv, rv1, ldV, resOne, resV, Nat.reduceAdd, Nat.reduceMul, Nat.reduceSub, Nat.reduceLT, Nat.reduceLeDiff, Nat.reduceEqDiff, Nat.reduceBEq, reduceIte, reduceCtorEq, eq_self])))
  refine go_callz 0 (by rw [hnt]; rfl) (by rw [hP]; kernel_rfl) rfl rfl rfl (hP ▸ visit_ok lp A B (prt x 0) hy x _ 0 G 0 [] hr hb (by omega) (by omega) (by simp)) ?_
  rintro v G2 Y Z3 M3 (hle2 : Le G G2) hv
  (try (refine runo0 400 hty hnt hmh ?_; simp only [so, sq, zy, zz, tyE, SO', SQ', opQ, opStore, opAlloc, ev, putS, dOk, cv, SV.cs, SV.one, SV.bool?, eqB, Value.oneCell', ldOwn, binInt, binConst, binBool, binStr, isC, TK.agg, rv, rv1, ldV, resOne, resV, Nat.reduceAdd, Nat.reduceMul, Nat.reduceSub, Nat.reduceLT, Nat.reduceLeDiff, Nat.reduceEqDiff, Nat.reduceBEq, reduceIte, reduceCtorEq, eq_self])); (repeat (first | refine x_seq rfl ?_ | refine go_ops ?_ | refine go_blk ?_ | refine x_skip rfl ?_ | refine x_blk rfl rfl ?_ | refine x_exit rfl rfl rfl ?_ | refine x_ift rfl rfl rfl ?_ | refine x_iff rfl rfl rfl ?_ | refine x_label rfl ?_ | ((first | refine x_reg rfl rfl ?_ | (refine go_newx hty hnt hmh rfl rfl ?_; intro _)); refine runo0 400 hty hnt hmh ?_; simp only [so, sq, zy, zz, tyE, SO', SQ', opQ, opStore, opAlloc, ev, putS, dOk, cv, SV.cs, SV.one, SV.bool?, eqB, Value.oneCell', ldOwn, binInt, binConst, binBool, binStr, isC, TK.agg, rv, rv1, ldV, resOne, resV, Nat.reduceAdd, Nat.reduceMul, Nat.reduceSub, Nat.reduceLT, Nat.reduceLeDiff, Nat.reduceEqDiff, Nat.reduceBEq, reduceIte, reduceCtorEq, eq_self])))
  refine go_endZ hQ hmb hmh hG0 rfl (by rw [hty]; simp only [so, sq, zy, zz, tyE, SO', SQ', opQ, opStore, opAlloc, ev, putS, dOk, cv, SV.cs, SV.one, SV.bool?, eqB, Value.oneCell', ldOwn, binInt, binConst, binBool, binStr, isC, TK.agg, rv, rv1, ldV, resOne, resV, Nat.reduceAdd, Nat.reduceMul, Nat.reduceSub, Nat.reduceLT, Nat.reduceLeDiff, Nat.reduceEqDiff, Nat.reduceBEq, reduceIte, reduceCtorEq, eq_self]; try rfl) rfl rfl ?_
  rw [prt_len]
  rcases hv with ⟨_, h⟩ | ⟨_, h⟩
  · left; simpa using h
  · exact .inr h
theorem parts1_ok (G : Hp) : Iter Try.prog 57 [] G (encP []) 0 := by
  intro lp A B hy
  refine enterZ ty tyok Try.func57 rfl Try.ntmps57 [.v (.func (.yield lp) #[] #[])] (by simp) ?_
  intro C Z M hP hQ hnt hty hmb hmh hro hG0; have hQp := qp_body hQ; simp only [so, sq, zy, zz, tyE, SO', SQ', opQ, opStore, opAlloc, ev, putS, dOk, cv, SV.cs, SV.one, SV.bool?, eqB, Value.oneCell', ldOwn, binInt, binConst, binBool, binStr, isC, TK.agg, rv, rv1, ldV, resOne, resV, Nat.reduceAdd, Nat.reduceMul, Nat.reduceSub, Nat.reduceLT, Nat.reduceLeDiff, Nat.reduceEqDiff, Nat.reduceBEq, reduceIte, reduceCtorEq, eq_self]
  (try (refine runo0 400 hty hnt hmh ?_; simp only [so, sq, zy, zz, tyE, SO', SQ', opQ, opStore, opAlloc, ev, putS, dOk, cv, SV.cs, SV.one, SV.bool?, eqB, Value.oneCell', ldOwn, binInt, binConst, binBool, binStr, isC, TK.agg, rv, rv1, ldV, resOne, resV, Nat.reduceAdd, Nat.reduceMul, Nat.reduceSub, Nat.reduceLT, Nat.reduceLeDiff, Nat.reduceEqDiff, Nat.reduceBEq, reduceIte, reduceCtorEq, eq_self])); (repeat (first | refine x_seq rfl ?_ | refine go_ops ?_ | refine go_blk ?_ | refine x_skip rfl ?_ | refine x_blk rfl rfl ?_ | refine x_exit rfl rfl rfl ?_ | refine x_ift rfl rfl rfl ?_ | refine x_iff rfl rfl rfl ?_ | refine x_label rfl ?_ | ((first | refine x_reg rfl rfl ?_ | (refine go_newx hty hnt hmh rfl rfl ?_; intro _)); refine runo0 400 hty hnt hmh ?_; simp only [so, sq, zy, zz, tyE, SO', SQ', opQ, opStore, opAlloc, ev, putS, dOk, cv, SV.cs, SV.one, SV.bool?, eqB, Value.oneCell', ldOwn, binInt, binConst, binBool, binStr, isC, TK.agg, rv, rv1, ldV, resOne, resV, Nat.reduceAdd, Nat.reduceMul, Nat.reduceSub, Nat.reduceLT, Nat.reduceLeDiff, Nat.reduceEqDiff, Nat.reduceBEq, reduceIte, reduceCtorEq, eq_self])))
  refine go_endZ hQ hmb hmh hG0 rfl (by rw [hty]; simp only [so, sq, zy, zz, tyE, SO', SQ', opQ, opStore, opAlloc, ev, putS, dOk, cv, SV.cs, SV.one, SV.bool?, eqB, Value.oneCell', ldOwn, binInt, binConst, binBool, binStr, isC, TK.agg, rv, rv1, ldV, resOne, resV, Nat.reduceAdd, Nat.reduceMul, Nat.reduceSub, Nat.reduceLT, Nat.reduceLeDiff, Nat.reduceEqDiff, Nat.reduceBEq, reduceIte, reduceCtorEq, eq_self]; try rfl) rfl rfl ?_
  exact .inl rfl

/-- The parts as they are told. -/
def prts (x : VT) : List (Int × VT) := if vld x then prt x 0 else []
theorem parts_ok (x : VT) (sl : Value) (G : Hp) (hr : x.rep G sl) (hb : tsz x ≤ 2000000) :
    Pure Try.prog 38 [.agg #[.int .i64 x.k, .int .i64 x.n, sl]] G (fun v G' => ∃ f cap, v = .func (.func f) #[] cap.toArray ∧ canCall Try.prog f = true ∧ Iter Try.prog f cap G' (encP (prts x)) (prts x).length) := by
  obtain ⟨ad, cap, rfl⟩ := VT.rep_slice hr
  refine enterX ty tyok Try.func38 rfl Try.ntmps38 [.a [.v (.int .i64 x.k), .v (.int .i64 x.n), .v _]] (by simp) ?_
  intro C hP hQ hnt hty hmb hmh hro; have hQp := qp_body hQ; simp only [so, sq, zy, zz, tyE, SO', SQ', opQ, opStore, opAlloc, ev, putS, dOk, cv, SV.cs, SV.one, SV.bool?, eqB, Value.oneCell', ldOwn, binInt, binConst, binBool, binStr, isC, TK.agg, rv, rv1, ldV, resOne, resV, Nat.reduceAdd, Nat.reduceMul, Nat.reduceSub, Nat.reduceLT, Nat.reduceLeDiff, Nat.reduceEqDiff, Nat.reduceBEq, reduceIte, reduceCtorEq, eq_self]
  (try (refine runo0 400 hty hnt hmh ?_; simp only [so, sq, zy, zz, tyE, SO', SQ', opQ, opStore, opAlloc, ev, putS, dOk, cv, SV.cs, SV.one, SV.bool?, eqB, Value.oneCell', ldOwn, binInt, binConst, binBool, binStr, isC, TK.agg, rv, rv1, ldV, resOne, resV, Nat.reduceAdd, Nat.reduceMul, Nat.reduceSub, Nat.reduceLT, Nat.reduceLeDiff, Nat.reduceEqDiff, Nat.reduceBEq, reduceIte, reduceCtorEq, eq_self])); (repeat (first | refine x_seq rfl ?_ | refine go_ops ?_ | refine go_blk ?_ | refine x_skip rfl ?_ | refine x_blk rfl rfl ?_ | refine x_exit rfl rfl rfl ?_ | refine x_ift rfl rfl rfl ?_ | refine x_iff rfl rfl rfl ?_ | refine x_label rfl ?_ | ((first | refine x_reg rfl rfl ?_ | (refine go_newx hty hnt hmh rfl rfl ?_; intro _)); refine runo0 400 hty hnt hmh ?_; simp only [so, sq, zy, zz, tyE, SO', SQ', opQ, opStore, opAlloc, ev, putS, dOk, cv, SV.cs, SV.one, SV.bool?, eqB, Value.oneCell', ldOwn, binInt, binConst, binBool, binStr, isC, TK.agg, rv, rv1, ldV, resOne, resV, Nat.reduceAdd, Nat.reduceMul, Nat.reduceSub, Nat.reduceLT, Nat.reduceLeDiff, Nat.reduceEqDiff, Nat.reduceBEq, reduceIte, reduceCtorEq, eq_self])))
  refine go_callf (by rw [hnt]; rfl) (by rw [hP]; kernel_rfl) rfl (hP ▸ valid_ok x _ G hr) ?_; (try (refine runo0 400 hty hnt hmh ?_; simp only [so, sq, zy, zz, tyE, SO', SQ', opQ, opStore, opAlloc, ev, putS, dOk, cv, SV.cs, SV.one, SV.bool?, eqB, Value.oneCell', ldOwn, binInt, binConst, binBool, binStr, isC, TK.agg, rv, rv1, ldV, resOne, resV, Nat.reduceAdd, Nat.reduceMul, Nat.reduceSub, Nat.reduceLT, Nat.reduceLeDiff, Nat.reduceEqDiff, Nat.reduceBEq, reduceIte, reduceCtorEq, eq_self])); (repeat (first | refine x_seq rfl ?_ | refine go_ops ?_ | refine go_blk ?_ | refine x_skip rfl ?_ | refine x_blk rfl rfl ?_ | refine x_exit rfl rfl rfl ?_ | refine x_ift rfl rfl rfl ?_ | refine x_iff rfl rfl rfl ?_ | refine x_label rfl ?_ | ((first | refine x_reg rfl rfl ?_ | (refine go_newx hty hnt hmh rfl rfl ?_; intro _)); refine runo0 400 hty hnt hmh ?_; simp only [so, sq, zy, zz, tyE, SO', SQ', opQ, opStore, opAlloc, ev, putS, dOk, cv, SV.cs, SV.one, SV.bool?, eqB, Value.oneCell', ldOwn, binInt, binConst, binBool, binStr, isC, TK.agg, rv, rv1, ldV, resOne, resV, Nat.reduceAdd, Nat.reduceMul, Nat.reduceSub, Nat.reduceLT, Nat.reduceLeDiff, Nat.reduceEqDiff, Nat.reduceBEq, reduceIte, reduceCtorEq, eq_self])))
  refine x_if rfl rfl rfl rfl (fun ht => ?_) (fun ht => ?_)
  · have hv : vld x = false := by simpa using ht
    (try (refine runo0 400 hty hnt hmh ?_; simp only [so, sq, zy, zz, tyE, SO', SQ', opQ, opStore, opAlloc, ev, putS, dOk, cv, SV.cs, SV.one, SV.bool?, eqB, Value.oneCell', ldOwn, binInt, binConst, binBool, binStr, isC, TK.agg, rv, rv1, ldV, resOne, resV, Nat.reduceAdd, Nat.reduceMul, Nat.reduceSub, Nat.reduceLT, Nat.reduceLeDiff, Nat.reduceEqDiff, Nat.reduceBEq, reduceIte, reduceCtorEq, eq_self])); (repeat (first | refine x_seq rfl ?_ | refine go_ops ?_ | refine go_blk ?_ | refine x_skip rfl ?_ | refine x_blk rfl rfl ?_ | refine x_exit rfl rfl rfl ?_ | refine x_ift rfl rfl rfl ?_ | refine x_iff rfl rfl rfl ?_ | refine x_label rfl ?_ | ((first | refine x_reg rfl rfl ?_ | (refine go_newx hty hnt hmh rfl rfl ?_; intro _)); refine runo0 400 hty hnt hmh ?_; simp only [so, sq, zy, zz, tyE, SO', SQ', opQ, opStore, opAlloc, ev, putS, dOk, cv, SV.cs, SV.one, SV.bool?, eqB, Value.oneCell', ldOwn, binInt, binConst, binBool, binStr, isC, TK.agg, rv, rv1, ldV, resOne, resV, Nat.reduceAdd, Nat.reduceMul, Nat.reduceSub, Nat.reduceLT, Nat.reduceLeDiff, Nat.reduceEqDiff, Nat.reduceBEq, reduceIte, reduceCtorEq, eq_self])))
    refine x_ret rfl hQ hmb (by rw [hty]; rfl) rfl ?_; simp only [SV.den, resV]
    refine ⟨_, [], rfl, by kernel_rfl, ?_⟩
    simp only [prts, hv]
    exact parts1_ok _
  · have hv : vld x = true := by simpa using ht
    (try (refine runo0 400 hty hnt hmh ?_; simp only [so, sq, zy, zz, tyE, SO', SQ', opQ, opStore, opAlloc, ev, putS, dOk, cv, SV.cs, SV.one, SV.bool?, eqB, Value.oneCell', ldOwn, binInt, binConst, binBool, binStr, isC, TK.agg, rv, rv1, ldV, resOne, resV, Nat.reduceAdd, Nat.reduceMul, Nat.reduceSub, Nat.reduceLT, Nat.reduceLeDiff, Nat.reduceEqDiff, Nat.reduceBEq, reduceIte, reduceCtorEq, eq_self])); (repeat (first | refine x_seq rfl ?_ | refine go_ops ?_ | refine go_blk ?_ | refine x_skip rfl ?_ | refine x_blk rfl rfl ?_ | refine x_exit rfl rfl rfl ?_ | refine x_ift rfl rfl rfl ?_ | refine x_iff rfl rfl rfl ?_ | refine x_label rfl ?_ | ((first | refine x_reg rfl rfl ?_ | (refine go_newx hty hnt hmh rfl rfl ?_; intro _)); refine runo0 400 hty hnt hmh ?_; simp only [so, sq, zy, zz, tyE, SO', SQ', opQ, opStore, opAlloc, ev, putS, dOk, cv, SV.cs, SV.one, SV.bool?, eqB, Value.oneCell', ldOwn, binInt, binConst, binBool, binStr, isC, TK.agg, rv, rv1, ldV, resOne, resV, Nat.reduceAdd, Nat.reduceMul, Nat.reduceSub, Nat.reduceLT, Nat.reduceLeDiff, Nat.reduceEqDiff, Nat.reduceBEq, reduceIte, reduceCtorEq, eq_self])))
    refine go_call (by rw [hnt]; rfl) (by rw [hP]; kernel_rfl) rfl (hP ▸ clone_ok x _ G hr hb) ?_
    rintro v G1 (hle1 : Le G G1) ⟨adc, capc, rfl, hrc⟩
    (try (refine runo0 400 hty hnt hmh ?_; simp only [so, sq, zy, zz, tyE, SO', SQ', opQ, opStore, opAlloc, ev, putS, dOk, cv, SV.cs, SV.one, SV.bool?, eqB, Value.oneCell', ldOwn, binInt, binConst, binBool, binStr, isC, TK.agg, rv, rv1, ldV, resOne, resV, Nat.reduceAdd, Nat.reduceMul, Nat.reduceSub, Nat.reduceLT, Nat.reduceLeDiff, Nat.reduceEqDiff, Nat.reduceBEq, reduceIte, reduceCtorEq, eq_self])); (repeat (first | refine x_seq rfl ?_ | refine go_ops ?_ | refine go_blk ?_ | refine x_skip rfl ?_ | refine x_blk rfl rfl ?_ | refine x_exit rfl rfl rfl ?_ | refine x_ift rfl rfl rfl ?_ | refine x_iff rfl rfl rfl ?_ | refine x_label rfl ?_ | ((first | refine x_reg rfl rfl ?_ | (refine go_newx hty hnt hmh rfl rfl ?_; intro _)); refine runo0 400 hty hnt hmh ?_; simp only [so, sq, zy, zz, tyE, SO', SQ', opQ, opStore, opAlloc, ev, putS, dOk, cv, SV.cs, SV.one, SV.bool?, eqB, Value.oneCell', ldOwn, binInt, binConst, binBool, binStr, isC, TK.agg, rv, rv1, ldV, resOne, resV, Nat.reduceAdd, Nat.reduceMul, Nat.reduceSub, Nat.reduceLT, Nat.reduceLeDiff, Nat.reduceEqDiff, Nat.reduceBEq, reduceIte, reduceCtorEq, eq_self])))
    rename_i b0 b1
    refine go_pub 1 rfl (by omega) ?_
    intro G2 (hle2 : Le G1 G2) hG2
    have hat2 := at_block hG2
    simp only [dens, SV.den] at hat2
    simp only [so, sq, zy, zz, tyE, SO', SQ', opQ, opStore, opAlloc, ev, putS, dOk, cv, SV.cs, SV.one, SV.bool?, eqB, Value.oneCell', ldOwn, binInt, binConst, binBool, binStr, isC, TK.agg, rv, rv1, ldV, resOne, resV, Nat.reduceAdd, Nat.reduceMul, Nat.reduceSub, Nat.reduceLT, Nat.reduceLeDiff, Nat.reduceEqDiff, Nat.reduceBEq, reduceIte, reduceCtorEq, eq_self]
    refine x_ret rfl hQ hmb (by rw [hty]; rfl) rfl ?_; simp only [SV.den, resV]
    refine ⟨58, [.pointer (some ⟨b1, 0, none⟩)], by simp [dens, SV.den], by kernel_rfl, ?_⟩
    simp only [prts, hv, if_true]
    exact parts2_ok x b1 0 adc capc G2 (VT.rep_mono hle2 hrc) hat2 hb
end Go.Proofs.Ytimoldnagdlbcaa
