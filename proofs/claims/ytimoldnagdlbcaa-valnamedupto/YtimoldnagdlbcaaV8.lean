/-
  Package val: copies.
-/
import Derived.Test.YtimoldnagdlbcaaV7
namespace Go.Proofs.Ytimoldnagdlbcaa
set_option linter.unusedSimpArgs false
set_option linter.unusedVariables false
open Go.Sx

theorem lay_at {α : Type} : ∀ (a b c d : List α), b.length = c.length → lay (a ++ b ++ d) a.length c = some (a ++ c ++ d)
  | [], [], [], d, _ => by simp [lay]
  | [], [], _ :: _, d, h => by simp at h
  | [], _ :: _, [], d, h => by simp at h
  | [], x :: b, y :: c, d, h => by
    have := lay_at [] b c d (by simpa using h)
    simp only [List.nil_append, List.length_nil] at this
    simp [lay, this]
  | x :: a, b, [], d, h => by
    have hb : b = [] := List.length_eq_zero_iff.1 (by simpa using h)
    subst hb
    simp [lay]
  | x :: a, b, y :: c, d, h => by
    have := lay_at a b (y :: c) d h
    rw [List.append_assoc, List.append_assoc] at this
    simp only [List.cons_append, List.length_cons, List.append_assoc] at this ⊢
    simp [lay, this]
theorem rep_len {α : Type} (z : List α) (n : Nat) : (rep z n).length = n * z.length := by
  induction n with
  | zero => simp [rep]
  | succ n ih => simp only [rep, List.length_append, ih, Nat.succ_mul]; omega

theorem tszL_mem : ∀ {l : List VT} {x : VT}, x ∈ l → tsz x ≤ tszL l
  | y :: l, x, h => by
    simp only [tszL]
    rcases List.mem_cons.1 h with rfl | h
    · omega
    · have := tszL_mem h; omega
/-- A value that has been copied. -/
def Copied (x : VT) (v : Value) (G : Hp) : Prop := ∃ ad cap, v = .agg #[.int .i64 x.k, .int .i64 x.n, .slice ad x.l.length cap] ∧ x.rep G (.slice ad x.l.length cap)

set_option maxHeartbeats 4000000 in
theorem clone_ok (x : VT) : ∀ (sl : Value) (G : Hp) (hr : x.rep G sl) (hb : tsz x ≤ 2000000), Pure Try.prog 53 [.agg #[.int .i64 x.k, .int .i64 x.n, sl]] G (Copied x) := by
  induction x using VT.ind with
  | h k m l IH =>
  intro sl G hr hb
  have hr0 := hr
  refine enterX ty tyok Try.func53 rfl Try.ntmps53 [.a [.v (.int .i64 k), .v (.int .i64 m), .v sl]] (by simp) ?_
  intro C hP hQ hnt hty hmb hmh hro; have hQp := qp_body hQ; simp only [so, sq, zy, zz, tyE, SO', SQ', opQ, opStore, opAlloc, ev, putS, dOk, cv, SV.cs, SV.one, SV.bool?, eqB, Value.oneCell', ldOwn, binInt, binConst, binBool, binStr, isC, TK.agg, rv, rv1, ldV, resOne, resV, Nat.reduceAdd, Nat.reduceMul, Nat.reduceSub, Nat.reduceLT, Nat.reduceLeDiff, Nat.reduceEqDiff, Nat.reduceBEq, reduceIte, reduceCtorEq, eq_self]
  rw [rep_iff] at hr
  obtain ⟨hk, hm, hl, ad, cap, rfl, hr⟩ := hr
  have htl := tszL_len l
  have htx : tsz (.mk k m l) = 1 + tszL l := by simp only [tsz]
  (try (refine runo0 400 hty hnt hmh ?_; simp only [so, sq, zy, zz, tyE, SO', SQ', opQ, opStore, opAlloc, ev, putS, dOk, cv, SV.cs, SV.one, SV.bool?, eqB, Value.oneCell', ldOwn, binInt, binConst, binBool, binStr, isC, TK.agg, rv, rv1, ldV, resOne, resV, Nat.reduceAdd, Nat.reduceMul, Nat.reduceSub, Nat.reduceLT, Nat.reduceLeDiff, Nat.reduceEqDiff, Nat.reduceBEq, reduceIte, reduceCtorEq, eq_self])); (repeat (first | refine x_seq rfl ?_ | refine go_ops ?_ | refine go_blk ?_ | refine x_skip rfl ?_ | refine x_blk rfl rfl ?_ | refine x_exit rfl rfl rfl ?_ | refine x_ift rfl rfl rfl ?_ | refine x_iff rfl rfl rfl ?_ | refine x_label rfl ?_ | ((first | refine x_reg rfl rfl ?_ | (refine go_newx hty hnt hmh rfl rfl ?_; intro _)); refine runo0 400 hty hnt hmh ?_; simp only [so, sq, zy, zz, tyE, SO', SQ', opQ, opStore, opAlloc, ev, putS, dOk, cv, SV.cs, SV.one, SV.bool?, eqB, Value.oneCell', ldOwn, binInt, binConst, binBool, binStr, isC, TK.agg, rv, rv1, ldV, resOne, resV, Nat.reduceAdd, Nat.reduceMul, Nat.reduceSub, Nat.reduceLT, Nat.reduceLeDiff, Nat.reduceEqDiff, Nat.reduceBEq, reduceIte, reduceCtorEq, eq_self])))
  refine x_if rfl rfl rfl rfl (fun ht => ?_) (fun ht => ?_)
  · have hpos : 0 < l.length := by simp at ht; first | exact ht | exact List.length_pos_iff.2 ht
    rcases hr with rfl | ⟨b, off, cs, rfl, ha, hrV⟩
    · simp at hpos
    (try (refine runo0 400 hty hnt hmh ?_; simp only [so, sq, zy, zz, tyE, SO', SQ', opQ, opStore, opAlloc, ev, putS, dOk, cv, SV.cs, SV.one, SV.bool?, eqB, Value.oneCell', ldOwn, binInt, binConst, binBool, binStr, isC, TK.agg, rv, rv1, ldV, resOne, resV, Nat.reduceAdd, Nat.reduceMul, Nat.reduceSub, Nat.reduceLT, Nat.reduceLeDiff, Nat.reduceEqDiff, Nat.reduceBEq, reduceIte, reduceCtorEq, eq_self])); (repeat (first | refine x_seq rfl ?_ | refine go_ops ?_ | refine go_blk ?_ | refine x_skip rfl ?_ | refine x_blk rfl rfl ?_ | refine x_exit rfl rfl rfl ?_ | refine x_ift rfl rfl rfl ?_ | refine x_iff rfl rfl rfl ?_ | refine x_label rfl ?_ | ((first | refine x_reg rfl rfl ?_ | (refine go_newx hty hnt hmh rfl rfl ?_; intro _)); refine runo0 400 hty hnt hmh ?_; simp only [so, sq, zy, zz, tyE, SO', SQ', opQ, opStore, opAlloc, ev, putS, dOk, cv, SV.cs, SV.one, SV.bool?, eqB, Value.oneCell', ldOwn, binInt, binConst, binBool, binStr, isC, TK.agg, rv, rv1, ldV, resOne, resV, Nat.reduceAdd, Nat.reduceMul, Nat.reduceSub, Nat.reduceLT, Nat.reduceLeDiff, Nat.reduceEqDiff, Nat.reduceBEq, reduceIte, reduceCtorEq, eq_self])))
    refine go_make 3 (by rw [hnt]; rfl) (by rw [hty]; rfl) (by rw [hty]; rfl) rfl rfl (Nat.le_refl _) rfl (by omega) (by omega) (by simp only []; omega) (by simp) ?_
    intro g
    (try (refine runo0 400 hty hnt hmh ?_; simp only [so, sq, zy, zz, tyE, SO', SQ', opQ, opStore, opAlloc, ev, putS, dOk, cv, SV.cs, SV.one, SV.bool?, eqB, Value.oneCell', ldOwn, binInt, binConst, binBool, binStr, isC, TK.agg, rv, rv1, ldV, resOne, resV, Nat.reduceAdd, Nat.reduceMul, Nat.reduceSub, Nat.reduceLT, Nat.reduceLeDiff, Nat.reduceEqDiff, Nat.reduceBEq, reduceIte, reduceCtorEq, eq_self])); (repeat (first | refine x_seq rfl ?_ | refine go_ops ?_ | refine go_blk ?_ | refine x_skip rfl ?_ | refine x_blk rfl rfl ?_ | refine x_exit rfl rfl rfl ?_ | refine x_ift rfl rfl rfl ?_ | refine x_iff rfl rfl rfl ?_ | refine x_label rfl ?_ | ((first | refine x_reg rfl rfl ?_ | (refine go_newx hty hnt hmh rfl rfl ?_; intro _)); refine runo0 400 hty hnt hmh ?_; simp only [so, sq, zy, zz, tyE, SO', SQ', opQ, opStore, opAlloc, ev, putS, dOk, cv, SV.cs, SV.one, SV.bool?, eqB, Value.oneCell', ldOwn, binInt, binConst, binBool, binStr, isC, TK.agg, rv, rv1, ldV, resOne, resV, Nat.reduceAdd, Nat.reduceMul, Nat.reduceSub, Nat.reduceLT, Nat.reduceLeDiff, Nat.reduceEqDiff, Nat.reduceBEq, reduceIte, reduceCtorEq, eq_self])))
    refine go_keep [2, 3, 21, 22, 23] [1, 2, 3] ?_
    simp only [so, sq, zy, zz, tyE, SO', SQ', opQ, opStore, opAlloc, ev, putS, dOk, cv, SV.cs, SV.one, SV.bool?, eqB, Value.oneCell', ldOwn, binInt, binConst, binBool, binStr, isC, TK.agg, rv, rv1, ldV, resOne, resV, Nat.reduceAdd, Nat.reduceMul, Nat.reduceSub, Nat.reduceLT, Nat.reduceLeDiff, Nat.reduceEqDiff, Nat.reduceBEq, reduceIte, reduceCtorEq, eq_self]
    rename_i b0 b1 b2
    refine x_loop rfl (fun q s => ∃ (j : Nat) (G' : Hp) (xs : List Value), j ≤ l.length ∧ q = l.length - j ∧ Le G G' ∧ repV G' (l.take j) xs ∧
      s = ⟨[(2, .p 1 b1 0), (3, .p 2 b2 0), (21, .v (.slice (some ⟨b, off, none⟩) l.length cap)), (22, .v (.int .i64 l.length)), (23, .v (.int .i64 j))],
        [(1, b1, .c 25 [.v (.int .i64 0), .v (.int .i64 0), .v (.slice none 0 0)]), (2, b2, .c 25 [.v (.int .i64 k), .v (.int .i64 m), .v (.slice (some ⟨g, 0, none⟩) l.length l.length)]),
         (3, g, .row (.slice (some ⟨g, 0, none⟩) l.length l.length) 25 3 l.length (xs ++ rep [.int .i64 0, .int .i64 0, .slice none 0 0] (l.length - j)))], G', []⟩)
      ⟨0, G, [], by omega, rfl, Le.refl _, by simp [repV], by simp⟩ ?_
    rintro q s ⟨j, G', xs, hj, hq, hle, hxs, rfl⟩ ih
    (try (refine runo0 400 hty hnt hmh ?_; simp only [so, sq, zy, zz, tyE, SO', SQ', opQ, opStore, opAlloc, ev, putS, dOk, cv, SV.cs, SV.one, SV.bool?, eqB, Value.oneCell', ldOwn, binInt, binConst, binBool, binStr, isC, TK.agg, rv, rv1, ldV, resOne, resV, Nat.reduceAdd, Nat.reduceMul, Nat.reduceSub, Nat.reduceLT, Nat.reduceLeDiff, Nat.reduceEqDiff, Nat.reduceBEq, reduceIte, reduceCtorEq, eq_self])); (repeat (first | refine x_seq rfl ?_ | refine go_ops ?_ | refine go_blk ?_ | refine x_skip rfl ?_ | refine x_blk rfl rfl ?_ | refine x_exit rfl rfl rfl ?_ | refine x_ift rfl rfl rfl ?_ | refine x_iff rfl rfl rfl ?_ | refine x_label rfl ?_ | ((first | refine x_reg rfl rfl ?_ | (refine go_newx hty hnt hmh rfl rfl ?_; intro _)); refine runo0 400 hty hnt hmh ?_; simp only [so, sq, zy, zz, tyE, SO', SQ', opQ, opStore, opAlloc, ev, putS, dOk, cv, SV.cs, SV.one, SV.bool?, eqB, Value.oneCell', ldOwn, binInt, binConst, binBool, binStr, isC, TK.agg, rv, rv1, ldV, resOne, resV, Nat.reduceAdd, Nat.reduceMul, Nat.reduceSub, Nat.reduceLT, Nat.reduceLeDiff, Nat.reduceEqDiff, Nat.reduceBEq, reduceIte, reduceCtorEq, eq_self])))
    refine x_if rfl rfl rfl rfl (fun hj2 => ?_) (fun hj2 => ?_)
    · have hlt : j < l.length := by simp at hj2; omega
      obtain ⟨adx, capx, hat, hrx⟩ := At_get ha hrV hlt
      have hxl := repV_len hxs
      (try (refine runo0 400 hty hnt hmh ?_; simp only [so, sq, zy, zz, tyE, SO', SQ', opQ, opStore, opAlloc, ev, putS, dOk, cv, SV.cs, SV.one, SV.bool?, eqB, Value.oneCell', ldOwn, binInt, binConst, binBool, binStr, isC, TK.agg, rv, rv1, ldV, resOne, resV, Nat.reduceAdd, Nat.reduceMul, Nat.reduceSub, Nat.reduceLT, Nat.reduceLeDiff, Nat.reduceEqDiff, Nat.reduceBEq, reduceIte, reduceCtorEq, eq_self])); (repeat (first | refine x_seq rfl ?_ | refine go_ops ?_ | refine go_blk ?_ | refine x_skip rfl ?_ | refine x_blk rfl rfl ?_ | refine x_exit rfl rfl rfl ?_ | refine x_ift rfl rfl rfl ?_ | refine x_iff rfl rfl rfl ?_ | refine x_label rfl ?_ | ((first | refine x_reg rfl rfl ?_ | (refine go_newx hty hnt hmh rfl rfl ?_; intro _)); refine runo0 400 hty hnt hmh ?_; simp only [so, sq, zy, zz, tyE, SO', SQ', opQ, opStore, opAlloc, ev, putS, dOk, cv, SV.cs, SV.one, SV.bool?, eqB, Value.oneCell', ldOwn, binInt, binConst, binBool, binStr, isC, TK.agg, rv, rv1, ldV, resOne, resV, Nat.reduceAdd, Nat.reduceMul, Nat.reduceSub, Nat.reduceLT, Nat.reduceLeDiff, Nat.reduceEqDiff, Nat.reduceBEq, reduceIte, reduceCtorEq, eq_self])))
      refine go_q (by rw [hnt]; rfl) (quiet_index (by rw [hty]; rfl) (by rw [hty]; rfl) rfl rfl rfl (by omega) (by omega)) ?_
      refine go_q (by rw [hnt]; rfl) (quiet_load (by rw [hty]; rfl) rfl (by simp [TK.agg]) (hat.mono hle) rfl) ?_
      (try (refine runo0 400 hty hnt hmh ?_; simp only [so, sq, zy, zz, tyE, SO', SQ', opQ, opStore, opAlloc, ev, putS, dOk, cv, SV.cs, SV.one, SV.bool?, eqB, Value.oneCell', ldOwn, binInt, binConst, binBool, binStr, isC, TK.agg, rv, rv1, ldV, resOne, resV, Nat.reduceAdd, Nat.reduceMul, Nat.reduceSub, Nat.reduceLT, Nat.reduceLeDiff, Nat.reduceEqDiff, Nat.reduceBEq, reduceIte, reduceCtorEq, eq_self])); (repeat (first | refine x_seq rfl ?_ | refine go_ops ?_ | refine go_blk ?_ | refine x_skip rfl ?_ | refine x_blk rfl rfl ?_ | refine x_exit rfl rfl rfl ?_ | refine x_ift rfl rfl rfl ?_ | refine x_iff rfl rfl rfl ?_ | refine x_label rfl ?_ | ((first | refine x_reg rfl rfl ?_ | (refine go_newx hty hnt hmh rfl rfl ?_; intro _)); refine runo0 400 hty hnt hmh ?_; simp only [so, sq, zy, zz, tyE, SO', SQ', opQ, opStore, opAlloc, ev, putS, dOk, cv, SV.cs, SV.one, SV.bool?, eqB, Value.oneCell', ldOwn, binInt, binConst, binBool, binStr, isC, TK.agg, rv, rv1, ldV, resOne, resV, Nat.reduceAdd, Nat.reduceMul, Nat.reduceSub, Nat.reduceLT, Nat.reduceLeDiff, Nat.reduceEqDiff, Nat.reduceBEq, reduceIte, reduceCtorEq, eq_self])))
      rename_i b4
      refine go_keep [2, 3, 4, 5, 21, 22, 23] [1, 2, 3, 4] ?_
      simp only [so, sq, zy, zz, tyE, SO', SQ', opQ, opStore, opAlloc, ev, putS, dOk, cv, SV.cs, SV.one, SV.bool?, eqB, Value.oneCell', ldOwn, binInt, binConst, binBool, binStr, isC, TK.agg, rv, rv1, ldV, resOne, resV, Nat.reduceAdd, Nat.reduceMul, Nat.reduceSub, Nat.reduceLT, Nat.reduceLeDiff, Nat.reduceEqDiff, Nat.reduceBEq, reduceIte, reduceCtorEq, eq_self]
      refine x_held [(2, b2, .c 25 [.v (.int .i64 k), .v (.int .i64 m), .v (.slice (some ⟨g, 0, none⟩) l.length l.length)]), (4, b4, .c 25 [.v (.int .i64 l[j].k), .v (.int .i64 l[j].n), .v (.slice adx l[j].l.length capx)])] rfl (by rw [hP]; kernel_rfl) rfl rfl rfl ?_; simp only [so, sq, zy, zz, tyE, SO', SQ', opQ, opStore, opAlloc, ev, putS, dOk, cv, SV.cs, SV.one, SV.bool?, eqB, Value.oneCell', ldOwn, binInt, binConst, binBool, binStr, isC, TK.agg, rv, rv1, ldV, resOne, resV, Nat.reduceAdd, Nat.reduceMul, Nat.reduceSub, Nat.reduceLT, Nat.reduceLeDiff, Nat.reduceEqDiff, Nat.reduceBEq, reduceIte, reduceCtorEq, eq_self]
      refine h_take 0 rfl (by kernel_rfl) (by kernel_rfl) (by kernel_rfl) hQp (by rw [hnt]; rfl) (allIn (by repeat (first | exact trivial | refine ⟨rfl, ?_⟩))) (by first | exact Le.refl _ | assumption) (quiet_op (by rw [hty]; first | rfl | (simp only [so, sq, zy, zz, tyE, SO', SQ', opQ, opStore, opAlloc, ev, putS, dOk, cv, SV.cs, SV.one, SV.bool?, eqB, Value.oneCell', ldOwn, binInt, binConst, binBool, binStr, isC, TK.agg, rv, rv1, ldV, resOne, resV, Nat.reduceAdd, Nat.reduceMul, Nat.reduceSub, Nat.reduceLT, Nat.reduceLeDiff, Nat.reduceEqDiff, Nat.reduceBEq, reduceIte, reduceCtorEq, eq_self]; rfl))) ?_; simp only [so, sq, zy, zz, tyE, SO', SQ', opQ, opStore, opAlloc, ev, putS, dOk, cv, SV.cs, SV.one, SV.bool?, eqB, Value.oneCell', ldOwn, binInt, binConst, binBool, binStr, isC, TK.agg, rv, rv1, ldV, resOne, resV, Nat.reduceAdd, Nat.reduceMul, Nat.reduceSub, Nat.reduceLT, Nat.reduceLeDiff, Nat.reduceEqDiff, Nat.reduceBEq, reduceIte, reduceCtorEq, eq_self]
      refine h_take 1 rfl (by kernel_rfl) (by kernel_rfl) (by kernel_rfl) hQp (by rw [hnt]; rfl) (allIn (by repeat (first | exact trivial | refine ⟨rfl, ?_⟩))) (by first | exact Le.refl _ | assumption) (quiet_op (by rw [hty]; first | rfl | (simp only [so, sq, zy, zz, tyE, SO', SQ', opQ, opStore, opAlloc, ev, putS, dOk, cv, SV.cs, SV.one, SV.bool?, eqB, Value.oneCell', ldOwn, binInt, binConst, binBool, binStr, isC, TK.agg, rv, rv1, ldV, resOne, resV, Nat.reduceAdd, Nat.reduceMul, Nat.reduceSub, Nat.reduceLT, Nat.reduceLeDiff, Nat.reduceEqDiff, Nat.reduceBEq, reduceIte, reduceCtorEq, eq_self]; rfl))) ?_; simp only [so, sq, zy, zz, tyE, SO', SQ', opQ, opStore, opAlloc, ev, putS, dOk, cv, SV.cs, SV.one, SV.bool?, eqB, Value.oneCell', ldOwn, binInt, binConst, binBool, binStr, isC, TK.agg, rv, rv1, ldV, resOne, resV, Nat.reduceAdd, Nat.reduceMul, Nat.reduceSub, Nat.reduceLT, Nat.reduceLeDiff, Nat.reduceEqDiff, Nat.reduceBEq, reduceIte, reduceCtorEq, eq_self]
      refine h_take 2 rfl (by kernel_rfl) (by kernel_rfl) (by kernel_rfl) hQp (by rw [hnt]; rfl) (allIn (by repeat (first | exact trivial | refine ⟨rfl, ?_⟩))) (by first | exact Le.refl _ | assumption) (quiet_op (by rw [hty]; first | rfl | (simp only [so, sq, zy, zz, tyE, SO', SQ', opQ, opStore, opAlloc, ev, putS, dOk, cv, SV.cs, SV.one, SV.bool?, eqB, Value.oneCell', ldOwn, binInt, binConst, binBool, binStr, isC, TK.agg, rv, rv1, ldV, resOne, resV, Nat.reduceAdd, Nat.reduceMul, Nat.reduceSub, Nat.reduceLT, Nat.reduceLeDiff, Nat.reduceEqDiff, Nat.reduceBEq, reduceIte, reduceCtorEq, eq_self]; rfl))) ?_; simp only [so, sq, zy, zz, tyE, SO', SQ', opQ, opStore, opAlloc, ev, putS, dOk, cv, SV.cs, SV.one, SV.bool?, eqB, Value.oneCell', ldOwn, binInt, binConst, binBool, binStr, isC, TK.agg, rv, rv1, ldV, resOne, resV, Nat.reduceAdd, Nat.reduceMul, Nat.reduceSub, Nat.reduceLT, Nat.reduceLeDiff, Nat.reduceEqDiff, Nat.reduceBEq, reduceIte, reduceCtorEq, eq_self]
      refine h_take 3 rfl (by kernel_rfl) (by kernel_rfl) (by kernel_rfl) hQp (by rw [hnt]; rfl) (allIn (by repeat (first | exact trivial | refine ⟨rfl, ?_⟩))) (by first | exact Le.refl _ | assumption) (quiet_op (by rw [hty]; first | rfl | (simp only [so, sq, zy, zz, tyE, SO', SQ', opQ, opStore, opAlloc, ev, putS, dOk, cv, SV.cs, SV.one, SV.bool?, eqB, Value.oneCell', ldOwn, binInt, binConst, binBool, binStr, isC, TK.agg, rv, rv1, ldV, resOne, resV, Nat.reduceAdd, Nat.reduceMul, Nat.reduceSub, Nat.reduceLT, Nat.reduceLeDiff, Nat.reduceEqDiff, Nat.reduceBEq, reduceIte, reduceCtorEq, eq_self]; rfl))) ?_; simp only [so, sq, zy, zz, tyE, SO', SQ', opQ, opStore, opAlloc, ev, putS, dOk, cv, SV.cs, SV.one, SV.bool?, eqB, Value.oneCell', ldOwn, binInt, binConst, binBool, binStr, isC, TK.agg, rv, rv1, ldV, resOne, resV, Nat.reduceAdd, Nat.reduceMul, Nat.reduceSub, Nat.reduceLT, Nat.reduceLeDiff, Nat.reduceEqDiff, Nat.reduceBEq, reduceIte, reduceCtorEq, eq_self]
      refine h_one 4 rfl (by kernel_rfl) ?_
      have htj := tszL_mem (List.getElem_mem hlt)
      have htj' : tsz l[j] ≤ 2000000 := by omega
      refine go_call (by rw [hnt]; rfl) (by rw [hP]; kernel_rfl) rfl (hP ▸ IH l[j] (List.getElem_mem hlt) _ G' (VT.rep_mono hle hrx) htj') ?_
      rintro v G1 (hle1 : Le G' G1) ⟨adc, capc, rfl, hrc⟩
      (try (refine runo0 400 hty hnt hmh ?_; simp only [so, sq, zy, zz, tyE, SO', SQ', opQ, opStore, opAlloc, ev, putS, dOk, cv, SV.cs, SV.one, SV.bool?, eqB, Value.oneCell', ldOwn, binInt, binConst, binBool, binStr, isC, TK.agg, rv, rv1, ldV, resOne, resV, Nat.reduceAdd, Nat.reduceMul, Nat.reduceSub, Nat.reduceLT, Nat.reduceLeDiff, Nat.reduceEqDiff, Nat.reduceBEq, reduceIte, reduceCtorEq, eq_self])); (repeat (first | refine x_seq rfl ?_ | refine go_ops ?_ | refine go_blk ?_ | refine x_skip rfl ?_ | refine x_blk rfl rfl ?_ | refine x_exit rfl rfl rfl ?_ | refine x_ift rfl rfl rfl ?_ | refine x_iff rfl rfl rfl ?_ | refine x_label rfl ?_ | ((first | refine x_reg rfl rfl ?_ | (refine go_newx hty hnt hmh rfl rfl ?_; intro _)); refine runo0 400 hty hnt hmh ?_; simp only [so, sq, zy, zz, tyE, SO', SQ', opQ, opStore, opAlloc, ev, putS, dOk, cv, SV.cs, SV.one, SV.bool?, eqB, Value.oneCell', ldOwn, binInt, binConst, binBool, binStr, isC, TK.agg, rv, rv1, ldV, resOne, resV, Nat.reduceAdd, Nat.reduceMul, Nat.reduceSub, Nat.reduceLT, Nat.reduceLeDiff, Nat.reduceEqDiff, Nat.reduceBEq, reduceIte, reduceCtorEq, eq_self])))
      refine h_hs (allIn (by repeat (first | exact trivial | refine ⟨rfl, ?_⟩))) (by first | exact Le.refl _ | assumption) ?_
      refine h_one 5 rfl (by kernel_rfl) ?_
      refine go_q (by rw [hnt]; rfl) (quiet_index (by rw [hty]; rfl) (by rw [hty]; rfl) rfl rfl rfl (by omega) (by omega)) ?_
      (try (refine runo0 400 hty hnt hmh ?_; simp only [so, sq, zy, zz, tyE, SO', SQ', opQ, opStore, opAlloc, ev, putS, dOk, cv, SV.cs, SV.one, SV.bool?, eqB, Value.oneCell', ldOwn, binInt, binConst, binBool, binStr, isC, TK.agg, rv, rv1, ldV, resOne, resV, Nat.reduceAdd, Nat.reduceMul, Nat.reduceSub, Nat.reduceLT, Nat.reduceLeDiff, Nat.reduceEqDiff, Nat.reduceBEq, reduceIte, reduceCtorEq, eq_self])); (repeat (first | refine x_seq rfl ?_ | refine go_ops ?_ | refine go_blk ?_ | refine x_skip rfl ?_ | refine x_blk rfl rfl ?_ | refine x_exit rfl rfl rfl ?_ | refine x_ift rfl rfl rfl ?_ | refine x_iff rfl rfl rfl ?_ | refine x_label rfl ?_ | ((first | refine x_reg rfl rfl ?_ | (refine go_newx hty hnt hmh rfl rfl ?_; intro _)); refine runo0 400 hty hnt hmh ?_; simp only [so, sq, zy, zz, tyE, SO', SQ', opQ, opStore, opAlloc, ev, putS, dOk, cv, SV.cs, SV.one, SV.bool?, eqB, Value.oneCell', ldOwn, binInt, binConst, binBool, binStr, isC, TK.agg, rv, rv1, ldV, resOne, resV, Nat.reduceAdd, Nat.reduceMul, Nat.reduceSub, Nat.reduceLT, Nat.reduceLeDiff, Nat.reduceEqDiff, Nat.reduceBEq, reduceIte, reduceCtorEq, eq_self])))
      refine h_hs (allIn (by repeat (first | exact trivial | refine ⟨rfl, ?_⟩))) (by first | exact Le.refl _ | assumption) ?_
      refine h_one 6 rfl (by kernel_rfl) ?_
      have hsucc : l.length - j = (l.length - (j + 1)) + 1 := by omega
      have hlay : lay (xs ++ rep [.int .i64 0, .int .i64 0, .slice none 0 0] (l.length - j)) (j * 3) [.int .i64 l[j].k, .int .i64 l[j].n, .slice adc l[j].l.length capc] =
          some (xs ++ [.int .i64 l[j].k, .int .i64 l[j].n, .slice adc l[j].l.length capc] ++ rep [.int .i64 0, .int .i64 0, .slice none 0 0] (l.length - (j + 1))) := by
        have h0 : j * 3 = xs.length := by rw [hxl, List.length_take, Nat.min_eq_left hj]
        rw [hsucc, h0, rep, ← List.append_assoc]
        exact lay_at xs _ _ _ (by simp)
      refine go_storeR 3 rfl (by rw [hty]; rfl) rfl rfl rfl rfl rfl rfl hlay ?_
      (try (refine runo0 400 hty hnt hmh ?_; simp only [so, sq, zy, zz, tyE, SO', SQ', opQ, opStore, opAlloc, ev, putS, dOk, cv, SV.cs, SV.one, SV.bool?, eqB, Value.oneCell', ldOwn, binInt, binConst, binBool, binStr, isC, TK.agg, rv, rv1, ldV, resOne, resV, Nat.reduceAdd, Nat.reduceMul, Nat.reduceSub, Nat.reduceLT, Nat.reduceLeDiff, Nat.reduceEqDiff, Nat.reduceBEq, reduceIte, reduceCtorEq, eq_self])); (repeat (first | refine x_seq rfl ?_ | refine go_ops ?_ | refine go_blk ?_ | refine x_skip rfl ?_ | refine x_blk rfl rfl ?_ | refine x_exit rfl rfl rfl ?_ | refine x_ift rfl rfl rfl ?_ | refine x_iff rfl rfl rfl ?_ | refine x_label rfl ?_ | ((first | refine x_reg rfl rfl ?_ | (refine go_newx hty hnt hmh rfl rfl ?_; intro _)); refine runo0 400 hty hnt hmh ?_; simp only [so, sq, zy, zz, tyE, SO', SQ', opQ, opStore, opAlloc, ev, putS, dOk, cv, SV.cs, SV.one, SV.bool?, eqB, Value.oneCell', ldOwn, binInt, binConst, binBool, binStr, isC, TK.agg, rv, rv1, ldV, resOne, resV, Nat.reduceAdd, Nat.reduceMul, Nat.reduceSub, Nat.reduceLT, Nat.reduceLeDiff, Nat.reduceEqDiff, Nat.reduceBEq, reduceIte, reduceCtorEq, eq_self])))
      refine h_hs (allIn (by repeat (first | exact trivial | refine ⟨rfl, ?_⟩))) (by first | exact Le.refl _ | assumption) ?_
      refine h_end (by kernel_rfl) ?_
      (try (refine runo0 400 hty hnt hmh ?_; simp only [so, sq, zy, zz, tyE, SO', SQ', opQ, opStore, opAlloc, ev, putS, dOk, cv, SV.cs, SV.one, SV.bool?, eqB, Value.oneCell', ldOwn, binInt, binConst, binBool, binStr, isC, TK.agg, rv, rv1, ldV, resOne, resV, Nat.reduceAdd, Nat.reduceMul, Nat.reduceSub, Nat.reduceLT, Nat.reduceLeDiff, Nat.reduceEqDiff, Nat.reduceBEq, reduceIte, reduceCtorEq, eq_self])); (repeat (first | refine x_seq rfl ?_ | refine go_ops ?_ | refine go_blk ?_ | refine x_skip rfl ?_ | refine x_blk rfl rfl ?_ | refine x_exit rfl rfl rfl ?_ | refine x_ift rfl rfl rfl ?_ | refine x_iff rfl rfl rfl ?_ | refine x_label rfl ?_ | ((first | refine x_reg rfl rfl ?_ | (refine go_newx hty hnt hmh rfl rfl ?_; intro _)); refine runo0 400 hty hnt hmh ?_; simp only [so, sq, zy, zz, tyE, SO', SQ', opQ, opStore, opAlloc, ev, putS, dOk, cv, SV.cs, SV.one, SV.bool?, eqB, Value.oneCell', ldOwn, binInt, binConst, binBool, binStr, isC, TK.agg, rv, rv1, ldV, resOne, resV, Nat.reduceAdd, Nat.reduceMul, Nat.reduceSub, Nat.reduceLT, Nat.reduceLeDiff, Nat.reduceEqDiff, Nat.reduceBEq, reduceIte, reduceCtorEq, eq_self])))
      rw [wr (by omega) (by omega)]
      refine go_keep [2, 3, 21, 22, 23] [1, 2, 3] ?_
      simp only [so, sq, zy, zz, tyE, SO', SQ', opQ, opStore, opAlloc, ev, putS, dOk, cv, SV.cs, SV.one, SV.bool?, eqB, Value.oneCell', ldOwn, binInt, binConst, binBool, binStr, isC, TK.agg, rv, rv1, ldV, resOne, resV, Nat.reduceAdd, Nat.reduceMul, Nat.reduceSub, Nat.reduceLT, Nat.reduceLeDiff, Nat.reduceEqDiff, Nat.reduceBEq, reduceIte, reduceCtorEq, eq_self]
      refine ih (l.length - (j + 1)) _ (by omega) ⟨j + 1, G1, xs ++ [.int .i64 l[j].k, .int .i64 l[j].n, .slice adc l[j].l.length capc], by omega, rfl, hle.trans hle1, ?_, by simp⟩
      have htk : l.take (j + 1) = l.take j ++ [l[j]] := by rw [List.take_append_getElem]
      rw [htk]
      exact repV_append (repV_mono hle1 hxs) (by simp only [repV]; exact ⟨_, _, rfl, hrc, rfl⟩)
    · have hge : j = l.length := by simp at hj2; omega
      subst hge
      (try (refine runo0 400 hty hnt hmh ?_; simp only [so, sq, zy, zz, tyE, SO', SQ', opQ, opStore, opAlloc, ev, putS, dOk, cv, SV.cs, SV.one, SV.bool?, eqB, Value.oneCell', ldOwn, binInt, binConst, binBool, binStr, isC, TK.agg, rv, rv1, ldV, resOne, resV, Nat.reduceAdd, Nat.reduceMul, Nat.reduceSub, Nat.reduceLT, Nat.reduceLeDiff, Nat.reduceEqDiff, Nat.reduceBEq, reduceIte, reduceCtorEq, eq_self])); (repeat (first | refine x_seq rfl ?_ | refine go_ops ?_ | refine go_blk ?_ | refine x_skip rfl ?_ | refine x_blk rfl rfl ?_ | refine x_exit rfl rfl rfl ?_ | refine x_ift rfl rfl rfl ?_ | refine x_iff rfl rfl rfl ?_ | refine x_label rfl ?_ | ((first | refine x_reg rfl rfl ?_ | (refine go_newx hty hnt hmh rfl rfl ?_; intro _)); refine runo0 400 hty hnt hmh ?_; simp only [so, sq, zy, zz, tyE, SO', SQ', opQ, opStore, opAlloc, ev, putS, dOk, cv, SV.cs, SV.one, SV.bool?, eqB, Value.oneCell', ldOwn, binInt, binConst, binBool, binStr, isC, TK.agg, rv, rv1, ldV, resOne, resV, Nat.reduceAdd, Nat.reduceMul, Nat.reduceSub, Nat.reduceLT, Nat.reduceLeDiff, Nat.reduceEqDiff, Nat.reduceBEq, reduceIte, reduceCtorEq, eq_self])))
      simp only [Nat.sub_self, rep, List.append_nil]
      refine go_pubrow 3 rfl (by omega) ?_
      intro G2 (hle2 : Le G' G2) hat2
      simp only [so, sq, zy, zz, tyE, SO', SQ', opQ, opStore, opAlloc, ev, putS, dOk, cv, SV.cs, SV.one, SV.bool?, eqB, Value.oneCell', ldOwn, binInt, binConst, binBool, binStr, isC, TK.agg, rv, rv1, ldV, resOne, resV, Nat.reduceAdd, Nat.reduceMul, Nat.reduceSub, Nat.reduceLT, Nat.reduceLeDiff, Nat.reduceEqDiff, Nat.reduceBEq, reduceIte, reduceCtorEq, eq_self]
      refine x_retc rfl hQ hmb rfl (by rw [hty]; simp only [so, sq, zy, zz, tyE, SO', SQ', opQ, opStore, opAlloc, ev, putS, dOk, cv, SV.cs, SV.one, SV.bool?, eqB, Value.oneCell', ldOwn, binInt, binConst, binBool, binStr, isC, TK.agg, rv, rv1, ldV, resOne, resV, Nat.reduceAdd, Nat.reduceMul, Nat.reduceSub, Nat.reduceLT, Nat.reduceLeDiff, Nat.reduceEqDiff, Nat.reduceBEq, reduceIte, reduceCtorEq, eq_self]; try rfl) rfl ?_; simp only [SV.den, resV, dens]
      refine ⟨_, _, rfl, ?_⟩
      rw [rep_iff]
      rw [List.take_length] at hxs
      exact ⟨hk, hm, hl, _, _, rfl, .inr ⟨g, 0, xs, rfl, hat2, repV_mono hle2 hxs⟩⟩
  · (try (refine runo0 400 hty hnt hmh ?_; simp only [so, sq, zy, zz, tyE, SO', SQ', opQ, opStore, opAlloc, ev, putS, dOk, cv, SV.cs, SV.one, SV.bool?, eqB, Value.oneCell', ldOwn, binInt, binConst, binBool, binStr, isC, TK.agg, rv, rv1, ldV, resOne, resV, Nat.reduceAdd, Nat.reduceMul, Nat.reduceSub, Nat.reduceLT, Nat.reduceLeDiff, Nat.reduceEqDiff, Nat.reduceBEq, reduceIte, reduceCtorEq, eq_self])); (repeat (first | refine x_seq rfl ?_ | refine go_ops ?_ | refine go_blk ?_ | refine x_skip rfl ?_ | refine x_blk rfl rfl ?_ | refine x_exit rfl rfl rfl ?_ | refine x_ift rfl rfl rfl ?_ | refine x_iff rfl rfl rfl ?_ | refine x_label rfl ?_ | ((first | refine x_reg rfl rfl ?_ | (refine go_newx hty hnt hmh rfl rfl ?_; intro _)); refine runo0 400 hty hnt hmh ?_; simp only [so, sq, zy, zz, tyE, SO', SQ', opQ, opStore, opAlloc, ev, putS, dOk, cv, SV.cs, SV.one, SV.bool?, eqB, Value.oneCell', ldOwn, binInt, binConst, binBool, binStr, isC, TK.agg, rv, rv1, ldV, resOne, resV, Nat.reduceAdd, Nat.reduceMul, Nat.reduceSub, Nat.reduceLT, Nat.reduceLeDiff, Nat.reduceEqDiff, Nat.reduceBEq, reduceIte, reduceCtorEq, eq_self])))
    refine x_retc rfl hQ hmb rfl (by rw [hty]; simp only [so, sq, zy, zz, tyE, SO', SQ', opQ, opStore, opAlloc, ev, putS, dOk, cv, SV.cs, SV.one, SV.bool?, eqB, Value.oneCell', ldOwn, binInt, binConst, binBool, binStr, isC, TK.agg, rv, rv1, ldV, resOne, resV, Nat.reduceAdd, Nat.reduceMul, Nat.reduceSub, Nat.reduceLT, Nat.reduceLeDiff, Nat.reduceEqDiff, Nat.reduceBEq, reduceIte, reduceCtorEq, eq_self]; try rfl) rfl ?_; simp only [SV.den, resV, dens]
    have hl0 : l = [] := List.length_eq_zero_iff.1 (by simp at ht; first | omega | (subst ht; rfl))
    subst hl0
    refine ⟨none, 0, rfl, ?_⟩
    rw [rep_iff]
    refine ⟨hk, hm, hl, none, 0, rfl, .inl rfl⟩
end Go.Proofs.Ytimoldnagdlbcaa
