/-
  The reference's Size: breadth first, by append.
-/
import Derived.Test.YtimoldnagdlbcaaV4
namespace Go.Proofs.Ytimoldnagdlbcaa
set_option linter.unusedSimpArgs false
set_option linter.unusedVariables false
open Go.Sx

mutual
def tsz : VT → Nat
  | .mk _ _ l => 1 + tszL l
def tszL : List VT → Nat
  | [] => 0
  | x :: l => tsz x + tszL l
end
theorem tsz_pos (x : VT) : 1 ≤ tsz x := by cases x; simp only [tsz]; omega
theorem tszL_append (l r : List VT) : tszL (l ++ r) = tszL l + tszL r := by
  induction l with
  | nil => simp [tszL]
  | cons x l ih => simp only [List.cons_append, tszL, ih]; omega
theorem tszL_len (l : List VT) : l.length ≤ tszL l := by
  induction l with
  | nil => simp [tszL]
  | cons x l ih => have := tsz_pos x; simp only [tszL, List.length_cons]; omega
theorem tsz_l (x : VT) : tsz x = 1 + tszL x.l := by cases x; simp only [tsz, VT.l]

mutual
theorem cnt_eq : ∀ (x : VT) (n : Int), n ≤ 256 → cnt x n = min (n + tsz x) 257
  | .mk _ _ l, n, h => by simp only [cnt, tsz]; rw [cntL_eq l (n + 1) (by omega)]; congr 1; omega
theorem cntL_eq : ∀ (l : List VT) (n : Int), n ≤ 257 → cntL l n = min (n + tszL l) 257
  | [], n, h => by simp only [cntL, tszL]; omega
  | x :: l, n, h => by
    simp only [cntL, tszL]
    split
    · omega
    · rw [cnt_eq x n (by omega), cntL_eq l _ (by omega)]; omega
end

theorem src_rep {G : Hp} {l : List VT} {ad : Option Addr} {cap : Nat} (h : l = [] ∨ ∃ b off cs, ad = some ⟨b, off, none⟩ ∧ At G b off cs ∧ repV G l cs) :
    ∃ cs, repV G l cs ∧ ((∃ c, (SV.v (.slice ad l.length cap)).den = .slice none 0 c ∧ l.length = 0 ∧ cs = []) ∨ ∀ (C : Ctx) (s : St), s.G = G → Src C s (.v (.slice ad l.length cap)) l.length cs) := by
  rcases h with rfl | ⟨b, off, cs, rfl, ha, hr⟩
  · refine ⟨[], by simp [repV], ?_⟩
    cases ad with
    | none => exact .inl ⟨cap, rfl, rfl, rfl⟩
    | some a => exact .inr fun _ _ _ => src_empty rfl
  · exact ⟨cs, hr, .inr fun _ s hs => src_at (by rw [hs]; exact ha)⟩

theorem VT.rep_cs {G : Hp} : ∀ {x : VT} {ad : Option Addr} {n cap : Nat}, x.rep G (.slice ad n cap) → x.l = [] ∨ ∃ b off cs, ad = some ⟨b, off, none⟩ ∧ At G b off cs ∧ repV G x.l cs
  | .mk k n l, ad, _, cap, h => by
    simp only [VT.rep] at h
    obtain ⟨_, _, _, ad', cap', h4, h5⟩ := h
    cases h4
    exact h5
theorem src_sliced {C : Ctx} {s : St} {ts : List VT} {cs : List Value} {b off capj : Nat} (ha : At s.G b off cs) (hr : repV s.G ts cs) (h1 : 1 ≤ ts.length) (h2 : ts.length ≤ capj) :
    Src C s (.v (Sx.sliced (some ⟨b, off, none⟩) capj 1 ts.length 3)) (ts.length - 1) (cs.drop 3) := by
  have hlen := repV_len hr
  by_cases h : ts.length = 1
  · have e : cs.drop 3 = [] := List.drop_eq_nil_of_le (by omega)
    rw [e, h]
    simp only [Sx.sliced]
    by_cases hc : capj = 1
    · exact src_empty (by simp only [hc, if_true]; rfl)
    · exact src_empty (by simp only [hc, if_false, Option.map_some]; rfl)
  · rw [sliced_some b off capj 1 ts.length 3 (by omega) h2]
    exact src_at (ha.drop 3 (by omega))

set_option maxHeartbeats 2000000 in
theorem refsize_ok (x : VT) (sl : Value) (G : Hp) (hr : x.rep G sl) (hb : tsz x ≤ 2000000) : Pure Try.prog 14 [.agg #[.int .i64 x.k, .int .i64 x.n, sl]] G (fun r _ => r = .int .i64 (cnt x 0)) := by
  obtain ⟨ad, cap, rfl⟩ := VT.rep_slice hr
  refine enterX ty tyok Try.func14 rfl Try.ntmps14 [.a [.v (.int .i64 x.k), .v (.int .i64 x.n), .v _]] (by simp) ?_
  intro C hP hQ hnt hty hmb hmh hro; have hQp := qp_body hQ; simp only [so, sq, zy, zz, tyE, SO', SQ', opQ, opStore, opAlloc, ev, putS, dOk, cv, SV.cs, SV.one, SV.bool?, eqB, Value.oneCell', ldOwn, binInt, binConst, binBool, binStr, isC, TK.agg, rv, rv1, ldV, resOne, resV, Nat.reduceAdd, Nat.reduceMul, Nat.reduceSub, Nat.reduceLT, Nat.reduceLeDiff, Nat.reduceEqDiff, Nat.reduceBEq, reduceIte, reduceCtorEq, eq_self]
  (try (refine runo0 400 hty hnt hmh ?_; simp only [so, sq, zy, zz, tyE, SO', SQ', opQ, opStore, opAlloc, ev, putS, dOk, cv, SV.cs, SV.one, SV.bool?, eqB, Value.oneCell', ldOwn, binInt, binConst, binBool, binStr, isC, TK.agg, rv, rv1, ldV, resOne, resV, Nat.reduceAdd, Nat.reduceMul, Nat.reduceSub, Nat.reduceLT, Nat.reduceLeDiff, Nat.reduceEqDiff, Nat.reduceBEq, reduceIte, reduceCtorEq, eq_self])); (repeat (first | refine x_seq rfl ?_ | refine go_ops ?_ | refine go_blk ?_ | refine x_skip rfl ?_ | refine x_blk rfl rfl ?_ | refine x_exit rfl rfl rfl ?_ | refine x_ift rfl rfl rfl ?_ | refine x_iff rfl rfl rfl ?_ | refine x_label rfl ?_ | ((first | refine x_reg rfl rfl ?_ | (refine go_newx hty hnt hmh rfl rfl ?_; intro _)); refine runo0 400 hty hnt hmh ?_; simp only [so, sq, zy, zz, tyE, SO', SQ', opQ, opStore, opAlloc, ev, putS, dOk, cv, SV.cs, SV.one, SV.bool?, eqB, Value.oneCell', ldOwn, binInt, binConst, binBool, binStr, isC, TK.agg, rv, rv1, ldV, resOne, resV, Nat.reduceAdd, Nat.reduceMul, Nat.reduceSub, Nat.reduceLT, Nat.reduceLeDiff, Nat.reduceEqDiff, Nat.reduceBEq, reduceIte, reduceCtorEq, eq_self])))
  refine go_pub 1 rfl (by omega) ?_
  rename_i b0 b1
  intro G1 (hle1 : Le G G1) hG1
  refine go_slot 3 (.v (.slice (some ⟨b1, 0, none⟩) 1 1)) rfl rfl ?_
  simp only [so, sq, zy, zz, tyE, SO', SQ', opQ, opStore, opAlloc, ev, putS, dOk, cv, SV.cs, SV.one, SV.bool?, eqB, Value.oneCell', ldOwn, binInt, binConst, binBool, binStr, isC, TK.agg, rv, rv1, ldV, resOne, resV, Nat.reduceAdd, Nat.reduceMul, Nat.reduceSub, Nat.reduceLT, Nat.reduceLeDiff, Nat.reduceEqDiff, Nat.reduceBEq, reduceIte, reduceCtorEq, eq_self]
  refine go_keep [3, 4] [] ?_
  simp only [so, sq, zy, zz, tyE, SO', SQ', opQ, opStore, opAlloc, ev, putS, dOk, cv, SV.cs, SV.one, SV.bool?, eqB, Value.oneCell', ldOwn, binInt, binConst, binBool, binStr, isC, TK.agg, rv, rv1, ldV, resOne, resV, Nat.reduceAdd, Nat.reduceMul, Nat.reduceSub, Nat.reduceLT, Nat.reduceLeDiff, Nat.reduceEqDiff, Nat.reduceBEq, reduceIte, reduceCtorEq, eq_self]
  have hat1 := at_block hG1
  simp only [dens, SV.den] at hat1
  have hrV1 : repV G1 [x] [.int .i64 x.k, .int .i64 x.n, .slice ad x.l.length cap] := by
    simp only [repV]
    exact ⟨_, _, rfl, VT.rep_mono hle1 hr, rfl⟩
  refine x_loop rfl (fun q s => ∃ (ts : List VT) (nj : Int) (adj : Option Addr) (capj : Nat) (G' : Hp), 0 ≤ nj ∧ nj ≤ 257 ∧ q = (257 - nj).toNat ∧ Le G G' ∧ nj + tszL ts = tsz x ∧ ts.length ≤ capj ∧
    (ts = [] ∨ ∃ b off cs, adj = some ⟨b, off, none⟩ ∧ At G' b off cs ∧ repV G' ts cs) ∧
    s = ⟨[(3, .v (.slice adj ts.length capj)), (4, .v (.int .i64 nj))], [], G', []⟩)
    ⟨[x], 0, some ⟨b1, 0, none⟩, 1, G1, by omega, by omega, rfl, hle1, by simp [tszL], by simp, .inr ⟨b1, 0, _, rfl, hat1, hrV1⟩, rfl⟩ ?_
  rintro q s ⟨ts, nj, adj, capj, G', hn0, hn1, hq, hle, hsum, hcap, hts, rfl⟩ ih
  have htl := tszL_len ts
  (try (refine runo0 400 hty hnt hmh ?_; simp only [so, sq, zy, zz, tyE, SO', SQ', opQ, opStore, opAlloc, ev, putS, dOk, cv, SV.cs, SV.one, SV.bool?, eqB, Value.oneCell', ldOwn, binInt, binConst, binBool, binStr, isC, TK.agg, rv, rv1, ldV, resOne, resV, Nat.reduceAdd, Nat.reduceMul, Nat.reduceSub, Nat.reduceLT, Nat.reduceLeDiff, Nat.reduceEqDiff, Nat.reduceBEq, reduceIte, reduceCtorEq, eq_self])); (repeat (first | refine x_seq rfl ?_ | refine go_ops ?_ | refine go_blk ?_ | refine x_skip rfl ?_ | refine x_blk rfl rfl ?_ | refine x_exit rfl rfl rfl ?_ | refine x_ift rfl rfl rfl ?_ | refine x_iff rfl rfl rfl ?_ | refine x_label rfl ?_ | ((first | refine x_reg rfl rfl ?_ | (refine go_newx hty hnt hmh rfl rfl ?_; intro _)); refine runo0 400 hty hnt hmh ?_; simp only [so, sq, zy, zz, tyE, SO', SQ', opQ, opStore, opAlloc, ev, putS, dOk, cv, SV.cs, SV.one, SV.bool?, eqB, Value.oneCell', ldOwn, binInt, binConst, binBool, binStr, isC, TK.agg, rv, rv1, ldV, resOne, resV, Nat.reduceAdd, Nat.reduceMul, Nat.reduceSub, Nat.reduceLT, Nat.reduceLeDiff, Nat.reduceEqDiff, Nat.reduceBEq, reduceIte, reduceCtorEq, eq_self])))
  refine go_gsplit rfl rfl (fun g1 => ?_) (fun g1 => ?_) <;> (simp only [so, sq, zy, zz, tyE, SO', SQ', opQ, opStore, opAlloc, ev, putS, dOk, cv, SV.cs, SV.one, SV.bool?, eqB, Value.oneCell', ldOwn, binInt, binConst, binBool, binStr, isC, TK.agg, rv, rv1, ldV, resOne, resV, Nat.reduceAdd, Nat.reduceMul, Nat.reduceSub, Nat.reduceLT, Nat.reduceLeDiff, Nat.reduceEqDiff, Nat.reduceBEq, reduceIte, reduceCtorEq, eq_self]; ((try (refine runo0 400 hty hnt hmh ?_; simp only [so, sq, zy, zz, tyE, SO', SQ', opQ, opStore, opAlloc, ev, putS, dOk, cv, SV.cs, SV.one, SV.bool?, eqB, Value.oneCell', ldOwn, binInt, binConst, binBool, binStr, isC, TK.agg, rv, rv1, ldV, resOne, resV, Nat.reduceAdd, Nat.reduceMul, Nat.reduceSub, Nat.reduceLT, Nat.reduceLeDiff, Nat.reduceEqDiff, Nat.reduceBEq, reduceIte, reduceCtorEq, eq_self])); (repeat (first | refine x_seq rfl ?_ | refine go_ops ?_ | refine go_blk ?_ | refine x_skip rfl ?_ | refine x_blk rfl rfl ?_ | refine x_exit rfl rfl rfl ?_ | refine x_ift rfl rfl rfl ?_ | refine x_iff rfl rfl rfl ?_ | refine x_label rfl ?_ | ((first | refine x_reg rfl rfl ?_ | (refine go_newx hty hnt hmh rfl rfl ?_; intro _)); refine runo0 400 hty hnt hmh ?_; simp only [so, sq, zy, zz, tyE, SO', SQ', opQ, opStore, opAlloc, ev, putS, dOk, cv, SV.cs, SV.one, SV.bool?, eqB, Value.oneCell', ldOwn, binInt, binConst, binBool, binStr, isC, TK.agg, rv, rv1, ldV, resOne, resV, Nat.reduceAdd, Nat.reduceMul, Nat.reduceSub, Nat.reduceLT, Nat.reduceLeDiff, Nat.reduceEqDiff, Nat.reduceBEq, reduceIte, reduceCtorEq, eq_self])))))
  · refine x_split rfl rfl rfl (fun g2 => ?_) (fun g2 => ?_) <;> (simp only [so, sq, zy, zz, tyE, SO', SQ', opQ, opStore, opAlloc, ev, putS, dOk, cv, SV.cs, SV.one, SV.bool?, eqB, Value.oneCell', ldOwn, binInt, binConst, binBool, binStr, isC, TK.agg, rv, rv1, ldV, resOne, resV, Nat.reduceAdd, Nat.reduceMul, Nat.reduceSub, Nat.reduceLT, Nat.reduceLeDiff, Nat.reduceEqDiff, Nat.reduceBEq, reduceIte, reduceCtorEq, eq_self]; (repeat (first | refine x_seq rfl ?_ | refine go_ops ?_ | refine go_blk ?_ | refine x_skip rfl ?_ | refine x_blk rfl rfl ?_ | refine x_exit rfl rfl rfl ?_ | refine x_ift rfl rfl rfl ?_ | refine x_iff rfl rfl rfl ?_ | refine x_label rfl ?_ | ((first | refine x_reg rfl rfl ?_ | (refine go_newx hty hnt hmh rfl rfl ?_; intro _)); refine runo0 400 hty hnt hmh ?_; simp only [so, sq, zy, zz, tyE, SO', SQ', opQ, opStore, opAlloc, ev, putS, dOk, cv, SV.cs, SV.one, SV.bool?, eqB, Value.oneCell', ldOwn, binInt, binConst, binBool, binStr, isC, TK.agg, rv, rv1, ldV, resOne, resV, Nat.reduceAdd, Nat.reduceMul, Nat.reduceSub, Nat.reduceLT, Nat.reduceLeDiff, Nat.reduceEqDiff, Nat.reduceBEq, reduceIte, reduceCtorEq, eq_self]))))
    · have hlt : 0 < ts.length := by simp at g1; omega
      have hn256 : nj ≤ 256 := by simpa using g2
      rcases hts with rfl | ⟨b, off, cs, rfl, ha, hrV⟩
      · simp at hlt
      obtain ⟨adx, capx, hat, hrx⟩ := At_get ha hrV hlt
      have hdrop : ts = ts[0] :: ts.drop 1 := by simpa using (List.drop_eq_getElem_cons (i := 0) hlt)
      refine go_q (by rw [hnt]; rfl) (quiet_index (by rw [hty]; rfl) (by rw [hty]; rfl) rfl rfl rfl (by omega) (by omega)) ?_
      refine go_q (by rw [hnt]; rfl) (quiet_load (by rw [hty]; rfl) rfl (by simp [TK.agg]) hat rfl) ?_
      (try (refine runo0 400 hty hnt hmh ?_; simp only [so, sq, zy, zz, tyE, SO', SQ', opQ, opStore, opAlloc, ev, putS, dOk, cv, SV.cs, SV.one, SV.bool?, eqB, Value.oneCell', ldOwn, binInt, binConst, binBool, binStr, isC, TK.agg, rv, rv1, ldV, resOne, resV, Nat.reduceAdd, Nat.reduceMul, Nat.reduceSub, Nat.reduceLT, Nat.reduceLeDiff, Nat.reduceEqDiff, Nat.reduceBEq, reduceIte, reduceCtorEq, eq_self])); (repeat (first | refine x_seq rfl ?_ | refine go_ops ?_ | refine go_blk ?_ | refine x_skip rfl ?_ | refine x_blk rfl rfl ?_ | refine x_exit rfl rfl rfl ?_ | refine x_ift rfl rfl rfl ?_ | refine x_iff rfl rfl rfl ?_ | refine x_label rfl ?_ | ((first | refine x_reg rfl rfl ?_ | (refine go_newx hty hnt hmh rfl rfl ?_; intro _)); refine runo0 400 hty hnt hmh ?_; simp only [so, sq, zy, zz, tyE, SO', SQ', opQ, opStore, opAlloc, ev, putS, dOk, cv, SV.cs, SV.one, SV.bool?, eqB, Value.oneCell', ldOwn, binInt, binConst, binBool, binStr, isC, TK.agg, rv, rv1, ldV, resOne, resV, Nat.reduceAdd, Nat.reduceMul, Nat.reduceSub, Nat.reduceLT, Nat.reduceLeDiff, Nat.reduceEqDiff, Nat.reduceBEq, reduceIte, reduceCtorEq, eq_self])))
      rename_i bx
      refine go_keep [3, 4, 5] [0] ?_
      simp only [so, sq, zy, zz, tyE, SO', SQ', opQ, opStore, opAlloc, ev, putS, dOk, cv, SV.cs, SV.one, SV.bool?, eqB, Value.oneCell', ldOwn, binInt, binConst, binBool, binStr, isC, TK.agg, rv, rv1, ldV, resOne, resV, Nat.reduceAdd, Nat.reduceMul, Nat.reduceSub, Nat.reduceLT, Nat.reduceLeDiff, Nat.reduceEqDiff, Nat.reduceBEq, reduceIte, reduceCtorEq, eq_self]
      refine x_held [(0, bx, .c 25 [.v (.int .i64 ts[0].k), .v (.int .i64 ts[0].n), .v (.slice adx ts[0].l.length capx)])] rfl (by rw [hP]; kernel_rfl) rfl rfl rfl ?_; simp only [so, sq, zy, zz, tyE, SO', SQ', opQ, opStore, opAlloc, ev, putS, dOk, cv, SV.cs, SV.one, SV.bool?, eqB, Value.oneCell', ldOwn, binInt, binConst, binBool, binStr, isC, TK.agg, rv, rv1, ldV, resOne, resV, Nat.reduceAdd, Nat.reduceMul, Nat.reduceSub, Nat.reduceLT, Nat.reduceLeDiff, Nat.reduceEqDiff, Nat.reduceBEq, reduceIte, reduceCtorEq, eq_self]
      refine h_take 1 rfl (by kernel_rfl) (by kernel_rfl) (by kernel_rfl) hQp (by rw [hnt]; rfl) (allIn (by repeat (first | exact trivial | refine ⟨rfl, ?_⟩))) (by first | exact Le.refl _ | assumption) (quiet_op (by rw [hty]; first | rfl | (simp only [so, sq, zy, zz, tyE, SO', SQ', opQ, opStore, opAlloc, ev, putS, dOk, cv, SV.cs, SV.one, SV.bool?, eqB, Value.oneCell', ldOwn, binInt, binConst, binBool, binStr, isC, TK.agg, rv, rv1, ldV, resOne, resV, Nat.reduceAdd, Nat.reduceMul, Nat.reduceSub, Nat.reduceLT, Nat.reduceLeDiff, Nat.reduceEqDiff, Nat.reduceBEq, reduceIte, reduceCtorEq, eq_self]; rfl))) ?_; simp only [so, sq, zy, zz, tyE, SO', SQ', opQ, opStore, opAlloc, ev, putS, dOk, cv, SV.cs, SV.one, SV.bool?, eqB, Value.oneCell', ldOwn, binInt, binConst, binBool, binStr, isC, TK.agg, rv, rv1, ldV, resOne, resV, Nat.reduceAdd, Nat.reduceMul, Nat.reduceSub, Nat.reduceLT, Nat.reduceLeDiff, Nat.reduceEqDiff, Nat.reduceBEq, reduceIte, reduceCtorEq, eq_self]
      refine h_take 2 rfl (by kernel_rfl) (by kernel_rfl) (by kernel_rfl) hQp (by rw [hnt]; rfl) (allIn (by repeat (first | exact trivial | refine ⟨rfl, ?_⟩))) (by first | exact Le.refl _ | assumption) (x := .v (Sx.sliced (some ⟨b, off, none⟩) capj 1 ts.length 3)) ((quiet_sliceLo (k := .i64) (n := 1) (by rw [hty]; rfl) (by rw [hty]; rfl) rfl rfl rfl (by omega) (by omega)).cast rfl) ?_
      simp only [so, sq, zy, zz, tyE, SO', SQ', opQ, opStore, opAlloc, ev, putS, dOk, cv, SV.cs, SV.one, SV.bool?, eqB, Value.oneCell', ldOwn, binInt, binConst, binBool, binStr, isC, TK.agg, rv, rv1, ldV, resOne, resV, Nat.reduceAdd, Nat.reduceMul, Nat.reduceSub, Nat.reduceLT, Nat.reduceLeDiff, Nat.reduceEqDiff, Nat.reduceBEq, reduceIte, reduceCtorEq, eq_self]
      refine h_take 4 rfl (by kernel_rfl) (by kernel_rfl) (by kernel_rfl) hQp (by rw [hnt]; rfl) (allIn (by repeat (first | exact trivial | refine ⟨rfl, ?_⟩))) (by first | exact Le.refl _ | assumption) (quiet_op (by rw [hty]; first | rfl | (simp only [so, sq, zy, zz, tyE, SO', SQ', opQ, opStore, opAlloc, ev, putS, dOk, cv, SV.cs, SV.one, SV.bool?, eqB, Value.oneCell', ldOwn, binInt, binConst, binBool, binStr, isC, TK.agg, rv, rv1, ldV, resOne, resV, Nat.reduceAdd, Nat.reduceMul, Nat.reduceSub, Nat.reduceLT, Nat.reduceLeDiff, Nat.reduceEqDiff, Nat.reduceBEq, reduceIte, reduceCtorEq, eq_self]; rfl))) ?_; simp only [so, sq, zy, zz, tyE, SO', SQ', opQ, opStore, opAlloc, ev, putS, dOk, cv, SV.cs, SV.one, SV.bool?, eqB, Value.oneCell', ldOwn, binInt, binConst, binBool, binStr, isC, TK.agg, rv, rv1, ldV, resOne, resV, Nat.reduceAdd, Nat.reduceMul, Nat.reduceSub, Nat.reduceLT, Nat.reduceLeDiff, Nat.reduceEqDiff, Nat.reduceBEq, reduceIte, reduceCtorEq, eq_self]
      refine h_take 5 rfl (by kernel_rfl) (by kernel_rfl) (by kernel_rfl) hQp (by rw [hnt]; rfl) (allIn (by repeat (first | exact trivial | refine ⟨rfl, ?_⟩))) (by first | exact Le.refl _ | assumption) (quiet_op (by rw [hty]; first | rfl | (simp only [so, sq, zy, zz, tyE, SO', SQ', opQ, opStore, opAlloc, ev, putS, dOk, cv, SV.cs, SV.one, SV.bool?, eqB, Value.oneCell', ldOwn, binInt, binConst, binBool, binStr, isC, TK.agg, rv, rv1, ldV, resOne, resV, Nat.reduceAdd, Nat.reduceMul, Nat.reduceSub, Nat.reduceLT, Nat.reduceLeDiff, Nat.reduceEqDiff, Nat.reduceBEq, reduceIte, reduceCtorEq, eq_self]; rfl))) ?_; simp only [so, sq, zy, zz, tyE, SO', SQ', opQ, opStore, opAlloc, ev, putS, dOk, cv, SV.cs, SV.one, SV.bool?, eqB, Value.oneCell', ldOwn, binInt, binConst, binBool, binStr, isC, TK.agg, rv, rv1, ldV, resOne, resV, Nat.reduceAdd, Nat.reduceMul, Nat.reduceSub, Nat.reduceLT, Nat.reduceLeDiff, Nat.reduceEqDiff, Nat.reduceBEq, reduceIte, reduceCtorEq, eq_self]
      refine h_one 0 rfl (by kernel_rfl) ?_
      (try (refine runo0 400 hty hnt hmh ?_; simp only [so, sq, zy, zz, tyE, SO', SQ', opQ, opStore, opAlloc, ev, putS, dOk, cv, SV.cs, SV.one, SV.bool?, eqB, Value.oneCell', ldOwn, binInt, binConst, binBool, binStr, isC, TK.agg, rv, rv1, ldV, resOne, resV, Nat.reduceAdd, Nat.reduceMul, Nat.reduceSub, Nat.reduceLT, Nat.reduceLeDiff, Nat.reduceEqDiff, Nat.reduceBEq, reduceIte, reduceCtorEq, eq_self])); (repeat (first | refine x_seq rfl ?_ | refine go_ops ?_ | refine go_blk ?_ | refine x_skip rfl ?_ | refine x_blk rfl rfl ?_ | refine x_exit rfl rfl rfl ?_ | refine x_ift rfl rfl rfl ?_ | refine x_iff rfl rfl rfl ?_ | refine x_label rfl ?_ | ((first | refine x_reg rfl rfl ?_ | (refine go_newx hty hnt hmh rfl rfl ?_; intro _)); refine runo0 400 hty hnt hmh ?_; simp only [so, sq, zy, zz, tyE, SO', SQ', opQ, opStore, opAlloc, ev, putS, dOk, cv, SV.cs, SV.one, SV.bool?, eqB, Value.oneCell', ldOwn, binInt, binConst, binBool, binStr, isC, TK.agg, rv, rv1, ldV, resOne, resV, Nat.reduceAdd, Nat.reduceMul, Nat.reduceSub, Nat.reduceLT, Nat.reduceLeDiff, Nat.reduceEqDiff, Nat.reduceBEq, reduceIte, reduceCtorEq, eq_self])))
      refine h_hs (allIn (by repeat (first | exact trivial | refine ⟨rfl, ?_⟩))) (by first | exact Le.refl _ | assumption) ?_
      refine h_one 3 rfl (by kernel_rfl) ?_
      rename_i br
      have hlen := repV_len hrV
      have hone := repV_one hrV
      have hrV1' : repV G' (ts.drop 1) (cs.drop 3) := repV_drop 1 hrV
      have hts0 : tszL (ts[0] :: ts.drop 1) = tsz ts[0] + tszL (ts.drop 1) := by simp only [tszL]
      rw [← hdrop] at hts0
      have htx : tsz ts[0] = 1 + tszL ts[0].l := tsz_l _
      have htl2 := tszL_len ts[0].l
      refine go_litrow 1 (n := 0) (size := 3) rfl (by omega) rfl (by omega) ?_
      simp only [so, sq, zy, zz, tyE, SO', SQ', opQ, opStore, opAlloc, ev, putS, dOk, cv, SV.cs, SV.one, SV.bool?, eqB, Value.oneCell', ldOwn, binInt, binConst, binBool, binStr, isC, TK.agg, rv, rv1, ldV, resOne, resV, Nat.reduceAdd, Nat.reduceMul, Nat.reduceSub, Nat.reduceLT, Nat.reduceLeDiff, Nat.reduceEqDiff, Nat.reduceBEq, reduceIte, reduceCtorEq, eq_self]
      refine go_append_any 1 (by rw [hnt]; rfl) (by rw [hty]; rfl) (by rw [hty]; rfl) (by decide) rfl rfl rfl (by omega) rfl (.inr (src_sliced ha hrV (by omega) hcap)) (by simp only [List.length_drop]; omega) (fun u hu => hone u (List.mem_of_mem_drop hu)) (by omega) (by simp only [] ; omega) ?_
      intro v1
      (try (refine runo0 400 hty hnt hmh ?_; simp only [so, sq, zy, zz, tyE, SO', SQ', opQ, opStore, opAlloc, ev, putS, dOk, cv, SV.cs, SV.one, SV.bool?, eqB, Value.oneCell', ldOwn, binInt, binConst, binBool, binStr, isC, TK.agg, rv, rv1, ldV, resOne, resV, Nat.reduceAdd, Nat.reduceMul, Nat.reduceSub, Nat.reduceLT, Nat.reduceLeDiff, Nat.reduceEqDiff, Nat.reduceBEq, reduceIte, reduceCtorEq, eq_self])); (repeat (first | refine x_seq rfl ?_ | refine go_ops ?_ | refine go_blk ?_ | refine x_skip rfl ?_ | refine x_blk rfl rfl ?_ | refine x_exit rfl rfl rfl ?_ | refine x_ift rfl rfl rfl ?_ | refine x_iff rfl rfl rfl ?_ | refine x_label rfl ?_ | ((first | refine x_reg rfl rfl ?_ | (refine go_newx hty hnt hmh rfl rfl ?_; intro _)); refine runo0 400 hty hnt hmh ?_; simp only [so, sq, zy, zz, tyE, SO', SQ', opQ, opStore, opAlloc, ev, putS, dOk, cv, SV.cs, SV.one, SV.bool?, eqB, Value.oneCell', ldOwn, binInt, binConst, binBool, binStr, isC, TK.agg, rv, rv1, ldV, resOne, resV, Nat.reduceAdd, Nat.reduceMul, Nat.reduceSub, Nat.reduceLT, Nat.reduceLeDiff, Nat.reduceEqDiff, Nat.reduceBEq, reduceIte, reduceCtorEq, eq_self])))
      refine h_hs (allIn (by repeat (first | exact trivial | refine ⟨rfl, ?_⟩))) (by first | exact Le.refl _ | assumption) ?_
      refine h_one 6 rfl (by kernel_rfl) ?_
      obtain ⟨cs2, hr2, hs2⟩ := src_rep (VT.rep_cs hrx) (cap := capx)
      have hlen2 := repV_len hr2
      refine go_append_any 1 (by rw [hnt]; rfl) (by rw [hty]; rfl) (by rw [hty]; rfl) (by decide) rfl rfl rfl (by omega) rfl (hs2.imp id fun f => f _ _ rfl) (by simp only []; omega) (repV_one hr2) (by omega) (by simp only []; omega) ?_
      intro v2
      (try (refine runo0 400 hty hnt hmh ?_; simp only [so, sq, zy, zz, tyE, SO', SQ', opQ, opStore, opAlloc, ev, putS, dOk, cv, SV.cs, SV.one, SV.bool?, eqB, Value.oneCell', ldOwn, binInt, binConst, binBool, binStr, isC, TK.agg, rv, rv1, ldV, resOne, resV, Nat.reduceAdd, Nat.reduceMul, Nat.reduceSub, Nat.reduceLT, Nat.reduceLeDiff, Nat.reduceEqDiff, Nat.reduceBEq, reduceIte, reduceCtorEq, eq_self])); (repeat (first | refine x_seq rfl ?_ | refine go_ops ?_ | refine go_blk ?_ | refine x_skip rfl ?_ | refine x_blk rfl rfl ?_ | refine x_exit rfl rfl rfl ?_ | refine x_ift rfl rfl rfl ?_ | refine x_iff rfl rfl rfl ?_ | refine x_label rfl ?_ | ((first | refine x_reg rfl rfl ?_ | (refine go_newx hty hnt hmh rfl rfl ?_; intro _)); refine runo0 400 hty hnt hmh ?_; simp only [so, sq, zy, zz, tyE, SO', SQ', opQ, opStore, opAlloc, ev, putS, dOk, cv, SV.cs, SV.one, SV.bool?, eqB, Value.oneCell', ldOwn, binInt, binConst, binBool, binStr, isC, TK.agg, rv, rv1, ldV, resOne, resV, Nat.reduceAdd, Nat.reduceMul, Nat.reduceSub, Nat.reduceLT, Nat.reduceLeDiff, Nat.reduceEqDiff, Nat.reduceBEq, reduceIte, reduceCtorEq, eq_self])))
      refine h_hs (allIn (by repeat (first | exact trivial | refine ⟨rfl, ?_⟩))) (by first | exact Le.refl _ | assumption) ?_
      refine h_one 7 rfl (by kernel_rfl) ?_
      (try (refine runo0 400 hty hnt hmh ?_; simp only [so, sq, zy, zz, tyE, SO', SQ', opQ, opStore, opAlloc, ev, putS, dOk, cv, SV.cs, SV.one, SV.bool?, eqB, Value.oneCell', ldOwn, binInt, binConst, binBool, binStr, isC, TK.agg, rv, rv1, ldV, resOne, resV, Nat.reduceAdd, Nat.reduceMul, Nat.reduceSub, Nat.reduceLT, Nat.reduceLeDiff, Nat.reduceEqDiff, Nat.reduceBEq, reduceIte, reduceCtorEq, eq_self])); (repeat (first | refine x_seq rfl ?_ | refine go_ops ?_ | refine go_blk ?_ | refine x_skip rfl ?_ | refine x_blk rfl rfl ?_ | refine x_exit rfl rfl rfl ?_ | refine x_ift rfl rfl rfl ?_ | refine x_iff rfl rfl rfl ?_ | refine x_label rfl ?_ | ((first | refine x_reg rfl rfl ?_ | (refine go_newx hty hnt hmh rfl rfl ?_; intro _)); refine runo0 400 hty hnt hmh ?_; simp only [so, sq, zy, zz, tyE, SO', SQ', opQ, opStore, opAlloc, ev, putS, dOk, cv, SV.cs, SV.one, SV.bool?, eqB, Value.oneCell', ldOwn, binInt, binConst, binBool, binStr, isC, TK.agg, rv, rv1, ldV, resOne, resV, Nat.reduceAdd, Nat.reduceMul, Nat.reduceSub, Nat.reduceLT, Nat.reduceLeDiff, Nat.reduceEqDiff, Nat.reduceBEq, reduceIte, reduceCtorEq, eq_self])))
      refine h_hs (allIn (by repeat (first | exact trivial | refine ⟨rfl, ?_⟩))) (by first | exact Le.refl _ | assumption) ?_
      refine h_end (by kernel_rfl) ?_
      (try (refine runo0 400 hty hnt hmh ?_; simp only [so, sq, zy, zz, tyE, SO', SQ', opQ, opStore, opAlloc, ev, putS, dOk, cv, SV.cs, SV.one, SV.bool?, eqB, Value.oneCell', ldOwn, binInt, binConst, binBool, binStr, isC, TK.agg, rv, rv1, ldV, resOne, resV, Nat.reduceAdd, Nat.reduceMul, Nat.reduceSub, Nat.reduceLT, Nat.reduceLeDiff, Nat.reduceEqDiff, Nat.reduceBEq, reduceIte, reduceCtorEq, eq_self])); (repeat (first | refine x_seq rfl ?_ | refine go_ops ?_ | refine go_blk ?_ | refine x_skip rfl ?_ | refine x_blk rfl rfl ?_ | refine x_exit rfl rfl rfl ?_ | refine x_ift rfl rfl rfl ?_ | refine x_iff rfl rfl rfl ?_ | refine x_label rfl ?_ | ((first | refine x_reg rfl rfl ?_ | (refine go_newx hty hnt hmh rfl rfl ?_; intro _)); refine runo0 400 hty hnt hmh ?_; simp only [so, sq, zy, zz, tyE, SO', SQ', opQ, opStore, opAlloc, ev, putS, dOk, cv, SV.cs, SV.one, SV.bool?, eqB, Value.oneCell', ldOwn, binInt, binConst, binBool, binStr, isC, TK.agg, rv, rv1, ldV, resOne, resV, Nat.reduceAdd, Nat.reduceMul, Nat.reduceSub, Nat.reduceLT, Nat.reduceLeDiff, Nat.reduceEqDiff, Nat.reduceBEq, reduceIte, reduceCtorEq, eq_self])))
      rw [wr (by omega) (by omega)]
      refine go_keep [3, 4] [1] ?_
      simp only [so, sq, zy, zz, tyE, SO', SQ', opQ, opStore, opAlloc, ev, putS, dOk, cv, SV.cs, SV.one, SV.bool?, eqB, Value.oneCell', ldOwn, binInt, binConst, binBool, binStr, isC, TK.agg, rv, rv1, ldV, resOne, resV, Nat.reduceAdd, Nat.reduceMul, Nat.reduceSub, Nat.reduceLT, Nat.reduceLeDiff, Nat.reduceEqDiff, Nat.reduceBEq, reduceIte, reduceCtorEq, eq_self]
      have hrr := repV_append hrV1' hr2
      have hsum2 : tszL (ts.drop 1 ++ ts[0].l) + 1 = tszL ts := by rw [tszL_append]; omega
      refine go_rowcases 1 rfl ?_ ?_
      · intro hv hn hx
        subst hv
        have h0 : ts.drop 1 ++ ts[0].l = [] := by
          apply List.length_eq_zero_iff.1
          simp only [List.length_append, List.length_drop]; omega
        refine go_keep [3, 4] [] ?_
        simp only [so, sq, zy, zz, tyE, SO', SQ', opQ, opStore, opAlloc, ev, putS, dOk, cv, SV.cs, SV.one, SV.bool?, eqB, Value.oneCell', ldOwn, binInt, binConst, binBool, binStr, isC, TK.agg, rv, rv1, ldV, resOne, resV, Nat.reduceAdd, Nat.reduceMul, Nat.reduceSub, Nat.reduceLT, Nat.reduceLeDiff, Nat.reduceEqDiff, Nat.reduceBEq, reduceIte, reduceCtorEq, eq_self]
        rw [h0] at hsum2
        simp only [tszL] at hsum2
        exact ih (257 - (nj + 1)).toNat _ (by omega) ⟨[], nj + 1, none, 0, G', by omega, by omega, rfl, hle, by simp only [tszL]; omega, by simp, .inl rfl, rfl⟩
      · intro g capv hv hcv hxl
        subst hv
        refine go_pubrow 1 rfl (by omega) ?_
        intro G2 (hle2 : Le G' G2) hat2
        simp only [so, sq, zy, zz, tyE, SO', SQ', opQ, opStore, opAlloc, ev, putS, dOk, cv, SV.cs, SV.one, SV.bool?, eqB, Value.oneCell', ldOwn, binInt, binConst, binBool, binStr, isC, TK.agg, rv, rv1, ldV, resOne, resV, Nat.reduceAdd, Nat.reduceMul, Nat.reduceSub, Nat.reduceLT, Nat.reduceLeDiff, Nat.reduceEqDiff, Nat.reduceBEq, reduceIte, reduceCtorEq, eq_self]
        have e : ts.length - 1 + ts[0].l.length = (ts.drop 1 ++ ts[0].l).length := by simp only [List.length_append, List.length_drop]
        rw [e] at hcv ⊢
        refine ih (257 - (nj + 1)).toNat _ (by omega) ⟨ts.drop 1 ++ ts[0].l, nj + 1, some ⟨g, 0, none⟩, capv, G2, by omega, by omega, rfl, hle.trans hle2, by omega, hcv, .inr ⟨g, 0, _, rfl, hat2, repV_mono hle2 ?_⟩, rfl⟩
        exact hrr
    · refine x_ret rfl hQ hmb (by rw [hty]; rfl) rfl ?_; simp only [SV.den, resV]
      rw [cnt_eq x 0 (by omega)]
      have : ¬ nj ≤ 256 := by simpa using g2
      have e : min (0 + (tsz x : Int)) 257 = nj := by omega
      rw [e]
  · refine x_ret rfl hQ hmb (by rw [hty]; rfl) rfl ?_; simp only [SV.den, resV]
    have : ts = [] := by simpa using g1
    subst this
    rw [cnt_eq x 0 (by omega)]
    simp only [tszL] at hsum
    have e : min (0 + (tsz x : Int)) 257 = nj := by omega
    rw [e]

theorem refright_ok (x : VT) (sl : Value) (G : Hp) (hr : x.rep G sl) (hb : tsz x ≤ 2000000) : Pure Try.prog 10 [.agg #[.int .i64 x.k, .int .i64 x.n, sl]] G (fun r _ => r = .bool (vld x)) := by
  obtain ⟨ad, cap, rfl⟩ := VT.rep_slice hr
  refine enterX ty tyok Try.func10 rfl Try.ntmps10 [.a [.v (.int .i64 x.k), .v (.int .i64 x.n), .v _]] (by simp) ?_
  intro C hP hQ hnt hty hmb hmh hro; have hQp := qp_body hQ; simp only [so, sq, zy, zz, tyE, SO', SQ', opQ, opStore, opAlloc, ev, putS, dOk, cv, SV.cs, SV.one, SV.bool?, eqB, Value.oneCell', ldOwn, binInt, binConst, binBool, binStr, isC, TK.agg, rv, rv1, ldV, resOne, resV, Nat.reduceAdd, Nat.reduceMul, Nat.reduceSub, Nat.reduceLT, Nat.reduceLeDiff, Nat.reduceEqDiff, Nat.reduceBEq, reduceIte, reduceCtorEq, eq_self]
  (try (refine runo0 400 hty hnt hmh ?_; simp only [so, sq, zy, zz, tyE, SO', SQ', opQ, opStore, opAlloc, ev, putS, dOk, cv, SV.cs, SV.one, SV.bool?, eqB, Value.oneCell', ldOwn, binInt, binConst, binBool, binStr, isC, TK.agg, rv, rv1, ldV, resOne, resV, Nat.reduceAdd, Nat.reduceMul, Nat.reduceSub, Nat.reduceLT, Nat.reduceLeDiff, Nat.reduceEqDiff, Nat.reduceBEq, reduceIte, reduceCtorEq, eq_self])); (repeat (first | refine x_seq rfl ?_ | refine go_ops ?_ | refine go_blk ?_ | refine x_skip rfl ?_ | refine x_blk rfl rfl ?_ | refine x_exit rfl rfl rfl ?_ | refine x_ift rfl rfl rfl ?_ | refine x_iff rfl rfl rfl ?_ | refine x_label rfl ?_ | ((first | refine x_reg rfl rfl ?_ | (refine go_newx hty hnt hmh rfl rfl ?_; intro _)); refine runo0 400 hty hnt hmh ?_; simp only [so, sq, zy, zz, tyE, SO', SQ', opQ, opStore, opAlloc, ev, putS, dOk, cv, SV.cs, SV.one, SV.bool?, eqB, Value.oneCell', ldOwn, binInt, binConst, binBool, binStr, isC, TK.agg, rv, rv1, ldV, resOne, resV, Nat.reduceAdd, Nat.reduceMul, Nat.reduceSub, Nat.reduceLT, Nat.reduceLeDiff, Nat.reduceEqDiff, Nat.reduceBEq, reduceIte, reduceCtorEq, eq_self])))
  refine go_call (by rw [hnt]; rfl) (by rw [hP]; kernel_rfl) rfl (hP ▸ refsize_ok x _ G hr hb) ?_
  rintro v G1 hle1 rfl
  (try (refine runo0 400 hty hnt hmh ?_; simp only [so, sq, zy, zz, tyE, SO', SQ', opQ, opStore, opAlloc, ev, putS, dOk, cv, SV.cs, SV.one, SV.bool?, eqB, Value.oneCell', ldOwn, binInt, binConst, binBool, binStr, isC, TK.agg, rv, rv1, ldV, resOne, resV, Nat.reduceAdd, Nat.reduceMul, Nat.reduceSub, Nat.reduceLT, Nat.reduceLeDiff, Nat.reduceEqDiff, Nat.reduceBEq, reduceIte, reduceCtorEq, eq_self])); (repeat (first | refine x_seq rfl ?_ | refine go_ops ?_ | refine go_blk ?_ | refine x_skip rfl ?_ | refine x_blk rfl rfl ?_ | refine x_exit rfl rfl rfl ?_ | refine x_ift rfl rfl rfl ?_ | refine x_iff rfl rfl rfl ?_ | refine x_label rfl ?_ | ((first | refine x_reg rfl rfl ?_ | (refine go_newx hty hnt hmh rfl rfl ?_; intro _)); refine runo0 400 hty hnt hmh ?_; simp only [so, sq, zy, zz, tyE, SO', SQ', opQ, opStore, opAlloc, ev, putS, dOk, cv, SV.cs, SV.one, SV.bool?, eqB, Value.oneCell', ldOwn, binInt, binConst, binBool, binStr, isC, TK.agg, rv, rv1, ldV, resOne, resV, Nat.reduceAdd, Nat.reduceMul, Nat.reduceSub, Nat.reduceLT, Nat.reduceLeDiff, Nat.reduceEqDiff, Nat.reduceBEq, reduceIte, reduceCtorEq, eq_self])))
  refine go_gsplit rfl rfl (fun g1 => ?_) (fun g1 => ?_) <;> (simp only [so, sq, zy, zz, tyE, SO', SQ', opQ, opStore, opAlloc, ev, putS, dOk, cv, SV.cs, SV.one, SV.bool?, eqB, Value.oneCell', ldOwn, binInt, binConst, binBool, binStr, isC, TK.agg, rv, rv1, ldV, resOne, resV, Nat.reduceAdd, Nat.reduceMul, Nat.reduceSub, Nat.reduceLT, Nat.reduceLeDiff, Nat.reduceEqDiff, Nat.reduceBEq, reduceIte, reduceCtorEq, eq_self]; ((try (refine runo0 400 hty hnt hmh ?_; simp only [so, sq, zy, zz, tyE, SO', SQ', opQ, opStore, opAlloc, ev, putS, dOk, cv, SV.cs, SV.one, SV.bool?, eqB, Value.oneCell', ldOwn, binInt, binConst, binBool, binStr, isC, TK.agg, rv, rv1, ldV, resOne, resV, Nat.reduceAdd, Nat.reduceMul, Nat.reduceSub, Nat.reduceLT, Nat.reduceLeDiff, Nat.reduceEqDiff, Nat.reduceBEq, reduceIte, reduceCtorEq, eq_self])); (repeat (first | refine x_seq rfl ?_ | refine go_ops ?_ | refine go_blk ?_ | refine x_skip rfl ?_ | refine x_blk rfl rfl ?_ | refine x_exit rfl rfl rfl ?_ | refine x_ift rfl rfl rfl ?_ | refine x_iff rfl rfl rfl ?_ | refine x_label rfl ?_ | ((first | refine x_reg rfl rfl ?_ | (refine go_newx hty hnt hmh rfl rfl ?_; intro _)); refine runo0 400 hty hnt hmh ?_; simp only [so, sq, zy, zz, tyE, SO', SQ', opQ, opStore, opAlloc, ev, putS, dOk, cv, SV.cs, SV.one, SV.bool?, eqB, Value.oneCell', ldOwn, binInt, binConst, binBool, binStr, isC, TK.agg, rv, rv1, ldV, resOne, resV, Nat.reduceAdd, Nat.reduceMul, Nat.reduceSub, Nat.reduceLT, Nat.reduceLeDiff, Nat.reduceEqDiff, Nat.reduceBEq, reduceIte, reduceCtorEq, eq_self])))))
  · refine go_call (by rw [hnt]; rfl) (by rw [hP]; kernel_rfl) rfl (hP ▸ refshapes_ok x _ G1 (VT.rep_mono hle1 hr)) ?_
    rintro v G2 hle2 rfl
    (try (refine runo0 400 hty hnt hmh ?_; simp only [so, sq, zy, zz, tyE, SO', SQ', opQ, opStore, opAlloc, ev, putS, dOk, cv, SV.cs, SV.one, SV.bool?, eqB, Value.oneCell', ldOwn, binInt, binConst, binBool, binStr, isC, TK.agg, rv, rv1, ldV, resOne, resV, Nat.reduceAdd, Nat.reduceMul, Nat.reduceSub, Nat.reduceLT, Nat.reduceLeDiff, Nat.reduceEqDiff, Nat.reduceBEq, reduceIte, reduceCtorEq, eq_self])); (repeat (first | refine x_seq rfl ?_ | refine go_ops ?_ | refine go_blk ?_ | refine x_skip rfl ?_ | refine x_blk rfl rfl ?_ | refine x_exit rfl rfl rfl ?_ | refine x_ift rfl rfl rfl ?_ | refine x_iff rfl rfl rfl ?_ | refine x_label rfl ?_ | ((first | refine x_reg rfl rfl ?_ | (refine go_newx hty hnt hmh rfl rfl ?_; intro _)); refine runo0 400 hty hnt hmh ?_; simp only [so, sq, zy, zz, tyE, SO', SQ', opQ, opStore, opAlloc, ev, putS, dOk, cv, SV.cs, SV.one, SV.bool?, eqB, Value.oneCell', ldOwn, binInt, binConst, binBool, binStr, isC, TK.agg, rv, rv1, ldV, resOne, resV, Nat.reduceAdd, Nat.reduceMul, Nat.reduceSub, Nat.reduceLT, Nat.reduceLeDiff, Nat.reduceEqDiff, Nat.reduceBEq, reduceIte, reduceCtorEq, eq_self])))
    refine x_ret rfl hQ hmb (by rw [hty]; rfl) rfl ?_; simp only [SV.den, resV]
    simp only [vld, sml, g1, decide_true, decide_false, if_true, if_false, Bool.true_and, Bool.false_and, Bool.and_false, Bool.and_true, Bool.false_eq_true, Bool.true_eq_false, reduceIte]
  · refine x_ret rfl hQ hmb (by rw [hty]; rfl) rfl ?_; simp only [SV.den, resV]
    simp only [vld, sml, g1, decide_true, decide_false, if_true, if_false, Bool.true_and, Bool.false_and, Bool.and_false, Bool.and_true, Bool.false_eq_true, Bool.true_eq_false, reduceIte]
theorem refIsEvent_ok (x : VT) (sl : Value) (G : Hp) (hr : x.rep G sl) (hb : tsz x ≤ 2000000) : Pure Try.prog 16 [.agg #[.int .i64 x.k, .int .i64 x.n, sl]] G (fun r _ => r = .bool (vld x && evk x.k)) := by
  obtain ⟨ad, cap, rfl⟩ := VT.rep_slice hr
  refine enterX ty tyok Try.func16 rfl Try.ntmps16 [.a [.v (.int .i64 x.k), .v (.int .i64 x.n), .v _]] (by simp) ?_
  intro C hP hQ hnt hty hmb hmh hro; have hQp := qp_body hQ; simp only [so, sq, zy, zz, tyE, SO', SQ', opQ, opStore, opAlloc, ev, putS, dOk, cv, SV.cs, SV.one, SV.bool?, eqB, Value.oneCell', ldOwn, binInt, binConst, binBool, binStr, isC, TK.agg, rv, rv1, ldV, resOne, resV, Nat.reduceAdd, Nat.reduceMul, Nat.reduceSub, Nat.reduceLT, Nat.reduceLeDiff, Nat.reduceEqDiff, Nat.reduceBEq, reduceIte, reduceCtorEq, eq_self]
  (try (refine runo0 400 hty hnt hmh ?_; simp only [so, sq, zy, zz, tyE, SO', SQ', opQ, opStore, opAlloc, ev, putS, dOk, cv, SV.cs, SV.one, SV.bool?, eqB, Value.oneCell', ldOwn, binInt, binConst, binBool, binStr, isC, TK.agg, rv, rv1, ldV, resOne, resV, Nat.reduceAdd, Nat.reduceMul, Nat.reduceSub, Nat.reduceLT, Nat.reduceLeDiff, Nat.reduceEqDiff, Nat.reduceBEq, reduceIte, reduceCtorEq, eq_self])); (repeat (first | refine x_seq rfl ?_ | refine go_ops ?_ | refine go_blk ?_ | refine x_skip rfl ?_ | refine x_blk rfl rfl ?_ | refine x_exit rfl rfl rfl ?_ | refine x_ift rfl rfl rfl ?_ | refine x_iff rfl rfl rfl ?_ | refine x_label rfl ?_ | ((first | refine x_reg rfl rfl ?_ | (refine go_newx hty hnt hmh rfl rfl ?_; intro _)); refine runo0 400 hty hnt hmh ?_; simp only [so, sq, zy, zz, tyE, SO', SQ', opQ, opStore, opAlloc, ev, putS, dOk, cv, SV.cs, SV.one, SV.bool?, eqB, Value.oneCell', ldOwn, binInt, binConst, binBool, binStr, isC, TK.agg, rv, rv1, ldV, resOne, resV, Nat.reduceAdd, Nat.reduceMul, Nat.reduceSub, Nat.reduceLT, Nat.reduceLeDiff, Nat.reduceEqDiff, Nat.reduceBEq, reduceIte, reduceCtorEq, eq_self])))
  refine go_call (by rw [hnt]; rfl) (by rw [hP]; kernel_rfl) rfl (hP ▸ refright_ok x _ G hr hb) ?_
  rintro v G1 hle1 rfl
  (try (refine runo0 400 hty hnt hmh ?_; simp only [so, sq, zy, zz, tyE, SO', SQ', opQ, opStore, opAlloc, ev, putS, dOk, cv, SV.cs, SV.one, SV.bool?, eqB, Value.oneCell', ldOwn, binInt, binConst, binBool, binStr, isC, TK.agg, rv, rv1, ldV, resOne, resV, Nat.reduceAdd, Nat.reduceMul, Nat.reduceSub, Nat.reduceLT, Nat.reduceLeDiff, Nat.reduceEqDiff, Nat.reduceBEq, reduceIte, reduceCtorEq, eq_self])); (repeat (first | refine x_seq rfl ?_ | refine go_ops ?_ | refine go_blk ?_ | refine x_skip rfl ?_ | refine x_blk rfl rfl ?_ | refine x_exit rfl rfl rfl ?_ | refine x_ift rfl rfl rfl ?_ | refine x_iff rfl rfl rfl ?_ | refine x_label rfl ?_ | ((first | refine x_reg rfl rfl ?_ | (refine go_newx hty hnt hmh rfl rfl ?_; intro _)); refine runo0 400 hty hnt hmh ?_; simp only [so, sq, zy, zz, tyE, SO', SQ', opQ, opStore, opAlloc, ev, putS, dOk, cv, SV.cs, SV.one, SV.bool?, eqB, Value.oneCell', ldOwn, binInt, binConst, binBool, binStr, isC, TK.agg, rv, rv1, ldV, resOne, resV, Nat.reduceAdd, Nat.reduceMul, Nat.reduceSub, Nat.reduceLT, Nat.reduceLeDiff, Nat.reduceEqDiff, Nat.reduceBEq, reduceIte, reduceCtorEq, eq_self])))
  refine go_gsplit rfl rfl (fun g1 => ?_) (fun g1 => ?_) <;> (simp only [so, sq, zy, zz, tyE, SO', SQ', opQ, opStore, opAlloc, ev, putS, dOk, cv, SV.cs, SV.one, SV.bool?, eqB, Value.oneCell', ldOwn, binInt, binConst, binBool, binStr, isC, TK.agg, rv, rv1, ldV, resOne, resV, Nat.reduceAdd, Nat.reduceMul, Nat.reduceSub, Nat.reduceLT, Nat.reduceLeDiff, Nat.reduceEqDiff, Nat.reduceBEq, reduceIte, reduceCtorEq, eq_self]; ((try (refine runo0 400 hty hnt hmh ?_; simp only [so, sq, zy, zz, tyE, SO', SQ', opQ, opStore, opAlloc, ev, putS, dOk, cv, SV.cs, SV.one, SV.bool?, eqB, Value.oneCell', ldOwn, binInt, binConst, binBool, binStr, isC, TK.agg, rv, rv1, ldV, resOne, resV, Nat.reduceAdd, Nat.reduceMul, Nat.reduceSub, Nat.reduceLT, Nat.reduceLeDiff, Nat.reduceEqDiff, Nat.reduceBEq, reduceIte, reduceCtorEq, eq_self])); (repeat (first | refine x_seq rfl ?_ | refine go_ops ?_ | refine go_blk ?_ | refine x_skip rfl ?_ | refine x_blk rfl rfl ?_ | refine x_exit rfl rfl rfl ?_ | refine x_ift rfl rfl rfl ?_ | refine x_iff rfl rfl rfl ?_ | refine x_label rfl ?_ | ((first | refine x_reg rfl rfl ?_ | (refine go_newx hty hnt hmh rfl rfl ?_; intro _)); refine runo0 400 hty hnt hmh ?_; simp only [so, sq, zy, zz, tyE, SO', SQ', opQ, opStore, opAlloc, ev, putS, dOk, cv, SV.cs, SV.one, SV.bool?, eqB, Value.oneCell', ldOwn, binInt, binConst, binBool, binStr, isC, TK.agg, rv, rv1, ldV, resOne, resV, Nat.reduceAdd, Nat.reduceMul, Nat.reduceSub, Nat.reduceLT, Nat.reduceLeDiff, Nat.reduceEqDiff, Nat.reduceBEq, reduceIte, reduceCtorEq, eq_self])))))
  · refine go_call (by rw [hnt]; rfl) (by rw [hP]; kernel_rfl) rfl (hP ▸ refevent_ok x.k G1) ?_
    rintro v G2 hle2 rfl
    (try (refine runo0 400 hty hnt hmh ?_; simp only [so, sq, zy, zz, tyE, SO', SQ', opQ, opStore, opAlloc, ev, putS, dOk, cv, SV.cs, SV.one, SV.bool?, eqB, Value.oneCell', ldOwn, binInt, binConst, binBool, binStr, isC, TK.agg, rv, rv1, ldV, resOne, resV, Nat.reduceAdd, Nat.reduceMul, Nat.reduceSub, Nat.reduceLT, Nat.reduceLeDiff, Nat.reduceEqDiff, Nat.reduceBEq, reduceIte, reduceCtorEq, eq_self])); (repeat (first | refine x_seq rfl ?_ | refine go_ops ?_ | refine go_blk ?_ | refine x_skip rfl ?_ | refine x_blk rfl rfl ?_ | refine x_exit rfl rfl rfl ?_ | refine x_ift rfl rfl rfl ?_ | refine x_iff rfl rfl rfl ?_ | refine x_label rfl ?_ | ((first | refine x_reg rfl rfl ?_ | (refine go_newx hty hnt hmh rfl rfl ?_; intro _)); refine runo0 400 hty hnt hmh ?_; simp only [so, sq, zy, zz, tyE, SO', SQ', opQ, opStore, opAlloc, ev, putS, dOk, cv, SV.cs, SV.one, SV.bool?, eqB, Value.oneCell', ldOwn, binInt, binConst, binBool, binStr, isC, TK.agg, rv, rv1, ldV, resOne, resV, Nat.reduceAdd, Nat.reduceMul, Nat.reduceSub, Nat.reduceLT, Nat.reduceLeDiff, Nat.reduceEqDiff, Nat.reduceBEq, reduceIte, reduceCtorEq, eq_self])))
    refine x_ret rfl hQ hmb (by rw [hty]; rfl) rfl ?_; simp only [SV.den, resV]
    simp only [g1, decide_true, decide_false, if_true, if_false, Bool.true_and, Bool.false_and, Bool.and_false, Bool.and_true, Bool.false_eq_true, Bool.true_eq_false, reduceIte]
  · refine x_ret rfl hQ hmb (by rw [hty]; rfl) rfl ?_; simp only [SV.den, resV]
    simp only [g1, decide_true, decide_false, if_true, if_false, Bool.true_and, Bool.false_and, Bool.and_false, Bool.and_true, Bool.false_eq_true, Bool.true_eq_false, reduceIte]
end Go.Proofs.Ytimoldnagdlbcaa
