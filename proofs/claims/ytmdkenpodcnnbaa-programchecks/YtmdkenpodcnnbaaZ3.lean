/-
  (*view).right: is a node not wrong? The rows of the view are written.
-/
import Derived.Test.YtmdkenpodcnnbaaZ2
namespace Go.Proofs.Ytmdkenpodcnnbaa
open Go.Sx renaming SO' → zs1, SQ' → zs2, opQ → zs3, opStore → zs4, opAlloc → zs5, putS → zs6, ldOwn → zs7, binInt → zs8, binConst → zs9, binBool → zt1, binStr → zt2, resOne → zt3, resV → zt4
open Go.Sx.SV renaming cs → zu1, one → zu2, bool? → zu3
open Nat renaming reduceAdd → zn1, reduceMul → zn2, reduceSub → zn3, reduceLT → zn4, reduceLeDiff → zn5, reduceEqDiff → zn6, reduceBEq → zn7
set_option linter.unusedSimpArgs false
set_option linter.unusedVariables false
open Go.Sx
set_option maxHeartbeats 4000000
def fp (x : Int × Int) : Value := .int .i64 x.1
def fd (x : Int × Int) : Value := .int .i64 x.2
theorem ldp {A : Pl} {i off : Nat} (h : i < A.length) (ho : off = i) : ldV false (((A.map fp).drop off).take 1) = .int .i64 (pa A i) := by rw [ld1 h ho, pa_eq h]; rfl
theorem ldd {A : Pl} {i off : Nat} (h : i < A.length) (ho : off = i) : ldV false (((A.map fd).drop off).take 1) = .int .i64 (de A i) := by rw [ld1 h ho, de_eq h]; rfl
/-- The rows of a view. -/
def rows (n b1 b2 c1 c2 : Nat) (A : Pl) : Lds :=
  [(b1, .row (.slice (some ⟨b1, 0, none⟩) n c1) 3 1 n (A.map fp)), (b2, .row (.slice (some ⟨b2, 0, none⟩) n c2) 3 1 n (A.map fd))]
theorem right_ok (f : Fu) (i n : Nat) (A : Pl) (ns : Value) (bv b1 b2 c1 c2 : Nat) (G : Hp) (hns : rN.S G f.nodes ns) (hfn : f.nodes.length = n) (h200 : n ≤ 200) (hi : i < f.nodes.length) (hA : okA A) (hl : A.length = n)
    (hv : At G bv 0 [.int .i64 f.params, ns, .slice (some ⟨b1, 0, none⟩) n c1, .slice (some ⟨b2, 0, none⟩) n c2]) :
    PureW Try.prog 53 [.pointer (some ⟨bv, 0, none⟩), .int .i64 i] G (rows n b1 b2 c1 c2 A)
      (fun r _ ow => r = .bool (nodeStep n i f.nodes[i] A).isSome ∧ ∃ B, B.length = n ∧ ow = rows n b1 b2 c1 c2 B ∧ ∀ B', nodeStep n i f.nodes[i] A = some B' → B = B') := by
  have hv0 : At G bv 1 [ns] := by simpa using hv.sub 1 1 (by simp)
  have hv1 : At G bv 2 [.slice (some ⟨b1, 0, none⟩) n c1] := by simpa using hv.sub 2 1 (by simp)
  have hv2 : At G bv 3 [.slice (some ⟨b2, 0, none⟩) n c2] := by simpa using hv.sub 3 1 (by simp)
  obtain ⟨bn, offn, capn, cn, rfl, hatn, sl, rfl, hop, hnn, hsl⟩ := Rp.S_get hns hi
  rw [hfn] at hv0
  obtain ⟨h63, ad, cap, rfl, hsrc⟩ := hsl
  have hatn' : At G bn (offn + i * 3) [.int .i64 f.nodes[i].op, .int .i64 f.nodes[i].n, .slice ad f.nodes[i].l.length cap] := by simpa [rN] using hatn
  clear hatn hns
  generalize hx : f.nodes[i] = x at *
  have hi2 : i < n := by omega
  refine enterW ty tyok Try.func53 rfl Try.ntmps53 [.v (.pointer (some ⟨bv, 0, none⟩)), .v (.int .i64 i)] (by simp) (mh := 2) rfl ?_
  intro C hP hQ hnt hty hmb hmh hro hG0 hmub; have hQp := qp_body hQ; simp only [so, sq, zy, zz, tyE, zs1, zs2, zs3, zs4, zs5, ev, zs6, dOk, cv, zu1, zu2, zu3, eqB, Value.oneCell', zs7, zs8, zs9, zt1, zt2, isC, TK.agg, rv, rv1, ldV, zt3, zt4, zn1, zn2, zn3, zn4, zn5, zn6, zn7, reduceIte, reduceCtorEq, eq_self]
  simp only [rows, enumO]
  (try (refine runo0 400 hty hnt hmh ?_; simp only [so, sq, zy, zz, tyE, zs1, zs2, zs3, zs4, zs5, ev, zs6, dOk, cv, zu1, zu2, zu3, eqB, Value.oneCell', zs7, zs8, zs9, zt1, zt2, isC, TK.agg, rv, rv1, ldV, zt3, zt4, zn1, zn2, zn3, zn4, zn5, zn6, zn7, reduceIte, reduceCtorEq, eq_self])); (repeat (first | refine x_seq rfl ?_ | refine go_ops ?_ | refine go_blk ?_ | refine x_skip rfl ?_ | refine x_blk rfl rfl ?_ | refine x_exit rfl rfl rfl ?_ | refine x_ift rfl rfl rfl ?_ | refine x_iff rfl rfl rfl ?_ | refine x_label rfl ?_ | ((first | refine x_reg rfl rfl ?_ | (refine go_newx hty hnt hmh rfl rfl ?_; intro _)); refine runo0 400 hty hnt hmh ?_; simp only [so, sq, zy, zz, tyE, zs1, zs2, zs3, zs4, zs5, ev, zs6, dOk, cv, zu1, zu2, zu3, eqB, Value.oneCell', zs7, zs8, zs9, zt1, zt2, isC, TK.agg, rv, rv1, ldV, zt3, zt4, zn1, zn2, zn3, zn4, zn5, zn6, zn7, reduceIte, reduceCtorEq, eq_self])))
  have ret : ∀ B : Pl, B.length = n → nodeStep n i x A = none → Value.bool false = Value.bool (nodeStep n i x A).isSome ∧ ∃ B', B'.length = n ∧ rows n b1 b2 c1 c2 B = rows n b1 b2 c1 c2 B' ∧ ∀ B'', nodeStep n i x A = some B'' → B' = B'' :=
    fun B hB h => ⟨by rw [h]; rfl, B, hB, rfl, fun B'' h' => by rw [h] at h'; cases h'⟩
  refine cut_tail 2 (fun s' => ¬ (0 < i ∧ pa A i < 0) ∧ ¬ 64 < de A i ∧ s' = ⟨[(0, .v (.pointer (some ⟨bv, 0, none⟩))), (1, .v (.int .i64 i)), (4, .b false)], [(0, b1, .row (.slice (some ⟨b1, 0, none⟩) n c1) 3 1 n (A.map fp)), (1, b2, .row (.slice (some ⟨b2, 0, none⟩) n c2) 3 1 n (A.map fd))], G, []⟩) ?_ ?_
  rotate_left
  · intro key
    simp only [List.drop_succ_cons, List.drop_zero] at key
    refine go_gsplit rfl rfl (fun h1 => ?_) (fun h1 => ?_) <;> (simp only [so, sq, zy, zz, tyE, zs1, zs2, zs3, zs4, zs5, ev, zs6, dOk, cv, zu1, zu2, zu3, eqB, Value.oneCell', zs7, zs8, zs9, zt1, zt2, isC, TK.agg, rv, rv1, ldV, zt3, zt4, zn1, zn2, zn3, zn4, zn5, zn6, zn7, reduceIte, reduceCtorEq, eq_self]; ((try (refine runo0 400 hty hnt hmh ?_; simp only [so, sq, zy, zz, tyE, zs1, zs2, zs3, zs4, zs5, ev, zs6, dOk, cv, zu1, zu2, zu3, eqB, Value.oneCell', zs7, zs8, zs9, zt1, zt2, isC, TK.agg, rv, rv1, ldV, zt3, zt4, zn1, zn2, zn3, zn4, zn5, zn6, zn7, reduceIte, reduceCtorEq, eq_self])); (repeat (first | refine x_seq rfl ?_ | refine go_ops ?_ | refine go_blk ?_ | refine x_skip rfl ?_ | refine x_blk rfl rfl ?_ | refine x_exit rfl rfl rfl ?_ | refine x_ift rfl rfl rfl ?_ | refine x_iff rfl rfl rfl ?_ | refine x_label rfl ?_ | ((first | refine x_reg rfl rfl ?_ | (refine go_newx hty hnt hmh rfl rfl ?_; intro _)); refine runo0 400 hty hnt hmh ?_; simp only [so, sq, zy, zz, tyE, zs1, zs2, zs3, zs4, zs5, ev, zs6, dOk, cv, zu1, zu2, zu3, eqB, Value.oneCell', zs7, zs8, zs9, zt1, zt2, isC, TK.agg, rv, rv1, ldV, zt3, zt4, zn1, zn2, zn3, zn4, zn5, zn6, zn7, reduceIte, reduceCtorEq, eq_self])))))
    · have h1' : 0 < i := by simpa using h1
      refine go_q (by rw [hnt]; rfl) (quiet_load (by rw [hty]; rfl) rfl (by simp [TK.agg]) hv1 rfl) ?_; (try (refine runo0 400 hty hnt hmh ?_; simp only [so, sq, zy, zz, tyE, zs1, zs2, zs3, zs4, zs5, ev, zs6, dOk, cv, zu1, zu2, zu3, eqB, Value.oneCell', zs7, zs8, zs9, zt1, zt2, isC, TK.agg, rv, rv1, ldV, zt3, zt4, zn1, zn2, zn3, zn4, zn5, zn6, zn7, reduceIte, reduceCtorEq, eq_self])); (repeat (first | refine x_seq rfl ?_ | refine go_ops ?_ | refine go_blk ?_ | refine x_skip rfl ?_ | refine x_blk rfl rfl ?_ | refine x_exit rfl rfl rfl ?_ | refine x_ift rfl rfl rfl ?_ | refine x_iff rfl rfl rfl ?_ | refine x_label rfl ?_ | ((first | refine x_reg rfl rfl ?_ | (refine go_newx hty hnt hmh rfl rfl ?_; intro _)); refine runo0 400 hty hnt hmh ?_; simp only [so, sq, zy, zz, tyE, zs1, zs2, zs3, zs4, zs5, ev, zs6, dOk, cv, zu1, zu2, zu3, eqB, Value.oneCell', zs7, zs8, zs9, zt1, zt2, isC, TK.agg, rv, rv1, ldV, zt3, zt4, zn1, zn2, zn3, zn4, zn5, zn6, zn7, reduceIte, reduceCtorEq, eq_self]))); refine go_q (by rw [hnt]; rfl) (quiet_index (by rw [hty]; rfl) (by rw [hty]; rfl) rfl rfl rfl (by omega) (by omega)) ?_; (try (refine runo0 400 hty hnt hmh ?_; simp only [so, sq, zy, zz, tyE, zs1, zs2, zs3, zs4, zs5, ev, zs6, dOk, cv, zu1, zu2, zu3, eqB, Value.oneCell', zs7, zs8, zs9, zt1, zt2, isC, TK.agg, rv, rv1, ldV, zt3, zt4, zn1, zn2, zn3, zn4, zn5, zn6, zn7, reduceIte, reduceCtorEq, eq_self])); (repeat (first | refine x_seq rfl ?_ | refine go_ops ?_ | refine go_blk ?_ | refine x_skip rfl ?_ | refine x_blk rfl rfl ?_ | refine x_exit rfl rfl rfl ?_ | refine x_ift rfl rfl rfl ?_ | refine x_iff rfl rfl rfl ?_ | refine x_label rfl ?_ | ((first | refine x_reg rfl rfl ?_ | (refine go_newx hty hnt hmh rfl rfl ?_; intro _)); refine runo0 400 hty hnt hmh ?_; simp only [so, sq, zy, zz, tyE, zs1, zs2, zs3, zs4, zs5, ev, zs6, dOk, cv, zu1, zu2, zu3, eqB, Value.oneCell', zs7, zs8, zs9, zt1, zt2, isC, TK.agg, rv, rv1, ldV, zt3, zt4, zn1, zn2, zn3, zn4, zn5, zn6, zn7, reduceIte, reduceCtorEq, eq_self]))); refine go_q (v := .int .i64 (pa A i)) (by rw [hnt]; rfl) ((quiet_loadR (k := 0) (by rw [hty]; rfl) rfl (by simp [TK.agg]) rfl (by simp; omega)).cast (by exact ldp (by omega) (by simp))) ?_; (try (refine runo0 400 hty hnt hmh ?_; simp only [so, sq, zy, zz, tyE, zs1, zs2, zs3, zs4, zs5, ev, zs6, dOk, cv, zu1, zu2, zu3, eqB, Value.oneCell', zs7, zs8, zs9, zt1, zt2, isC, TK.agg, rv, rv1, ldV, zt3, zt4, zn1, zn2, zn3, zn4, zn5, zn6, zn7, reduceIte, reduceCtorEq, eq_self])); (repeat (first | refine x_seq rfl ?_ | refine go_ops ?_ | refine go_blk ?_ | refine x_skip rfl ?_ | refine x_blk rfl rfl ?_ | refine x_exit rfl rfl rfl ?_ | refine x_ift rfl rfl rfl ?_ | refine x_iff rfl rfl rfl ?_ | refine x_label rfl ?_ | ((first | refine x_reg rfl rfl ?_ | (refine go_newx hty hnt hmh rfl rfl ?_; intro _)); refine runo0 400 hty hnt hmh ?_; simp only [so, sq, zy, zz, tyE, zs1, zs2, zs3, zs4, zs5, ev, zs6, dOk, cv, zu1, zu2, zu3, eqB, Value.oneCell', zs7, zs8, zs9, zt1, zt2, isC, TK.agg, rv, rv1, ldV, zt3, zt4, zn1, zn2, zn3, zn4, zn5, zn6, zn7, reduceIte, reduceCtorEq, eq_self])))
      refine go_gsplit rfl rfl (fun h2 => ?_) (fun h2 => ?_) <;> (simp only [so, sq, zy, zz, tyE, zs1, zs2, zs3, zs4, zs5, ev, zs6, dOk, cv, zu1, zu2, zu3, eqB, Value.oneCell', zs7, zs8, zs9, zt1, zt2, isC, TK.agg, rv, rv1, ldV, zt3, zt4, zn1, zn2, zn3, zn4, zn5, zn6, zn7, reduceIte, reduceCtorEq, eq_self]; ((try (refine runo0 400 hty hnt hmh ?_; simp only [so, sq, zy, zz, tyE, zs1, zs2, zs3, zs4, zs5, ev, zs6, dOk, cv, zu1, zu2, zu3, eqB, Value.oneCell', zs7, zs8, zs9, zt1, zt2, isC, TK.agg, rv, rv1, ldV, zt3, zt4, zn1, zn2, zn3, zn4, zn5, zn6, zn7, reduceIte, reduceCtorEq, eq_self])); (repeat (first | refine x_seq rfl ?_ | refine go_ops ?_ | refine go_blk ?_ | refine x_skip rfl ?_ | refine x_blk rfl rfl ?_ | refine x_exit rfl rfl rfl ?_ | refine x_ift rfl rfl rfl ?_ | refine x_iff rfl rfl rfl ?_ | refine x_label rfl ?_ | ((first | refine x_reg rfl rfl ?_ | (refine go_newx hty hnt hmh rfl rfl ?_; intro _)); refine runo0 400 hty hnt hmh ?_; simp only [so, sq, zy, zz, tyE, zs1, zs2, zs3, zs4, zs5, ev, zs6, dOk, cv, zu1, zu2, zu3, eqB, Value.oneCell', zs7, zs8, zs9, zt1, zt2, isC, TK.agg, rv, rv1, ldV, zt3, zt4, zn1, zn2, zn3, zn4, zn5, zn6, zn7, reduceIte, reduceCtorEq, eq_self])))))
      · refine x_retW rfl hQ hmb hmh hG0 hmub rfl rfl (by rw [hty]; simp only [so, sq, zy, zz, tyE, zs1, zs2, zs3, zs4, zs5, ev, zs6, dOk, cv, zu1, zu2, zu3, eqB, Value.oneCell', zs7, zs8, zs9, zt1, zt2, isC, TK.agg, rv, rv1, ldV, zt3, zt4, zn1, zn2, zn3, zn4, zn5, zn6, zn7, reduceIte, reduceCtorEq, eq_self]; try rfl) rfl rfl (by simp only [enumO]; exact (by repeat (first | exact plain_nil | refine plain_cons (fun _ h => h) ?_))) ?_; simp only [SV.den, resV, dens]
        exact ret A hl (if_pos (.inl ⟨h1', by simpa using h2⟩))
      · refine go_q (by rw [hnt]; rfl) (quiet_load (by rw [hty]; rfl) rfl (by simp [TK.agg]) hv2 rfl) ?_; (try (refine runo0 400 hty hnt hmh ?_; simp only [so, sq, zy, zz, tyE, zs1, zs2, zs3, zs4, zs5, ev, zs6, dOk, cv, zu1, zu2, zu3, eqB, Value.oneCell', zs7, zs8, zs9, zt1, zt2, isC, TK.agg, rv, rv1, ldV, zt3, zt4, zn1, zn2, zn3, zn4, zn5, zn6, zn7, reduceIte, reduceCtorEq, eq_self])); (repeat (first | refine x_seq rfl ?_ | refine go_ops ?_ | refine go_blk ?_ | refine x_skip rfl ?_ | refine x_blk rfl rfl ?_ | refine x_exit rfl rfl rfl ?_ | refine x_ift rfl rfl rfl ?_ | refine x_iff rfl rfl rfl ?_ | refine x_label rfl ?_ | ((first | refine x_reg rfl rfl ?_ | (refine go_newx hty hnt hmh rfl rfl ?_; intro _)); refine runo0 400 hty hnt hmh ?_; simp only [so, sq, zy, zz, tyE, zs1, zs2, zs3, zs4, zs5, ev, zs6, dOk, cv, zu1, zu2, zu3, eqB, Value.oneCell', zs7, zs8, zs9, zt1, zt2, isC, TK.agg, rv, rv1, ldV, zt3, zt4, zn1, zn2, zn3, zn4, zn5, zn6, zn7, reduceIte, reduceCtorEq, eq_self]))); refine go_q (by rw [hnt]; rfl) (quiet_index (by rw [hty]; rfl) (by rw [hty]; rfl) rfl rfl rfl (by omega) (by omega)) ?_; (try (refine runo0 400 hty hnt hmh ?_; simp only [so, sq, zy, zz, tyE, zs1, zs2, zs3, zs4, zs5, ev, zs6, dOk, cv, zu1, zu2, zu3, eqB, Value.oneCell', zs7, zs8, zs9, zt1, zt2, isC, TK.agg, rv, rv1, ldV, zt3, zt4, zn1, zn2, zn3, zn4, zn5, zn6, zn7, reduceIte, reduceCtorEq, eq_self])); (repeat (first | refine x_seq rfl ?_ | refine go_ops ?_ | refine go_blk ?_ | refine x_skip rfl ?_ | refine x_blk rfl rfl ?_ | refine x_exit rfl rfl rfl ?_ | refine x_ift rfl rfl rfl ?_ | refine x_iff rfl rfl rfl ?_ | refine x_label rfl ?_ | ((first | refine x_reg rfl rfl ?_ | (refine go_newx hty hnt hmh rfl rfl ?_; intro _)); refine runo0 400 hty hnt hmh ?_; simp only [so, sq, zy, zz, tyE, zs1, zs2, zs3, zs4, zs5, ev, zs6, dOk, cv, zu1, zu2, zu3, eqB, Value.oneCell', zs7, zs8, zs9, zt1, zt2, isC, TK.agg, rv, rv1, ldV, zt3, zt4, zn1, zn2, zn3, zn4, zn5, zn6, zn7, reduceIte, reduceCtorEq, eq_self]))); refine go_q (v := .int .i64 (de A i)) (by rw [hnt]; rfl) ((quiet_loadR (k := 1) (by rw [hty]; rfl) rfl (by simp [TK.agg]) rfl (by simp; omega)).cast (by exact ldd (by omega) (by simp))) ?_; (try (refine runo0 400 hty hnt hmh ?_; simp only [so, sq, zy, zz, tyE, zs1, zs2, zs3, zs4, zs5, ev, zs6, dOk, cv, zu1, zu2, zu3, eqB, Value.oneCell', zs7, zs8, zs9, zt1, zt2, isC, TK.agg, rv, rv1, ldV, zt3, zt4, zn1, zn2, zn3, zn4, zn5, zn6, zn7, reduceIte, reduceCtorEq, eq_self])); (repeat (first | refine x_seq rfl ?_ | refine go_ops ?_ | refine go_blk ?_ | refine x_skip rfl ?_ | refine x_blk rfl rfl ?_ | refine x_exit rfl rfl rfl ?_ | refine x_ift rfl rfl rfl ?_ | refine x_iff rfl rfl rfl ?_ | refine x_label rfl ?_ | ((first | refine x_reg rfl rfl ?_ | (refine go_newx hty hnt hmh rfl rfl ?_; intro _)); refine runo0 400 hty hnt hmh ?_; simp only [so, sq, zy, zz, tyE, zs1, zs2, zs3, zs4, zs5, ev, zs6, dOk, cv, zu1, zu2, zu3, eqB, Value.oneCell', zs7, zs8, zs9, zt1, zt2, isC, TK.agg, rv, rv1, ldV, zt3, zt4, zn1, zn2, zn3, zn4, zn5, zn6, zn7, reduceIte, reduceCtorEq, eq_self])))
        refine x_if rfl rfl rfl rfl (fun h3 => ?_) (fun h3 => ?_)
        · (try (refine runo0 400 hty hnt hmh ?_; simp only [so, sq, zy, zz, tyE, zs1, zs2, zs3, zs4, zs5, ev, zs6, dOk, cv, zu1, zu2, zu3, eqB, Value.oneCell', zs7, zs8, zs9, zt1, zt2, isC, TK.agg, rv, rv1, ldV, zt3, zt4, zn1, zn2, zn3, zn4, zn5, zn6, zn7, reduceIte, reduceCtorEq, eq_self])); (repeat (first | refine x_seq rfl ?_ | refine go_ops ?_ | refine go_blk ?_ | refine x_skip rfl ?_ | refine x_blk rfl rfl ?_ | refine x_exit rfl rfl rfl ?_ | refine x_ift rfl rfl rfl ?_ | refine x_iff rfl rfl rfl ?_ | refine x_label rfl ?_ | ((first | refine x_reg rfl rfl ?_ | (refine go_newx hty hnt hmh rfl rfl ?_; intro _)); refine runo0 400 hty hnt hmh ?_; simp only [so, sq, zy, zz, tyE, zs1, zs2, zs3, zs4, zs5, ev, zs6, dOk, cv, zu1, zu2, zu3, eqB, Value.oneCell', zs7, zs8, zs9, zt1, zt2, isC, TK.agg, rv, rv1, ldV, zt3, zt4, zn1, zn2, zn3, zn4, zn5, zn6, zn7, reduceIte, reduceCtorEq, eq_self])))
          refine x_retW rfl hQ hmb hmh hG0 hmub rfl rfl (by rw [hty]; simp only [so, sq, zy, zz, tyE, zs1, zs2, zs3, zs4, zs5, ev, zs6, dOk, cv, zu1, zu2, zu3, eqB, Value.oneCell', zs7, zs8, zs9, zt1, zt2, isC, TK.agg, rv, rv1, ldV, zt3, zt4, zn1, zn2, zn3, zn4, zn5, zn6, zn7, reduceIte, reduceCtorEq, eq_self]; try rfl) rfl rfl (by simp only [enumO]; exact (by repeat (first | exact plain_nil | refine plain_cons (fun _ h => h) ?_))) ?_; simp only [SV.den, resV, dens]
          exact ret A hl (if_pos (.inr (.inl (by simpa using h3))))
        · refine x_skip rfl ?_
          refine go_keep [0, 1, 4] [0, 1] ?_
          simp only [so, sq, zy, zz, tyE, zs1, zs2, zs3, zs4, zs5, ev, zs6, dOk, cv, zu1, zu2, zu3, eqB, Value.oneCell', zs7, zs8, zs9, zt1, zt2, isC, TK.agg, rv, rv1, ldV, zt3, zt4, zn1, zn2, zn3, zn4, zn5, zn6, zn7, reduceIte, reduceCtorEq, eq_self]
          exact key _ ⟨by simp at h2; omega, by simp at h3; omega, rfl⟩
    · have h1' : ¬ 0 < i := by simpa using h1
      refine go_q (by rw [hnt]; rfl) (quiet_load (by rw [hty]; rfl) rfl (by simp [TK.agg]) hv2 rfl) ?_; (try (refine runo0 400 hty hnt hmh ?_; simp only [so, sq, zy, zz, tyE, zs1, zs2, zs3, zs4, zs5, ev, zs6, dOk, cv, zu1, zu2, zu3, eqB, Value.oneCell', zs7, zs8, zs9, zt1, zt2, isC, TK.agg, rv, rv1, ldV, zt3, zt4, zn1, zn2, zn3, zn4, zn5, zn6, zn7, reduceIte, reduceCtorEq, eq_self])); (repeat (first | refine x_seq rfl ?_ | refine go_ops ?_ | refine go_blk ?_ | refine x_skip rfl ?_ | refine x_blk rfl rfl ?_ | refine x_exit rfl rfl rfl ?_ | refine x_ift rfl rfl rfl ?_ | refine x_iff rfl rfl rfl ?_ | refine x_label rfl ?_ | ((first | refine x_reg rfl rfl ?_ | (refine go_newx hty hnt hmh rfl rfl ?_; intro _)); refine runo0 400 hty hnt hmh ?_; simp only [so, sq, zy, zz, tyE, zs1, zs2, zs3, zs4, zs5, ev, zs6, dOk, cv, zu1, zu2, zu3, eqB, Value.oneCell', zs7, zs8, zs9, zt1, zt2, isC, TK.agg, rv, rv1, ldV, zt3, zt4, zn1, zn2, zn3, zn4, zn5, zn6, zn7, reduceIte, reduceCtorEq, eq_self]))); refine go_q (by rw [hnt]; rfl) (quiet_index (by rw [hty]; rfl) (by rw [hty]; rfl) rfl rfl rfl (by omega) (by omega)) ?_; (try (refine runo0 400 hty hnt hmh ?_; simp only [so, sq, zy, zz, tyE, zs1, zs2, zs3, zs4, zs5, ev, zs6, dOk, cv, zu1, zu2, zu3, eqB, Value.oneCell', zs7, zs8, zs9, zt1, zt2, isC, TK.agg, rv, rv1, ldV, zt3, zt4, zn1, zn2, zn3, zn4, zn5, zn6, zn7, reduceIte, reduceCtorEq, eq_self])); (repeat (first | refine x_seq rfl ?_ | refine go_ops ?_ | refine go_blk ?_ | refine x_skip rfl ?_ | refine x_blk rfl rfl ?_ | refine x_exit rfl rfl rfl ?_ | refine x_ift rfl rfl rfl ?_ | refine x_iff rfl rfl rfl ?_ | refine x_label rfl ?_ | ((first | refine x_reg rfl rfl ?_ | (refine go_newx hty hnt hmh rfl rfl ?_; intro _)); refine runo0 400 hty hnt hmh ?_; simp only [so, sq, zy, zz, tyE, zs1, zs2, zs3, zs4, zs5, ev, zs6, dOk, cv, zu1, zu2, zu3, eqB, Value.oneCell', zs7, zs8, zs9, zt1, zt2, isC, TK.agg, rv, rv1, ldV, zt3, zt4, zn1, zn2, zn3, zn4, zn5, zn6, zn7, reduceIte, reduceCtorEq, eq_self]))); refine go_q (v := .int .i64 (de A i)) (by rw [hnt]; rfl) ((quiet_loadR (k := 1) (by rw [hty]; rfl) rfl (by simp [TK.agg]) rfl (by simp; omega)).cast (by exact ldd (by omega) (by simp))) ?_; (try (refine runo0 400 hty hnt hmh ?_; simp only [so, sq, zy, zz, tyE, zs1, zs2, zs3, zs4, zs5, ev, zs6, dOk, cv, zu1, zu2, zu3, eqB, Value.oneCell', zs7, zs8, zs9, zt1, zt2, isC, TK.agg, rv, rv1, ldV, zt3, zt4, zn1, zn2, zn3, zn4, zn5, zn6, zn7, reduceIte, reduceCtorEq, eq_self])); (repeat (first | refine x_seq rfl ?_ | refine go_ops ?_ | refine go_blk ?_ | refine x_skip rfl ?_ | refine x_blk rfl rfl ?_ | refine x_exit rfl rfl rfl ?_ | refine x_ift rfl rfl rfl ?_ | refine x_iff rfl rfl rfl ?_ | refine x_label rfl ?_ | ((first | refine x_reg rfl rfl ?_ | (refine go_newx hty hnt hmh rfl rfl ?_; intro _)); refine runo0 400 hty hnt hmh ?_; simp only [so, sq, zy, zz, tyE, zs1, zs2, zs3, zs4, zs5, ev, zs6, dOk, cv, zu1, zu2, zu3, eqB, Value.oneCell', zs7, zs8, zs9, zt1, zt2, isC, TK.agg, rv, rv1, ldV, zt3, zt4, zn1, zn2, zn3, zn4, zn5, zn6, zn7, reduceIte, reduceCtorEq, eq_self])))
      refine x_if rfl rfl rfl rfl (fun h3 => ?_) (fun h3 => ?_)
      · (try (refine runo0 400 hty hnt hmh ?_; simp only [so, sq, zy, zz, tyE, zs1, zs2, zs3, zs4, zs5, ev, zs6, dOk, cv, zu1, zu2, zu3, eqB, Value.oneCell', zs7, zs8, zs9, zt1, zt2, isC, TK.agg, rv, rv1, ldV, zt3, zt4, zn1, zn2, zn3, zn4, zn5, zn6, zn7, reduceIte, reduceCtorEq, eq_self])); (repeat (first | refine x_seq rfl ?_ | refine go_ops ?_ | refine go_blk ?_ | refine x_skip rfl ?_ | refine x_blk rfl rfl ?_ | refine x_exit rfl rfl rfl ?_ | refine x_ift rfl rfl rfl ?_ | refine x_iff rfl rfl rfl ?_ | refine x_label rfl ?_ | ((first | refine x_reg rfl rfl ?_ | (refine go_newx hty hnt hmh rfl rfl ?_; intro _)); refine runo0 400 hty hnt hmh ?_; simp only [so, sq, zy, zz, tyE, zs1, zs2, zs3, zs4, zs5, ev, zs6, dOk, cv, zu1, zu2, zu3, eqB, Value.oneCell', zs7, zs8, zs9, zt1, zt2, isC, TK.agg, rv, rv1, ldV, zt3, zt4, zn1, zn2, zn3, zn4, zn5, zn6, zn7, reduceIte, reduceCtorEq, eq_self])))
        refine x_retW rfl hQ hmb hmh hG0 hmub rfl rfl (by rw [hty]; simp only [so, sq, zy, zz, tyE, zs1, zs2, zs3, zs4, zs5, ev, zs6, dOk, cv, zu1, zu2, zu3, eqB, Value.oneCell', zs7, zs8, zs9, zt1, zt2, isC, TK.agg, rv, rv1, ldV, zt3, zt4, zn1, zn2, zn3, zn4, zn5, zn6, zn7, reduceIte, reduceCtorEq, eq_self]; try rfl) rfl rfl (by simp only [enumO]; exact (by repeat (first | exact plain_nil | refine plain_cons (fun _ h => h) ?_))) ?_; simp only [SV.den, resV, dens]
        exact ret A hl (if_pos (.inr (.inl (by simpa using h3))))
      · refine x_skip rfl ?_
        refine go_keep [0, 1, 4] [0, 1] ?_
        simp only [so, sq, zy, zz, tyE, zs1, zs2, zs3, zs4, zs5, ev, zs6, dOk, cv, zu1, zu2, zu3, eqB, Value.oneCell', zs7, zs8, zs9, zt1, zt2, isC, TK.agg, rv, rv1, ldV, zt3, zt4, zn1, zn2, zn3, zn4, zn5, zn6, zn7, reduceIte, reduceCtorEq, eq_self]
        exact key _ ⟨by omega, by simp at h3; omega, rfl⟩
  · rintro s' ⟨hb1, hb2, rfl⟩
    simp only [List.drop_succ_cons, List.drop_zero]
    (try (refine runo0 400 hty hnt hmh ?_; simp only [so, sq, zy, zz, tyE, zs1, zs2, zs3, zs4, zs5, ev, zs6, dOk, cv, zu1, zu2, zu3, eqB, Value.oneCell', zs7, zs8, zs9, zt1, zt2, isC, TK.agg, rv, rv1, ldV, zt3, zt4, zn1, zn2, zn3, zn4, zn5, zn6, zn7, reduceIte, reduceCtorEq, eq_self])); (repeat (first | refine x_seq rfl ?_ | refine go_ops ?_ | refine go_blk ?_ | refine x_skip rfl ?_ | refine x_blk rfl rfl ?_ | refine x_exit rfl rfl rfl ?_ | refine x_ift rfl rfl rfl ?_ | refine x_iff rfl rfl rfl ?_ | refine x_label rfl ?_ | ((first | refine x_reg rfl rfl ?_ | (refine go_newx hty hnt hmh rfl rfl ?_; intro _)); refine runo0 400 hty hnt hmh ?_; simp only [so, sq, zy, zz, tyE, zs1, zs2, zs3, zs4, zs5, ev, zs6, dOk, cv, zu1, zu2, zu3, eqB, Value.oneCell', zs7, zs8, zs9, zt1, zt2, isC, TK.agg, rv, rv1, ldV, zt3, zt4, zn1, zn2, zn3, zn4, zn5, zn6, zn7, reduceIte, reduceCtorEq, eq_self])))
    refine go_q (by rw [hnt]; rfl) (quiet_load (by rw [hty]; rfl) rfl (by simp [TK.agg]) hv0 rfl) ?_; (try (refine runo0 400 hty hnt hmh ?_; simp only [so, sq, zy, zz, tyE, zs1, zs2, zs3, zs4, zs5, ev, zs6, dOk, cv, zu1, zu2, zu3, eqB, Value.oneCell', zs7, zs8, zs9, zt1, zt2, isC, TK.agg, rv, rv1, ldV, zt3, zt4, zn1, zn2, zn3, zn4, zn5, zn6, zn7, reduceIte, reduceCtorEq, eq_self])); (repeat (first | refine x_seq rfl ?_ | refine go_ops ?_ | refine go_blk ?_ | refine x_skip rfl ?_ | refine x_blk rfl rfl ?_ | refine x_exit rfl rfl rfl ?_ | refine x_ift rfl rfl rfl ?_ | refine x_iff rfl rfl rfl ?_ | refine x_label rfl ?_ | ((first | refine x_reg rfl rfl ?_ | (refine go_newx hty hnt hmh rfl rfl ?_; intro _)); refine runo0 400 hty hnt hmh ?_; simp only [so, sq, zy, zz, tyE, zs1, zs2, zs3, zs4, zs5, ev, zs6, dOk, cv, zu1, zu2, zu3, eqB, Value.oneCell', zs7, zs8, zs9, zt1, zt2, isC, TK.agg, rv, rv1, ldV, zt3, zt4, zn1, zn2, zn3, zn4, zn5, zn6, zn7, reduceIte, reduceCtorEq, eq_self])))
    refine go_q (by rw [hnt]; rfl) (quiet_index (by rw [hty]; rfl) (by rw [hty]; rfl) rfl rfl rfl (by omega) (by omega)) ?_
    (try (refine runo0 400 hty hnt hmh ?_; simp only [so, sq, zy, zz, tyE, zs1, zs2, zs3, zs4, zs5, ev, zs6, dOk, cv, zu1, zu2, zu3, eqB, Value.oneCell', zs7, zs8, zs9, zt1, zt2, isC, TK.agg, rv, rv1, ldV, zt3, zt4, zn1, zn2, zn3, zn4, zn5, zn6, zn7, reduceIte, reduceCtorEq, eq_self])); (repeat (first | refine x_seq rfl ?_ | refine go_ops ?_ | refine go_blk ?_ | refine x_skip rfl ?_ | refine x_blk rfl rfl ?_ | refine x_exit rfl rfl rfl ?_ | refine x_ift rfl rfl rfl ?_ | refine x_iff rfl rfl rfl ?_ | refine x_label rfl ?_ | ((first | refine x_reg rfl rfl ?_ | (refine go_newx hty hnt hmh rfl rfl ?_; intro _)); refine runo0 400 hty hnt hmh ?_; simp only [so, sq, zy, zz, tyE, zs1, zs2, zs3, zs4, zs5, ev, zs6, dOk, cv, zu1, zu2, zu3, eqB, Value.oneCell', zs7, zs8, zs9, zt1, zt2, isC, TK.agg, rv, rv1, ldV, zt3, zt4, zn1, zn2, zn3, zn4, zn5, zn6, zn7, reduceIte, reduceCtorEq, eq_self])))
    refine go_q (by rw [hnt]; rfl) (quiet_load (by rw [hty]; rfl) rfl (by simp [TK.agg]) hatn' rfl) ?_
    (try (refine runo0 400 hty hnt hmh ?_; simp only [so, sq, zy, zz, tyE, zs1, zs2, zs3, zs4, zs5, ev, zs6, dOk, cv, zu1, zu2, zu3, eqB, Value.oneCell', zs7, zs8, zs9, zt1, zt2, isC, TK.agg, rv, rv1, ldV, zt3, zt4, zn1, zn2, zn3, zn4, zn5, zn6, zn7, reduceIte, reduceCtorEq, eq_self])); (repeat (first | refine x_seq rfl ?_ | refine go_ops ?_ | refine go_blk ?_ | refine x_skip rfl ?_ | refine x_blk rfl rfl ?_ | refine x_exit rfl rfl rfl ?_ | refine x_ift rfl rfl rfl ?_ | refine x_iff rfl rfl rfl ?_ | refine x_label rfl ?_ | ((first | refine x_reg rfl rfl ?_ | (refine go_newx hty hnt hmh rfl rfl ?_; intro _)); refine runo0 400 hty hnt hmh ?_; simp only [so, sq, zy, zz, tyE, zs1, zs2, zs3, zs4, zs5, ev, zs6, dOk, cv, zu1, zu2, zu3, eqB, Value.oneCell', zs7, zs8, zs9, zt1, zt2, isC, TK.agg, rv, rv1, ldV, zt3, zt4, zn1, zn2, zn3, zn4, zn5, zn6, zn7, reduceIte, reduceCtorEq, eq_self])))
    rename_i b5
    refine go_callf (by rw [hnt]; rfl) (by rw [hP]; kernel_rfl) rfl (hP ▸ children_ok x.op G) ?_; (try (refine runo0 400 hty hnt hmh ?_; simp only [so, sq, zy, zz, tyE, zs1, zs2, zs3, zs4, zs5, ev, zs6, dOk, cv, zu1, zu2, zu3, eqB, Value.oneCell', zs7, zs8, zs9, zt1, zt2, isC, TK.agg, rv, rv1, ldV, zt3, zt4, zn1, zn2, zn3, zn4, zn5, zn6, zn7, reduceIte, reduceCtorEq, eq_self])); (repeat (first | refine x_seq rfl ?_ | refine go_ops ?_ | refine go_blk ?_ | refine x_skip rfl ?_ | refine x_blk rfl rfl ?_ | refine x_exit rfl rfl rfl ?_ | refine x_ift rfl rfl rfl ?_ | refine x_iff rfl rfl rfl ?_ | refine x_label rfl ?_ | ((first | refine x_reg rfl rfl ?_ | (refine go_newx hty hnt hmh rfl rfl ?_; intro _)); refine runo0 400 hty hnt hmh ?_; simp only [so, sq, zy, zz, tyE, zs1, zs2, zs3, zs4, zs5, ev, zs6, dOk, cv, zu1, zu2, zu3, eqB, Value.oneCell', zs7, zs8, zs9, zt1, zt2, isC, TK.agg, rv, rv1, ldV, zt3, zt4, zn1, zn2, zn3, zn4, zn5, zn6, zn7, reduceIte, reduceCtorEq, eq_self])))
    refine go_keep [0, 1, 4, 5, 6, 7, 8] [0, 1, 2] ?_
    simp only [so, sq, zy, zz, tyE, zs1, zs2, zs3, zs4, zs5, ev, zs6, dOk, cv, zu1, zu2, zu3, eqB, Value.oneCell', zs7, zs8, zs9, zt1, zt2, isC, TK.agg, rv, rv1, ldV, zt3, zt4, zn1, zn2, zn3, zn4, zn5, zn6, zn7, reduceIte, reduceCtorEq, eq_self]
    refine x_draw rfl (by rw [hP]; kernel_rfl) rfl (by kernel_rfl) ?_
    refine runq 400 hty hnt ?_; simp only [so, sq, zy, zz, tyE, zs1, zs2, zs3, zs4, zs5, ev, zs6, dOk, cv, zu1, zu2, zu3, eqB, Value.oneCell', zs7, zs8, zs9, zt1, zt2, isC, TK.agg, rv, rv1, ldV, zt3, zt4, zn1, zn2, zn3, zn4, zn5, zn6, zn7, reduceIte, reduceCtorEq, eq_self]
    have nb : ben x.op x.l.length = false → nodeStep n i x A = none := fun h => if_pos (.inr (.inr (.inl h)))
    refine go_qsplit rfl rfl (fun h3 => ?_) (fun h3 => ?_) <;> (simp only [so, sq, zy, zz, tyE, zs1, zs2, zs3, zs4, zs5, ev, zs6, dOk, cv, zu1, zu2, zu3, eqB, Value.oneCell', zs7, zs8, zs9, zt1, zt2, isC, TK.agg, rv, rv1, ldV, zt3, zt4, zn1, zn2, zn3, zn4, zn5, zn6, zn7, reduceIte, reduceCtorEq, eq_self]; (try (refine runq 400 hty hnt ?_; simp only [so, sq, zy, zz, tyE, zs1, zs2, zs3, zs4, zs5, ev, zs6, dOk, cv, zu1, zu2, zu3, eqB, Value.oneCell', zs7, zs8, zs9, zt1, zt2, isC, TK.agg, rv, rv1, ldV, zt3, zt4, zn1, zn2, zn3, zn4, zn5, zn6, zn7, reduceIte, reduceCtorEq, eq_self])))
    · (first | refine q_end ?_; (try (refine runo0 400 hty hnt hmh ?_; simp only [so, sq, zy, zz, tyE, zs1, zs2, zs3, zs4, zs5, ev, zs6, dOk, cv, zu1, zu2, zu3, eqB, Value.oneCell', zs7, zs8, zs9, zt1, zt2, isC, TK.agg, rv, rv1, ldV, zt3, zt4, zn1, zn2, zn3, zn4, zn5, zn6, zn7, reduceIte, reduceCtorEq, eq_self])); (repeat (first | refine x_seq rfl ?_ | refine go_ops ?_ | refine go_blk ?_ | refine x_skip rfl ?_ | refine x_blk rfl rfl ?_ | refine x_exit rfl rfl rfl ?_ | refine x_ift rfl rfl rfl ?_ | refine x_iff rfl rfl rfl ?_ | refine x_label rfl ?_ | ((first | refine x_reg rfl rfl ?_ | (refine go_newx hty hnt hmh rfl rfl ?_; intro _)); refine runo0 400 hty hnt hmh ?_; simp only [so, sq, zy, zz, tyE, zs1, zs2, zs3, zs4, zs5, ev, zs6, dOk, cv, zu1, zu2, zu3, eqB, Value.oneCell', zs7, zs8, zs9, zt1, zt2, isC, TK.agg, rv, rv1, ldV, zt3, zt4, zn1, zn2, zn3, zn4, zn5, zn6, zn7, reduceIte, reduceCtorEq, eq_self]))) | skip)
      (try (refine runo0 400 hty hnt hmh ?_; simp only [so, sq, zy, zz, tyE, zs1, zs2, zs3, zs4, zs5, ev, zs6, dOk, cv, zu1, zu2, zu3, eqB, Value.oneCell', zs7, zs8, zs9, zt1, zt2, isC, TK.agg, rv, rv1, ldV, zt3, zt4, zn1, zn2, zn3, zn4, zn5, zn6, zn7, reduceIte, reduceCtorEq, eq_self])); (repeat (first | refine x_seq rfl ?_ | refine go_ops ?_ | refine go_blk ?_ | refine x_skip rfl ?_ | refine x_blk rfl rfl ?_ | refine x_exit rfl rfl rfl ?_ | refine x_ift rfl rfl rfl ?_ | refine x_iff rfl rfl rfl ?_ | refine x_label rfl ?_ | ((first | refine x_reg rfl rfl ?_ | (refine go_newx hty hnt hmh rfl rfl ?_; intro _)); refine runo0 400 hty hnt hmh ?_; simp only [so, sq, zy, zz, tyE, zs1, zs2, zs3, zs4, zs5, ev, zs6, dOk, cv, zu1, zu2, zu3, eqB, Value.oneCell', zs7, zs8, zs9, zt1, zt2, isC, TK.agg, rv, rv1, ldV, zt3, zt4, zn1, zn2, zn3, zn4, zn5, zn6, zn7, reduceIte, reduceCtorEq, eq_self])))
      refine x_retW rfl hQ hmb hmh hG0 hmub rfl rfl (by rw [hty]; simp only [so, sq, zy, zz, tyE, zs1, zs2, zs3, zs4, zs5, ev, zs6, dOk, cv, zu1, zu2, zu3, eqB, Value.oneCell', zs7, zs8, zs9, zt1, zt2, isC, TK.agg, rv, rv1, ldV, zt3, zt4, zn1, zn2, zn3, zn4, zn5, zn6, zn7, reduceIte, reduceCtorEq, eq_self]; try rfl) rfl rfl (by simp only [enumO]; exact (by repeat (first | exact plain_nil | refine plain_cons (fun _ h => h) ?_))) ?_; simp only [SV.den, resV, dens]
      exact ret A hl (nb (by simp [ben]; simp_all))
    refine go_qsplit rfl rfl (fun h4 => ?_) (fun h4 => ?_) <;> (simp only [so, sq, zy, zz, tyE, zs1, zs2, zs3, zs4, zs5, ev, zs6, dOk, cv, zu1, zu2, zu3, eqB, Value.oneCell', zs7, zs8, zs9, zt1, zt2, isC, TK.agg, rv, rv1, ldV, zt3, zt4, zn1, zn2, zn3, zn4, zn5, zn6, zn7, reduceIte, reduceCtorEq, eq_self]; (try (refine runq 400 hty hnt ?_; simp only [so, sq, zy, zz, tyE, zs1, zs2, zs3, zs4, zs5, ev, zs6, dOk, cv, zu1, zu2, zu3, eqB, Value.oneCell', zs7, zs8, zs9, zt1, zt2, isC, TK.agg, rv, rv1, ldV, zt3, zt4, zn1, zn2, zn3, zn4, zn5, zn6, zn7, reduceIte, reduceCtorEq, eq_self])))
    · (first | refine q_end ?_; (try (refine runo0 400 hty hnt hmh ?_; simp only [so, sq, zy, zz, tyE, zs1, zs2, zs3, zs4, zs5, ev, zs6, dOk, cv, zu1, zu2, zu3, eqB, Value.oneCell', zs7, zs8, zs9, zt1, zt2, isC, TK.agg, rv, rv1, ldV, zt3, zt4, zn1, zn2, zn3, zn4, zn5, zn6, zn7, reduceIte, reduceCtorEq, eq_self])); (repeat (first | refine x_seq rfl ?_ | refine go_ops ?_ | refine go_blk ?_ | refine x_skip rfl ?_ | refine x_blk rfl rfl ?_ | refine x_exit rfl rfl rfl ?_ | refine x_ift rfl rfl rfl ?_ | refine x_iff rfl rfl rfl ?_ | refine x_label rfl ?_ | ((first | refine x_reg rfl rfl ?_ | (refine go_newx hty hnt hmh rfl rfl ?_; intro _)); refine runo0 400 hty hnt hmh ?_; simp only [so, sq, zy, zz, tyE, zs1, zs2, zs3, zs4, zs5, ev, zs6, dOk, cv, zu1, zu2, zu3, eqB, Value.oneCell', zs7, zs8, zs9, zt1, zt2, isC, TK.agg, rv, rv1, ldV, zt3, zt4, zn1, zn2, zn3, zn4, zn5, zn6, zn7, reduceIte, reduceCtorEq, eq_self]))) | skip)
      (try (refine runo0 400 hty hnt hmh ?_; simp only [so, sq, zy, zz, tyE, zs1, zs2, zs3, zs4, zs5, ev, zs6, dOk, cv, zu1, zu2, zu3, eqB, Value.oneCell', zs7, zs8, zs9, zt1, zt2, isC, TK.agg, rv, rv1, ldV, zt3, zt4, zn1, zn2, zn3, zn4, zn5, zn6, zn7, reduceIte, reduceCtorEq, eq_self])); (repeat (first | refine x_seq rfl ?_ | refine go_ops ?_ | refine go_blk ?_ | refine x_skip rfl ?_ | refine x_blk rfl rfl ?_ | refine x_exit rfl rfl rfl ?_ | refine x_ift rfl rfl rfl ?_ | refine x_iff rfl rfl rfl ?_ | refine x_label rfl ?_ | ((first | refine x_reg rfl rfl ?_ | (refine go_newx hty hnt hmh rfl rfl ?_; intro _)); refine runo0 400 hty hnt hmh ?_; simp only [so, sq, zy, zz, tyE, zs1, zs2, zs3, zs4, zs5, ev, zs6, dOk, cv, zu1, zu2, zu3, eqB, Value.oneCell', zs7, zs8, zs9, zt1, zt2, isC, TK.agg, rv, rv1, ldV, zt3, zt4, zn1, zn2, zn3, zn4, zn5, zn6, zn7, reduceIte, reduceCtorEq, eq_self])))
      refine x_retW rfl hQ hmb hmh hG0 hmub rfl rfl (by rw [hty]; simp only [so, sq, zy, zz, tyE, zs1, zs2, zs3, zs4, zs5, ev, zs6, dOk, cv, zu1, zu2, zu3, eqB, Value.oneCell', zs7, zs8, zs9, zt1, zt2, isC, TK.agg, rv, rv1, ldV, zt3, zt4, zn1, zn2, zn3, zn4, zn5, zn6, zn7, reduceIte, reduceCtorEq, eq_self]; try rfl) rfl rfl (by simp only [enumO]; exact (by repeat (first | exact plain_nil | refine plain_cons (fun _ h => h) ?_))) ?_; simp only [SV.den, resV, dens]
      exact ret A hl (nb (by simp [ben]; simp at h4; omega))
    refine go_qsplit rfl rfl (fun h5 => ?_) (fun h5 => ?_) <;> (simp only [so, sq, zy, zz, tyE, zs1, zs2, zs3, zs4, zs5, ev, zs6, dOk, cv, zu1, zu2, zu3, eqB, Value.oneCell', zs7, zs8, zs9, zt1, zt2, isC, TK.agg, rv, rv1, ldV, zt3, zt4, zn1, zn2, zn3, zn4, zn5, zn6, zn7, reduceIte, reduceCtorEq, eq_self]; (try (refine runq 400 hty hnt ?_; simp only [so, sq, zy, zz, tyE, zs1, zs2, zs3, zs4, zs5, ev, zs6, dOk, cv, zu1, zu2, zu3, eqB, Value.oneCell', zs7, zs8, zs9, zt1, zt2, isC, TK.agg, rv, rv1, ldV, zt3, zt4, zn1, zn2, zn3, zn4, zn5, zn6, zn7, reduceIte, reduceCtorEq, eq_self])))
    · (first | refine q_end ?_; (try (refine runo0 400 hty hnt hmh ?_; simp only [so, sq, zy, zz, tyE, zs1, zs2, zs3, zs4, zs5, ev, zs6, dOk, cv, zu1, zu2, zu3, eqB, Value.oneCell', zs7, zs8, zs9, zt1, zt2, isC, TK.agg, rv, rv1, ldV, zt3, zt4, zn1, zn2, zn3, zn4, zn5, zn6, zn7, reduceIte, reduceCtorEq, eq_self])); (repeat (first | refine x_seq rfl ?_ | refine go_ops ?_ | refine go_blk ?_ | refine x_skip rfl ?_ | refine x_blk rfl rfl ?_ | refine x_exit rfl rfl rfl ?_ | refine x_ift rfl rfl rfl ?_ | refine x_iff rfl rfl rfl ?_ | refine x_label rfl ?_ | ((first | refine x_reg rfl rfl ?_ | (refine go_newx hty hnt hmh rfl rfl ?_; intro _)); refine runo0 400 hty hnt hmh ?_; simp only [so, sq, zy, zz, tyE, zs1, zs2, zs3, zs4, zs5, ev, zs6, dOk, cv, zu1, zu2, zu3, eqB, Value.oneCell', zs7, zs8, zs9, zt1, zt2, isC, TK.agg, rv, rv1, ldV, zt3, zt4, zn1, zn2, zn3, zn4, zn5, zn6, zn7, reduceIte, reduceCtorEq, eq_self]))) | skip)
      (try (refine runo0 400 hty hnt hmh ?_; simp only [so, sq, zy, zz, tyE, zs1, zs2, zs3, zs4, zs5, ev, zs6, dOk, cv, zu1, zu2, zu3, eqB, Value.oneCell', zs7, zs8, zs9, zt1, zt2, isC, TK.agg, rv, rv1, ldV, zt3, zt4, zn1, zn2, zn3, zn4, zn5, zn6, zn7, reduceIte, reduceCtorEq, eq_self])); (repeat (first | refine x_seq rfl ?_ | refine go_ops ?_ | refine go_blk ?_ | refine x_skip rfl ?_ | refine x_blk rfl rfl ?_ | refine x_exit rfl rfl rfl ?_ | refine x_ift rfl rfl rfl ?_ | refine x_iff rfl rfl rfl ?_ | refine x_label rfl ?_ | ((first | refine x_reg rfl rfl ?_ | (refine go_newx hty hnt hmh rfl rfl ?_; intro _)); refine runo0 400 hty hnt hmh ?_; simp only [so, sq, zy, zz, tyE, zs1, zs2, zs3, zs4, zs5, ev, zs6, dOk, cv, zu1, zu2, zu3, eqB, Value.oneCell', zs7, zs8, zs9, zt1, zt2, isC, TK.agg, rv, rv1, ldV, zt3, zt4, zn1, zn2, zn3, zn4, zn5, zn6, zn7, reduceIte, reduceCtorEq, eq_self])))
      refine x_retW rfl hQ hmb hmh hG0 hmub rfl rfl (by rw [hty]; simp only [so, sq, zy, zz, tyE, zs1, zs2, zs3, zs4, zs5, ev, zs6, dOk, cv, zu1, zu2, zu3, eqB, Value.oneCell', zs7, zs8, zs9, zt1, zt2, isC, TK.agg, rv, rv1, ldV, zt3, zt4, zn1, zn2, zn3, zn4, zn5, zn6, zn7, reduceIte, reduceCtorEq, eq_self]; try rfl) rfl rfl (by simp only [enumO]; exact (by repeat (first | exact plain_nil | refine plain_cons (fun _ h => h) ?_))) ?_; simp only [SV.den, resV, dens]
      exact ret A hl (nb (by simp [ben]; simp at h5; omega))
    have hben : ben x.op x.l.length = true := by simp at h3 h4 h5; simp [ben, h3]; omega
    refine q_q (by rw [hnt]; rfl) (quiet_load (by rw [hty]; rfl) rfl (by simp [TK.agg]) hv2 rfl) ?_
    refine runq 400 hty hnt ?_; simp only [so, sq, zy, zz, tyE, zs1, zs2, zs3, zs4, zs5, ev, zs6, dOk, cv, zu1, zu2, zu3, eqB, Value.oneCell', zs7, zs8, zs9, zt1, zt2, isC, TK.agg, rv, rv1, ldV, zt3, zt4, zn1, zn2, zn3, zn4, zn5, zn6, zn7, reduceIte, reduceCtorEq, eq_self]
    refine q_q (by rw [hnt]; rfl) (quiet_index (by rw [hty]; rfl) (by rw [hty]; rfl) rfl rfl rfl (by omega) (by omega)) ?_
    refine runq 400 hty hnt ?_; simp only [so, sq, zy, zz, tyE, zs1, zs2, zs3, zs4, zs5, ev, zs6, dOk, cv, zu1, zu2, zu3, eqB, Value.oneCell', zs7, zs8, zs9, zt1, zt2, isC, TK.agg, rv, rv1, ldV, zt3, zt4, zn1, zn2, zn3, zn4, zn5, zn6, zn7, reduceIte, reduceCtorEq, eq_self]
    refine q_q (v := .int .i64 (de A i)) (by rw [hnt]; rfl) ((quiet_loadR (k := 1) (by rw [hty]; rfl) rfl (by simp [TK.agg]) rfl (by simp; omega)).cast (by exact ldd (by omega) (by simp))) ?_
    refine runq 400 hty hnt ?_; simp only [so, sq, zy, zz, tyE, zs1, zs2, zs3, zs4, zs5, ev, zs6, dOk, cv, zu1, zu2, zu3, eqB, Value.oneCell', zs7, zs8, zs9, zt1, zt2, isC, TK.agg, rv, rv1, ldV, zt3, zt4, zn1, zn2, zn3, zn4, zn5, zn6, zn7, reduceIte, reduceCtorEq, eq_self]
    refine q_callf (by rw [hnt]; rfl) (by rw [hP]; kernel_rfl) rfl (hP ▸ number_ok x _ (de A i) G ⟨h63, ad, cap, rfl, hsrc⟩) ?_
    refine runq 400 hty hnt ?_; simp only [so, sq, zy, zz, tyE, zs1, zs2, zs3, zs4, zs5, ev, zs6, dOk, cv, zu1, zu2, zu3, eqB, Value.oneCell', zs7, zs8, zs9, zt1, zt2, isC, TK.agg, rv, rv1, ldV, zt3, zt4, zn1, zn2, zn3, zn4, zn5, zn6, zn7, reduceIte, reduceCtorEq, eq_self]
    refine q_end ?_; (try (refine runo0 400 hty hnt hmh ?_; simp only [so, sq, zy, zz, tyE, zs1, zs2, zs3, zs4, zs5, ev, zs6, dOk, cv, zu1, zu2, zu3, eqB, Value.oneCell', zs7, zs8, zs9, zt1, zt2, isC, TK.agg, rv, rv1, ldV, zt3, zt4, zn1, zn2, zn3, zn4, zn5, zn6, zn7, reduceIte, reduceCtorEq, eq_self])); (repeat (first | refine x_seq rfl ?_ | refine go_ops ?_ | refine go_blk ?_ | refine x_skip rfl ?_ | refine x_blk rfl rfl ?_ | refine x_exit rfl rfl rfl ?_ | refine x_ift rfl rfl rfl ?_ | refine x_iff rfl rfl rfl ?_ | refine x_label rfl ?_ | ((first | refine x_reg rfl rfl ?_ | (refine go_newx hty hnt hmh rfl rfl ?_; intro _)); refine runo0 400 hty hnt hmh ?_; simp only [so, sq, zy, zz, tyE, zs1, zs2, zs3, zs4, zs5, ev, zs6, dOk, cv, zu1, zu2, zu3, eqB, Value.oneCell', zs7, zs8, zs9, zt1, zt2, isC, TK.agg, rv, rv1, ldV, zt3, zt4, zn1, zn2, zn3, zn4, zn5, zn6, zn7, reduceIte, reduceCtorEq, eq_self])))
    (try (refine runo0 400 hty hnt hmh ?_; simp only [so, sq, zy, zz, tyE, zs1, zs2, zs3, zs4, zs5, ev, zs6, dOk, cv, zu1, zu2, zu3, eqB, Value.oneCell', zs7, zs8, zs9, zt1, zt2, isC, TK.agg, rv, rv1, ldV, zt3, zt4, zn1, zn2, zn3, zn4, zn5, zn6, zn7, reduceIte, reduceCtorEq, eq_self])); (repeat (first | refine x_seq rfl ?_ | refine go_ops ?_ | refine go_blk ?_ | refine x_skip rfl ?_ | refine x_blk rfl rfl ?_ | refine x_exit rfl rfl rfl ?_ | refine x_ift rfl rfl rfl ?_ | refine x_iff rfl rfl rfl ?_ | refine x_label rfl ?_ | ((first | refine x_reg rfl rfl ?_ | (refine go_newx hty hnt hmh rfl rfl ?_; intro _)); refine runo0 400 hty hnt hmh ?_; simp only [so, sq, zy, zz, tyE, zs1, zs2, zs3, zs4, zs5, ev, zs6, dOk, cv, zu1, zu2, zu3, eqB, Value.oneCell', zs7, zs8, zs9, zt1, zt2, isC, TK.agg, rv, rv1, ldV, zt3, zt4, zn1, zn2, zn3, zn4, zn5, zn6, zn7, reduceIte, reduceCtorEq, eq_self])))
    refine x_split rfl rfl rfl (fun h6 => ?_) (fun h6 => ?_) <;> (simp only [so, sq, zy, zz, tyE, zs1, zs2, zs3, zs4, zs5, ev, zs6, dOk, cv, zu1, zu2, zu3, eqB, Value.oneCell', zs7, zs8, zs9, zt1, zt2, isC, TK.agg, rv, rv1, ldV, zt3, zt4, zn1, zn2, zn3, zn4, zn5, zn6, zn7, reduceIte, reduceCtorEq, eq_self]; (repeat (first | refine x_seq rfl ?_ | refine go_ops ?_ | refine go_blk ?_ | refine x_skip rfl ?_ | refine x_blk rfl rfl ?_ | refine x_exit rfl rfl rfl ?_ | refine x_ift rfl rfl rfl ?_ | refine x_iff rfl rfl rfl ?_ | refine x_label rfl ?_ | ((first | refine x_reg rfl rfl ?_ | (refine go_newx hty hnt hmh rfl rfl ?_; intro _)); refine runo0 400 hty hnt hmh ?_; simp only [so, sq, zy, zz, tyE, zs1, zs2, zs3, zs4, zs5, ev, zs6, dOk, cv, zu1, zu2, zu3, eqB, Value.oneCell', zs7, zs8, zs9, zt1, zt2, isC, TK.agg, rv, rv1, ldV, zt3, zt4, zn1, zn2, zn3, zn4, zn5, zn6, zn7, reduceIte, reduceCtorEq, eq_self]))))
    · refine x_retW rfl hQ hmb hmh hG0 hmub rfl rfl (by rw [hty]; simp only [so, sq, zy, zz, tyE, zs1, zs2, zs3, zs4, zs5, ev, zs6, dOk, cv, zu1, zu2, zu3, eqB, Value.oneCell', zs7, zs8, zs9, zt1, zt2, isC, TK.agg, rv, rv1, ldV, zt3, zt4, zn1, zn2, zn3, zn4, zn5, zn6, zn7, reduceIte, reduceCtorEq, eq_self]; try rfl) rfl rfl (by simp only [enumO]; exact (by repeat (first | exact plain_nil | refine plain_cons (fun _ h => h) ?_))) ?_; simp only [SV.den, resV, dens]
      exact ret A hl (if_pos (.inr (.inr (.inr (by simpa using h6)))))
    have hnb : nodeStep n i x A = kids n x.op i 0 x.l A := if_neg (by
      rintro (h | h | h | h)
      · exact hb1 h
      · exact hb2 h
      · rw [hben] at h; cases h
      · simp at h6; rw [h6] at h; cases h)
    refine go_keep [0, 1, 4, 5, 77, 78, 79] [0, 1, 2] ?_
    simp only [so, sq, zy, zz, tyE, zs1, zs2, zs3, zs4, zs5, ev, zs6, dOk, cv, zu1, zu2, zu3, eqB, Value.oneCell', zs7, zs8, zs9, zt1, zt2, isC, TK.agg, rv, rv1, ldV, zt3, zt4, zn1, zn2, zn3, zn4, zn5, zn6, zn7, reduceIte, reduceCtorEq, eq_self]
    have hdk := de_ok hA (show i < A.length by omega)
    refine x_loop rfl (fun q s => ∃ (k : Nat) (B : Pl), k ≤ x.l.length ∧ q = x.l.length - k ∧ B.length = n ∧ de B i = de A i ∧ kids n x.op i 0 x.l A = kids n x.op i k (x.l.drop k) B ∧
      s = ⟨[(0, .v (.pointer (some ⟨bv, 0, none⟩))), (1, .v (.int .i64 i)), (4, .b false), (5, .p 2 b5 0), (77, .v (.slice ad x.l.length cap)), (78, .v (.int .i64 x.l.length)), (79, .v (.int .i64 k))],
        [(0, b1, .row (.slice (some ⟨b1, 0, none⟩) n c1) 3 1 n (B.map fp)), (1, b2, .row (.slice (some ⟨b2, 0, none⟩) n c2) 3 1 n (B.map fd)),
         (2, b5, .c 51 [.v (.int .i64 x.op), .v (.int .i64 x.n), .v (.slice ad x.l.length cap)])], G, []⟩) ⟨0, A, by omega, rfl, hl, rfl, by simp, by simp⟩ ?_
    rintro q s ⟨k, B, hk, hq, hB, hdB, hkid, rfl⟩ ih
    (try (refine runo0 400 hty hnt hmh ?_; simp only [so, sq, zy, zz, tyE, zs1, zs2, zs3, zs4, zs5, ev, zs6, dOk, cv, zu1, zu2, zu3, eqB, Value.oneCell', zs7, zs8, zs9, zt1, zt2, isC, TK.agg, rv, rv1, ldV, zt3, zt4, zn1, zn2, zn3, zn4, zn5, zn6, zn7, reduceIte, reduceCtorEq, eq_self])); (repeat (first | refine x_seq rfl ?_ | refine go_ops ?_ | refine go_blk ?_ | refine x_skip rfl ?_ | refine x_blk rfl rfl ?_ | refine x_exit rfl rfl rfl ?_ | refine x_ift rfl rfl rfl ?_ | refine x_iff rfl rfl rfl ?_ | refine x_label rfl ?_ | ((first | refine x_reg rfl rfl ?_ | (refine go_newx hty hnt hmh rfl rfl ?_; intro _)); refine runo0 400 hty hnt hmh ?_; simp only [so, sq, zy, zz, tyE, zs1, zs2, zs3, zs4, zs5, ev, zs6, dOk, cv, zu1, zu2, zu3, eqB, Value.oneCell', zs7, zs8, zs9, zt1, zt2, isC, TK.agg, rv, rv1, ldV, zt3, zt4, zn1, zn2, zn3, zn4, zn5, zn6, zn7, reduceIte, reduceCtorEq, eq_self])))
    refine x_if rfl rfl rfl rfl (fun hjl => ?_) (fun hjl => ?_)
    · have hlt : k < x.l.length := by simp at hjl; omega
      rcases hsrc with h0 | ⟨bl, offl, csl, rfl, hal, hrl⟩
      · simp [h0] at hlt
      obtain ⟨c0, hat, rfl, hc64⟩ := Rp.at_get hal hrl (i := k) hlt
      have hat' : At G bl (offl + k) [.int .i64 x.l[k]] := by simpa [rI] using hat
      rw [List.drop_eq_getElem_cons hlt] at hkid
      simp only [kids] at hkid
      generalize hce : x.l[k] = c at *
      (try (refine runo0 400 hty hnt hmh ?_; simp only [so, sq, zy, zz, tyE, zs1, zs2, zs3, zs4, zs5, ev, zs6, dOk, cv, zu1, zu2, zu3, eqB, Value.oneCell', zs7, zs8, zs9, zt1, zt2, isC, TK.agg, rv, rv1, ldV, zt3, zt4, zn1, zn2, zn3, zn4, zn5, zn6, zn7, reduceIte, reduceCtorEq, eq_self])); (repeat (first | refine x_seq rfl ?_ | refine go_ops ?_ | refine go_blk ?_ | refine x_skip rfl ?_ | refine x_blk rfl rfl ?_ | refine x_exit rfl rfl rfl ?_ | refine x_ift rfl rfl rfl ?_ | refine x_iff rfl rfl rfl ?_ | refine x_label rfl ?_ | ((first | refine x_reg rfl rfl ?_ | (refine go_newx hty hnt hmh rfl rfl ?_; intro _)); refine runo0 400 hty hnt hmh ?_; simp only [so, sq, zy, zz, tyE, zs1, zs2, zs3, zs4, zs5, ev, zs6, dOk, cv, zu1, zu2, zu3, eqB, Value.oneCell', zs7, zs8, zs9, zt1, zt2, isC, TK.agg, rv, rv1, ldV, zt3, zt4, zn1, zn2, zn3, zn4, zn5, zn6, zn7, reduceIte, reduceCtorEq, eq_self])))
      refine go_q (by rw [hnt]; rfl) (quiet_index (by rw [hty]; rfl) (by rw [hty]; rfl) rfl rfl rfl (by omega) (by omega)) ?_
      (try (refine runo0 400 hty hnt hmh ?_; simp only [so, sq, zy, zz, tyE, zs1, zs2, zs3, zs4, zs5, ev, zs6, dOk, cv, zu1, zu2, zu3, eqB, Value.oneCell', zs7, zs8, zs9, zt1, zt2, isC, TK.agg, rv, rv1, ldV, zt3, zt4, zn1, zn2, zn3, zn4, zn5, zn6, zn7, reduceIte, reduceCtorEq, eq_self])); (repeat (first | refine x_seq rfl ?_ | refine go_ops ?_ | refine go_blk ?_ | refine x_skip rfl ?_ | refine x_blk rfl rfl ?_ | refine x_exit rfl rfl rfl ?_ | refine x_ift rfl rfl rfl ?_ | refine x_iff rfl rfl rfl ?_ | refine x_label rfl ?_ | ((first | refine x_reg rfl rfl ?_ | (refine go_newx hty hnt hmh rfl rfl ?_; intro _)); refine runo0 400 hty hnt hmh ?_; simp only [so, sq, zy, zz, tyE, zs1, zs2, zs3, zs4, zs5, ev, zs6, dOk, cv, zu1, zu2, zu3, eqB, Value.oneCell', zs7, zs8, zs9, zt1, zt2, isC, TK.agg, rv, rv1, ldV, zt3, zt4, zn1, zn2, zn3, zn4, zn5, zn6, zn7, reduceIte, reduceCtorEq, eq_self])))
      refine go_q (by rw [hnt]; rfl) (quiet_load (vs := [.int .i64 c]) (by rw [hty]; rfl) rfl (by simp [TK.agg]) (by simpa using hat') rfl) ?_
      (try (refine runo0 400 hty hnt hmh ?_; simp only [so, sq, zy, zz, tyE, zs1, zs2, zs3, zs4, zs5, ev, zs6, dOk, cv, zu1, zu2, zu3, eqB, Value.oneCell', zs7, zs8, zs9, zt1, zt2, isC, TK.agg, rv, rv1, ldV, zt3, zt4, zn1, zn2, zn3, zn4, zn5, zn6, zn7, reduceIte, reduceCtorEq, eq_self])); (repeat (first | refine x_seq rfl ?_ | refine go_ops ?_ | refine go_blk ?_ | refine x_skip rfl ?_ | refine x_blk rfl rfl ?_ | refine x_exit rfl rfl rfl ?_ | refine x_ift rfl rfl rfl ?_ | refine x_iff rfl rfl rfl ?_ | refine x_label rfl ?_ | ((first | refine x_reg rfl rfl ?_ | (refine go_newx hty hnt hmh rfl rfl ?_; intro _)); refine runo0 400 hty hnt hmh ?_; simp only [so, sq, zy, zz, tyE, zs1, zs2, zs3, zs4, zs5, ev, zs6, dOk, cv, zu1, zu2, zu3, eqB, Value.oneCell', zs7, zs8, zs9, zt1, zt2, isC, TK.agg, rv, rv1, ldV, zt3, zt4, zn1, zn2, zn3, zn4, zn5, zn6, zn7, reduceIte, reduceCtorEq, eq_self])))
      have kn : (c ≤ i ∨ (n : Int) ≤ c ∨ 0 ≤ pa B c.toNat) → nodeStep n i x A = none := fun h => by rw [hnb, hkid, if_pos h]
      refine go_gsplit rfl rfl (fun hc1 => ?_) (fun hc1 => ?_) <;> (simp only [so, sq, zy, zz, tyE, zs1, zs2, zs3, zs4, zs5, ev, zs6, dOk, cv, zu1, zu2, zu3, eqB, Value.oneCell', zs7, zs8, zs9, zt1, zt2, isC, TK.agg, rv, rv1, ldV, zt3, zt4, zn1, zn2, zn3, zn4, zn5, zn6, zn7, reduceIte, reduceCtorEq, eq_self]; ((try (refine runo0 400 hty hnt hmh ?_; simp only [so, sq, zy, zz, tyE, zs1, zs2, zs3, zs4, zs5, ev, zs6, dOk, cv, zu1, zu2, zu3, eqB, Value.oneCell', zs7, zs8, zs9, zt1, zt2, isC, TK.agg, rv, rv1, ldV, zt3, zt4, zn1, zn2, zn3, zn4, zn5, zn6, zn7, reduceIte, reduceCtorEq, eq_self])); (repeat (first | refine x_seq rfl ?_ | refine go_ops ?_ | refine go_blk ?_ | refine x_skip rfl ?_ | refine x_blk rfl rfl ?_ | refine x_exit rfl rfl rfl ?_ | refine x_ift rfl rfl rfl ?_ | refine x_iff rfl rfl rfl ?_ | refine x_label rfl ?_ | ((first | refine x_reg rfl rfl ?_ | (refine go_newx hty hnt hmh rfl rfl ?_; intro _)); refine runo0 400 hty hnt hmh ?_; simp only [so, sq, zy, zz, tyE, zs1, zs2, zs3, zs4, zs5, ev, zs6, dOk, cv, zu1, zu2, zu3, eqB, Value.oneCell', zs7, zs8, zs9, zt1, zt2, isC, TK.agg, rv, rv1, ldV, zt3, zt4, zn1, zn2, zn3, zn4, zn5, zn6, zn7, reduceIte, reduceCtorEq, eq_self])))))
      · refine x_retW rfl hQ hmb hmh hG0 hmub rfl rfl (by rw [hty]; simp only [so, sq, zy, zz, tyE, zs1, zs2, zs3, zs4, zs5, ev, zs6, dOk, cv, zu1, zu2, zu3, eqB, Value.oneCell', zs7, zs8, zs9, zt1, zt2, isC, TK.agg, rv, rv1, ldV, zt3, zt4, zn1, zn2, zn3, zn4, zn5, zn6, zn7, reduceIte, reduceCtorEq, eq_self]; try rfl) rfl rfl (by simp only [enumO]; exact (by repeat (first | exact plain_nil | refine plain_cons (fun _ h => h) ?_))) ?_; simp only [SV.den, resV, dens]
        exact ret B hB (kn (.inl (by simpa using hc1)))
      have hc1' : (i : Int) < c := by simp at hc1; omega
      refine go_q (by rw [hnt]; rfl) (quiet_load (by rw [hty]; rfl) rfl (by simp [TK.agg]) hv0 rfl) ?_; (try (refine runo0 400 hty hnt hmh ?_; simp only [so, sq, zy, zz, tyE, zs1, zs2, zs3, zs4, zs5, ev, zs6, dOk, cv, zu1, zu2, zu3, eqB, Value.oneCell', zs7, zs8, zs9, zt1, zt2, isC, TK.agg, rv, rv1, ldV, zt3, zt4, zn1, zn2, zn3, zn4, zn5, zn6, zn7, reduceIte, reduceCtorEq, eq_self])); (repeat (first | refine x_seq rfl ?_ | refine go_ops ?_ | refine go_blk ?_ | refine x_skip rfl ?_ | refine x_blk rfl rfl ?_ | refine x_exit rfl rfl rfl ?_ | refine x_ift rfl rfl rfl ?_ | refine x_iff rfl rfl rfl ?_ | refine x_label rfl ?_ | ((first | refine x_reg rfl rfl ?_ | (refine go_newx hty hnt hmh rfl rfl ?_; intro _)); refine runo0 400 hty hnt hmh ?_; simp only [so, sq, zy, zz, tyE, zs1, zs2, zs3, zs4, zs5, ev, zs6, dOk, cv, zu1, zu2, zu3, eqB, Value.oneCell', zs7, zs8, zs9, zt1, zt2, isC, TK.agg, rv, rv1, ldV, zt3, zt4, zn1, zn2, zn3, zn4, zn5, zn6, zn7, reduceIte, reduceCtorEq, eq_self])))
      refine go_gsplit rfl rfl (fun hc2 => ?_) (fun hc2 => ?_) <;> (simp only [so, sq, zy, zz, tyE, zs1, zs2, zs3, zs4, zs5, ev, zs6, dOk, cv, zu1, zu2, zu3, eqB, Value.oneCell', zs7, zs8, zs9, zt1, zt2, isC, TK.agg, rv, rv1, ldV, zt3, zt4, zn1, zn2, zn3, zn4, zn5, zn6, zn7, reduceIte, reduceCtorEq, eq_self]; ((try (refine runo0 400 hty hnt hmh ?_; simp only [so, sq, zy, zz, tyE, zs1, zs2, zs3, zs4, zs5, ev, zs6, dOk, cv, zu1, zu2, zu3, eqB, Value.oneCell', zs7, zs8, zs9, zt1, zt2, isC, TK.agg, rv, rv1, ldV, zt3, zt4, zn1, zn2, zn3, zn4, zn5, zn6, zn7, reduceIte, reduceCtorEq, eq_self])); (repeat (first | refine x_seq rfl ?_ | refine go_ops ?_ | refine go_blk ?_ | refine x_skip rfl ?_ | refine x_blk rfl rfl ?_ | refine x_exit rfl rfl rfl ?_ | refine x_ift rfl rfl rfl ?_ | refine x_iff rfl rfl rfl ?_ | refine x_label rfl ?_ | ((first | refine x_reg rfl rfl ?_ | (refine go_newx hty hnt hmh rfl rfl ?_; intro _)); refine runo0 400 hty hnt hmh ?_; simp only [so, sq, zy, zz, tyE, zs1, zs2, zs3, zs4, zs5, ev, zs6, dOk, cv, zu1, zu2, zu3, eqB, Value.oneCell', zs7, zs8, zs9, zt1, zt2, isC, TK.agg, rv, rv1, ldV, zt3, zt4, zn1, zn2, zn3, zn4, zn5, zn6, zn7, reduceIte, reduceCtorEq, eq_self])))))
      · refine x_retW rfl hQ hmb hmh hG0 hmub rfl rfl (by rw [hty]; simp only [so, sq, zy, zz, tyE, zs1, zs2, zs3, zs4, zs5, ev, zs6, dOk, cv, zu1, zu2, zu3, eqB, Value.oneCell', zs7, zs8, zs9, zt1, zt2, isC, TK.agg, rv, rv1, ldV, zt3, zt4, zn1, zn2, zn3, zn4, zn5, zn6, zn7, reduceIte, reduceCtorEq, eq_self]; try rfl) rfl rfl (by simp only [enumO]; exact (by repeat (first | exact plain_nil | refine plain_cons (fun _ h => h) ?_))) ?_; simp only [SV.den, resV, dens]
        exact ret B hB (kn (.inr (.inl (by simpa using hc2))))
      have hc2' : c < (n : Int) := by simp at hc2; omega
      obtain ⟨c, rfl⟩ : ∃ c' : Nat, c = c' := ⟨c.toNat, by omega⟩
      simp only [Int.toNat_natCast] at kn hkid
      refine go_q (by rw [hnt]; rfl) (quiet_load (by rw [hty]; rfl) rfl (by simp [TK.agg]) hv1 rfl) ?_; (try (refine runo0 400 hty hnt hmh ?_; simp only [so, sq, zy, zz, tyE, zs1, zs2, zs3, zs4, zs5, ev, zs6, dOk, cv, zu1, zu2, zu3, eqB, Value.oneCell', zs7, zs8, zs9, zt1, zt2, isC, TK.agg, rv, rv1, ldV, zt3, zt4, zn1, zn2, zn3, zn4, zn5, zn6, zn7, reduceIte, reduceCtorEq, eq_self])); (repeat (first | refine x_seq rfl ?_ | refine go_ops ?_ | refine go_blk ?_ | refine x_skip rfl ?_ | refine x_blk rfl rfl ?_ | refine x_exit rfl rfl rfl ?_ | refine x_ift rfl rfl rfl ?_ | refine x_iff rfl rfl rfl ?_ | refine x_label rfl ?_ | ((first | refine x_reg rfl rfl ?_ | (refine go_newx hty hnt hmh rfl rfl ?_; intro _)); refine runo0 400 hty hnt hmh ?_; simp only [so, sq, zy, zz, tyE, zs1, zs2, zs3, zs4, zs5, ev, zs6, dOk, cv, zu1, zu2, zu3, eqB, Value.oneCell', zs7, zs8, zs9, zt1, zt2, isC, TK.agg, rv, rv1, ldV, zt3, zt4, zn1, zn2, zn3, zn4, zn5, zn6, zn7, reduceIte, reduceCtorEq, eq_self]))); refine go_q (by rw [hnt]; rfl) (quiet_index (by rw [hty]; rfl) (by rw [hty]; rfl) rfl rfl rfl (by omega) (by omega)) ?_; (try (refine runo0 400 hty hnt hmh ?_; simp only [so, sq, zy, zz, tyE, zs1, zs2, zs3, zs4, zs5, ev, zs6, dOk, cv, zu1, zu2, zu3, eqB, Value.oneCell', zs7, zs8, zs9, zt1, zt2, isC, TK.agg, rv, rv1, ldV, zt3, zt4, zn1, zn2, zn3, zn4, zn5, zn6, zn7, reduceIte, reduceCtorEq, eq_self])); (repeat (first | refine x_seq rfl ?_ | refine go_ops ?_ | refine go_blk ?_ | refine x_skip rfl ?_ | refine x_blk rfl rfl ?_ | refine x_exit rfl rfl rfl ?_ | refine x_ift rfl rfl rfl ?_ | refine x_iff rfl rfl rfl ?_ | refine x_label rfl ?_ | ((first | refine x_reg rfl rfl ?_ | (refine go_newx hty hnt hmh rfl rfl ?_; intro _)); refine runo0 400 hty hnt hmh ?_; simp only [so, sq, zy, zz, tyE, zs1, zs2, zs3, zs4, zs5, ev, zs6, dOk, cv, zu1, zu2, zu3, eqB, Value.oneCell', zs7, zs8, zs9, zt1, zt2, isC, TK.agg, rv, rv1, ldV, zt3, zt4, zn1, zn2, zn3, zn4, zn5, zn6, zn7, reduceIte, reduceCtorEq, eq_self]))); refine go_q (v := .int .i64 (pa B c)) (by rw [hnt]; rfl) ((quiet_loadR (k := 0) (by rw [hty]; rfl) rfl (by simp [TK.agg]) rfl (by simp; omega)).cast (by exact ldp (by omega) (by simp))) ?_; (try (refine runo0 400 hty hnt hmh ?_; simp only [so, sq, zy, zz, tyE, zs1, zs2, zs3, zs4, zs5, ev, zs6, dOk, cv, zu1, zu2, zu3, eqB, Value.oneCell', zs7, zs8, zs9, zt1, zt2, isC, TK.agg, rv, rv1, ldV, zt3, zt4, zn1, zn2, zn3, zn4, zn5, zn6, zn7, reduceIte, reduceCtorEq, eq_self])); (repeat (first | refine x_seq rfl ?_ | refine go_ops ?_ | refine go_blk ?_ | refine x_skip rfl ?_ | refine x_blk rfl rfl ?_ | refine x_exit rfl rfl rfl ?_ | refine x_ift rfl rfl rfl ?_ | refine x_iff rfl rfl rfl ?_ | refine x_label rfl ?_ | ((first | refine x_reg rfl rfl ?_ | (refine go_newx hty hnt hmh rfl rfl ?_; intro _)); refine runo0 400 hty hnt hmh ?_; simp only [so, sq, zy, zz, tyE, zs1, zs2, zs3, zs4, zs5, ev, zs6, dOk, cv, zu1, zu2, zu3, eqB, Value.oneCell', zs7, zs8, zs9, zt1, zt2, isC, TK.agg, rv, rv1, ldV, zt3, zt4, zn1, zn2, zn3, zn4, zn5, zn6, zn7, reduceIte, reduceCtorEq, eq_self])))
      refine x_split rfl rfl rfl (fun hc3 => ?_) (fun hc3 => ?_) <;> (simp only [so, sq, zy, zz, tyE, zs1, zs2, zs3, zs4, zs5, ev, zs6, dOk, cv, zu1, zu2, zu3, eqB, Value.oneCell', zs7, zs8, zs9, zt1, zt2, isC, TK.agg, rv, rv1, ldV, zt3, zt4, zn1, zn2, zn3, zn4, zn5, zn6, zn7, reduceIte, reduceCtorEq, eq_self]; (repeat (first | refine x_seq rfl ?_ | refine go_ops ?_ | refine go_blk ?_ | refine x_skip rfl ?_ | refine x_blk rfl rfl ?_ | refine x_exit rfl rfl rfl ?_ | refine x_ift rfl rfl rfl ?_ | refine x_iff rfl rfl rfl ?_ | refine x_label rfl ?_ | ((first | refine x_reg rfl rfl ?_ | (refine go_newx hty hnt hmh rfl rfl ?_; intro _)); refine runo0 400 hty hnt hmh ?_; simp only [so, sq, zy, zz, tyE, zs1, zs2, zs3, zs4, zs5, ev, zs6, dOk, cv, zu1, zu2, zu3, eqB, Value.oneCell', zs7, zs8, zs9, zt1, zt2, isC, TK.agg, rv, rv1, ldV, zt3, zt4, zn1, zn2, zn3, zn4, zn5, zn6, zn7, reduceIte, reduceCtorEq, eq_self]))))
      · refine x_retW rfl hQ hmb hmh hG0 hmub rfl rfl (by rw [hty]; simp only [so, sq, zy, zz, tyE, zs1, zs2, zs3, zs4, zs5, ev, zs6, dOk, cv, zu1, zu2, zu3, eqB, Value.oneCell', zs7, zs8, zs9, zt1, zt2, isC, TK.agg, rv, rv1, ldV, zt3, zt4, zn1, zn2, zn3, zn4, zn5, zn6, zn7, reduceIte, reduceCtorEq, eq_self]; try rfl) rfl rfl (by simp only [enumO]; exact (by repeat (first | exact plain_nil | refine plain_cons (fun _ h => h) ?_))) ?_; simp only [SV.den, resV, dens]
        exact ret B hB (kn (.inr (.inr (by simpa using hc3))))
      have hc3' : ¬ 0 ≤ pa B c := by simp at hc3; omega
      rw [if_neg (by omega)] at hkid
      refine go_q (by rw [hnt]; rfl) (quiet_load (by rw [hty]; rfl) rfl (by simp [TK.agg]) hv1 rfl) ?_; (try (refine runo0 400 hty hnt hmh ?_; simp only [so, sq, zy, zz, tyE, zs1, zs2, zs3, zs4, zs5, ev, zs6, dOk, cv, zu1, zu2, zu3, eqB, Value.oneCell', zs7, zs8, zs9, zt1, zt2, isC, TK.agg, rv, rv1, ldV, zt3, zt4, zn1, zn2, zn3, zn4, zn5, zn6, zn7, reduceIte, reduceCtorEq, eq_self])); (repeat (first | refine x_seq rfl ?_ | refine go_ops ?_ | refine go_blk ?_ | refine x_skip rfl ?_ | refine x_blk rfl rfl ?_ | refine x_exit rfl rfl rfl ?_ | refine x_ift rfl rfl rfl ?_ | refine x_iff rfl rfl rfl ?_ | refine x_label rfl ?_ | ((first | refine x_reg rfl rfl ?_ | (refine go_newx hty hnt hmh rfl rfl ?_; intro _)); refine runo0 400 hty hnt hmh ?_; simp only [so, sq, zy, zz, tyE, zs1, zs2, zs3, zs4, zs5, ev, zs6, dOk, cv, zu1, zu2, zu3, eqB, Value.oneCell', zs7, zs8, zs9, zt1, zt2, isC, TK.agg, rv, rv1, ldV, zt3, zt4, zn1, zn2, zn3, zn4, zn5, zn6, zn7, reduceIte, reduceCtorEq, eq_self])))
      refine go_q (by rw [hnt]; rfl) (quiet_index (by rw [hty]; rfl) (by rw [hty]; rfl) rfl rfl rfl (by omega) (by omega)) ?_
      (try (refine runo0 400 hty hnt hmh ?_; simp only [so, sq, zy, zz, tyE, zs1, zs2, zs3, zs4, zs5, ev, zs6, dOk, cv, zu1, zu2, zu3, eqB, Value.oneCell', zs7, zs8, zs9, zt1, zt2, isC, TK.agg, rv, rv1, ldV, zt3, zt4, zn1, zn2, zn3, zn4, zn5, zn6, zn7, reduceIte, reduceCtorEq, eq_self])); (repeat (first | refine x_seq rfl ?_ | refine go_ops ?_ | refine go_blk ?_ | refine x_skip rfl ?_ | refine x_blk rfl rfl ?_ | refine x_exit rfl rfl rfl ?_ | refine x_ift rfl rfl rfl ?_ | refine x_iff rfl rfl rfl ?_ | refine x_label rfl ?_ | ((first | refine x_reg rfl rfl ?_ | (refine go_newx hty hnt hmh rfl rfl ?_; intro _)); refine runo0 400 hty hnt hmh ?_; simp only [so, sq, zy, zz, tyE, zs1, zs2, zs3, zs4, zs5, ev, zs6, dOk, cv, zu1, zu2, zu3, eqB, Value.oneCell', zs7, zs8, zs9, zt1, zt2, isC, TK.agg, rv, rv1, ldV, zt3, zt4, zn1, zn2, zn3, zn4, zn5, zn6, zn7, reduceIte, reduceCtorEq, eq_self])))
      refine go_storeR 0 rfl (by rw [hty]; rfl) rfl rfl rfl rfl rfl rfl (lay1 (i := c) ((i : Int), de A i + more x.op k) (by omega) (by simp) rfl) ?_
      (try (refine runo0 400 hty hnt hmh ?_; simp only [so, sq, zy, zz, tyE, zs1, zs2, zs3, zs4, zs5, ev, zs6, dOk, cv, zu1, zu2, zu3, eqB, Value.oneCell', zs7, zs8, zs9, zt1, zt2, isC, TK.agg, rv, rv1, ldV, zt3, zt4, zn1, zn2, zn3, zn4, zn5, zn6, zn7, reduceIte, reduceCtorEq, eq_self])); (repeat (first | refine x_seq rfl ?_ | refine go_ops ?_ | refine go_blk ?_ | refine x_skip rfl ?_ | refine x_blk rfl rfl ?_ | refine x_exit rfl rfl rfl ?_ | refine x_ift rfl rfl rfl ?_ | refine x_iff rfl rfl rfl ?_ | refine x_label rfl ?_ | ((first | refine x_reg rfl rfl ?_ | (refine go_newx hty hnt hmh rfl rfl ?_; intro _)); refine runo0 400 hty hnt hmh ?_; simp only [so, sq, zy, zz, tyE, zs1, zs2, zs3, zs4, zs5, ev, zs6, dOk, cv, zu1, zu2, zu3, eqB, Value.oneCell', zs7, zs8, zs9, zt1, zt2, isC, TK.agg, rv, rv1, ldV, zt3, zt4, zn1, zn2, zn3, zn4, zn5, zn6, zn7, reduceIte, reduceCtorEq, eq_self])))
      refine x_held [] rfl (by rw [hP]; kernel_rfl) rfl rfl rfl ?_
      simp only [so, sq, zy, zz, tyE, zs1, zs2, zs3, zs4, zs5, ev, zs6, dOk, cv, zu1, zu2, zu3, eqB, Value.oneCell', zs7, zs8, zs9, zt1, zt2, isC, TK.agg, rv, rv1, ldV, zt3, zt4, zn1, zn2, zn3, zn4, zn5, zn6, zn7, reduceIte, reduceCtorEq, eq_self]
      refine h_take 0 rfl (by kernel_rfl) (by kernel_rfl) (by kernel_rfl) hQp (by rw [hnt]; rfl) (allIn (by repeat (first | exact trivial | refine ⟨rfl, ?_⟩))) (by first | exact Le.refl _ | assumption) (quiet_op (by rw [hty]; first | rfl | (simp only [so, sq, zy, zz, tyE, zs1, zs2, zs3, zs4, zs5, ev, zs6, dOk, cv, zu1, zu2, zu3, eqB, Value.oneCell', zs7, zs8, zs9, zt1, zt2, isC, TK.agg, rv, rv1, ldV, zt3, zt4, zn1, zn2, zn3, zn4, zn5, zn6, zn7, reduceIte, reduceCtorEq, eq_self]; rfl))) ?_; simp only [so, sq, zy, zz, tyE, zs1, zs2, zs3, zs4, zs5, ev, zs6, dOk, cv, zu1, zu2, zu3, eqB, Value.oneCell', zs7, zs8, zs9, zt1, zt2, isC, TK.agg, rv, rv1, ldV, zt3, zt4, zn1, zn2, zn3, zn4, zn5, zn6, zn7, reduceIte, reduceCtorEq, eq_self]
      refine h_take 1 rfl (by kernel_rfl) (by kernel_rfl) (by kernel_rfl) hQp (by rw [hnt]; rfl) (allIn (by repeat (first | exact trivial | refine ⟨rfl, ?_⟩))) (by first | exact Le.refl _ | assumption) (quiet_op (by rw [hty]; first | rfl | (simp only [so, sq, zy, zz, tyE, zs1, zs2, zs3, zs4, zs5, ev, zs6, dOk, cv, zu1, zu2, zu3, eqB, Value.oneCell', zs7, zs8, zs9, zt1, zt2, isC, TK.agg, rv, rv1, ldV, zt3, zt4, zn1, zn2, zn3, zn4, zn5, zn6, zn7, reduceIte, reduceCtorEq, eq_self]; rfl))) ?_; simp only [so, sq, zy, zz, tyE, zs1, zs2, zs3, zs4, zs5, ev, zs6, dOk, cv, zu1, zu2, zu3, eqB, Value.oneCell', zs7, zs8, zs9, zt1, zt2, isC, TK.agg, rv, rv1, ldV, zt3, zt4, zn1, zn2, zn3, zn4, zn5, zn6, zn7, reduceIte, reduceCtorEq, eq_self]
      refine h_take 2 rfl (by kernel_rfl) (by kernel_rfl) (by kernel_rfl) hQp (by rw [hnt]; rfl) (allIn (by repeat (first | exact trivial | refine ⟨rfl, ?_⟩))) (by first | exact Le.refl _ | assumption) (quiet_op (by rw [hty]; first | rfl | (simp only [so, sq, zy, zz, tyE, zs1, zs2, zs3, zs4, zs5, ev, zs6, dOk, cv, zu1, zu2, zu3, eqB, Value.oneCell', zs7, zs8, zs9, zt1, zt2, isC, TK.agg, rv, rv1, ldV, zt3, zt4, zn1, zn2, zn3, zn4, zn5, zn6, zn7, reduceIte, reduceCtorEq, eq_self]; rfl))) ?_; simp only [so, sq, zy, zz, tyE, zs1, zs2, zs3, zs4, zs5, ev, zs6, dOk, cv, zu1, zu2, zu3, eqB, Value.oneCell', zs7, zs8, zs9, zt1, zt2, isC, TK.agg, rv, rv1, ldV, zt3, zt4, zn1, zn2, zn3, zn4, zn5, zn6, zn7, reduceIte, reduceCtorEq, eq_self]
      refine h_take 3 rfl (by kernel_rfl) (by kernel_rfl) (by kernel_rfl) hQp (by rw [hnt]; rfl) (allIn (by repeat (first | exact trivial | refine ⟨rfl, ?_⟩))) (by first | exact Le.refl _ | assumption) (x := .v (.slice (some ⟨b2, 0, none⟩) n c2)) ((quiet_load (by rw [hty]; rfl) rfl (by simp [TK.agg]) hv2 rfl).cast rfl) ?_
      simp only [so, sq, zy, zz, tyE, zs1, zs2, zs3, zs4, zs5, ev, zs6, dOk, cv, zu1, zu2, zu3, eqB, Value.oneCell', zs7, zs8, zs9, zt1, zt2, isC, TK.agg, rv, rv1, ldV, zt3, zt4, zn1, zn2, zn3, zn4, zn5, zn6, zn7, reduceIte, reduceCtorEq, eq_self]
      refine h_take 4 rfl (by kernel_rfl) (by kernel_rfl) (by kernel_rfl) hQp (by rw [hnt]; rfl) (allIn (by repeat (first | exact trivial | refine ⟨rfl, ?_⟩))) (by first | exact Le.refl _ | assumption) (quiet_op (by rw [hty]; first | rfl | (simp only [so, sq, zy, zz, tyE, zs1, zs2, zs3, zs4, zs5, ev, zs6, dOk, cv, zu1, zu2, zu3, eqB, Value.oneCell', zs7, zs8, zs9, zt1, zt2, isC, TK.agg, rv, rv1, ldV, zt3, zt4, zn1, zn2, zn3, zn4, zn5, zn6, zn7, reduceIte, reduceCtorEq, eq_self]; rfl))) ?_; simp only [so, sq, zy, zz, tyE, zs1, zs2, zs3, zs4, zs5, ev, zs6, dOk, cv, zu1, zu2, zu3, eqB, Value.oneCell', zs7, zs8, zs9, zt1, zt2, isC, TK.agg, rv, rv1, ldV, zt3, zt4, zn1, zn2, zn3, zn4, zn5, zn6, zn7, reduceIte, reduceCtorEq, eq_self]
      refine h_take 5 rfl (by kernel_rfl) (by kernel_rfl) (by kernel_rfl) hQp (by rw [hnt]; rfl) (allIn (by repeat (first | exact trivial | refine ⟨rfl, ?_⟩))) (by first | exact Le.refl _ | assumption) (quiet_op (by rw [hty]; first | rfl | (simp only [so, sq, zy, zz, tyE, zs1, zs2, zs3, zs4, zs5, ev, zs6, dOk, cv, zu1, zu2, zu3, eqB, Value.oneCell', zs7, zs8, zs9, zt1, zt2, isC, TK.agg, rv, rv1, ldV, zt3, zt4, zn1, zn2, zn3, zn4, zn5, zn6, zn7, reduceIte, reduceCtorEq, eq_self]; rfl))) ?_; simp only [so, sq, zy, zz, tyE, zs1, zs2, zs3, zs4, zs5, ev, zs6, dOk, cv, zu1, zu2, zu3, eqB, Value.oneCell', zs7, zs8, zs9, zt1, zt2, isC, TK.agg, rv, rv1, ldV, zt3, zt4, zn1, zn2, zn3, zn4, zn5, zn6, zn7, reduceIte, reduceCtorEq, eq_self]
      refine h_take 6 rfl (by kernel_rfl) (by kernel_rfl) (by kernel_rfl) hQp (by rw [hnt]; rfl) (allIn (by repeat (first | exact trivial | refine ⟨rfl, ?_⟩))) (by first | exact Le.refl _ | assumption) (quiet_op (by rw [hty]; first | rfl | (simp only [so, sq, zy, zz, tyE, zs1, zs2, zs3, zs4, zs5, ev, zs6, dOk, cv, zu1, zu2, zu3, eqB, Value.oneCell', zs7, zs8, zs9, zt1, zt2, isC, TK.agg, rv, rv1, ldV, zt3, zt4, zn1, zn2, zn3, zn4, zn5, zn6, zn7, reduceIte, reduceCtorEq, eq_self]; rfl))) ?_; simp only [so, sq, zy, zz, tyE, zs1, zs2, zs3, zs4, zs5, ev, zs6, dOk, cv, zu1, zu2, zu3, eqB, Value.oneCell', zs7, zs8, zs9, zt1, zt2, isC, TK.agg, rv, rv1, ldV, zt3, zt4, zn1, zn2, zn3, zn4, zn5, zn6, zn7, reduceIte, reduceCtorEq, eq_self]
      refine h_take 7 rfl (by kernel_rfl) (by kernel_rfl) (by kernel_rfl) hQp (by rw [hnt]; rfl) (allIn (by repeat (first | exact trivial | refine ⟨rfl, ?_⟩))) (by first | exact Le.refl _ | assumption) (quiet_op (by rw [hty]; first | rfl | (simp only [so, sq, zy, zz, tyE, zs1, zs2, zs3, zs4, zs5, ev, zs6, dOk, cv, zu1, zu2, zu3, eqB, Value.oneCell', zs7, zs8, zs9, zt1, zt2, isC, TK.agg, rv, rv1, ldV, zt3, zt4, zn1, zn2, zn3, zn4, zn5, zn6, zn7, reduceIte, reduceCtorEq, eq_self]; rfl))) ?_; simp only [so, sq, zy, zz, tyE, zs1, zs2, zs3, zs4, zs5, ev, zs6, dOk, cv, zu1, zu2, zu3, eqB, Value.oneCell', zs7, zs8, zs9, zt1, zt2, isC, TK.agg, rv, rv1, ldV, zt3, zt4, zn1, zn2, zn3, zn4, zn5, zn6, zn7, reduceIte, reduceCtorEq, eq_self]
      refine h_take 8 rfl (by kernel_rfl) (by kernel_rfl) (by kernel_rfl) hQp (by rw [hnt]; rfl) (allIn (by repeat (first | exact trivial | refine ⟨rfl, ?_⟩))) (by first | exact Le.refl _ | assumption) (x := .v (.slice (some ⟨b2, 0, none⟩) n c2)) ((quiet_load (by rw [hty]; rfl) rfl (by simp [TK.agg]) hv2 rfl).cast rfl) ?_
      simp only [so, sq, zy, zz, tyE, zs1, zs2, zs3, zs4, zs5, ev, zs6, dOk, cv, zu1, zu2, zu3, eqB, Value.oneCell', zs7, zs8, zs9, zt1, zt2, isC, TK.agg, rv, rv1, ldV, zt3, zt4, zn1, zn2, zn3, zn4, zn5, zn6, zn7, reduceIte, reduceCtorEq, eq_self]
      refine h_take 9 rfl (by kernel_rfl) (by kernel_rfl) (by kernel_rfl) hQp (by rw [hnt]; rfl) (allIn (by repeat (first | exact trivial | refine ⟨rfl, ?_⟩))) (by first | exact Le.refl _ | assumption) (quiet_op (by rw [hty]; first | rfl | (simp only [so, sq, zy, zz, tyE, zs1, zs2, zs3, zs4, zs5, ev, zs6, dOk, cv, zu1, zu2, zu3, eqB, Value.oneCell', zs7, zs8, zs9, zt1, zt2, isC, TK.agg, rv, rv1, ldV, zt3, zt4, zn1, zn2, zn3, zn4, zn5, zn6, zn7, reduceIte, reduceCtorEq, eq_self]; rfl))) ?_; simp only [so, sq, zy, zz, tyE, zs1, zs2, zs3, zs4, zs5, ev, zs6, dOk, cv, zu1, zu2, zu3, eqB, Value.oneCell', zs7, zs8, zs9, zt1, zt2, isC, TK.agg, rv, rv1, ldV, zt3, zt4, zn1, zn2, zn3, zn4, zn5, zn6, zn7, reduceIte, reduceCtorEq, eq_self]
      refine h_take 10 rfl (by kernel_rfl) (by kernel_rfl) (by kernel_rfl) hQp (by rw [hnt]; rfl) (allIn (by repeat (first | exact trivial | refine ⟨rfl, ?_⟩))) (by first | exact Le.refl _ | assumption) (x := .v (.pointer (some ⟨b2, i, none⟩))) ((quiet_index (by rw [hty]; rfl) (by rw [hty]; rfl) rfl rfl rfl (by omega) (by omega)).cast (by simp [SV.den])) ?_
      simp only [so, sq, zy, zz, tyE, zs1, zs2, zs3, zs4, zs5, ev, zs6, dOk, cv, zu1, zu2, zu3, eqB, Value.oneCell', zs7, zs8, zs9, zt1, zt2, isC, TK.agg, rv, rv1, ldV, zt3, zt4, zn1, zn2, zn3, zn4, zn5, zn6, zn7, reduceIte, reduceCtorEq, eq_self]
      refine h_one 11 rfl (by kernel_rfl) ?_
      refine go_q (v := .int .i64 (de A i)) (by rw [hnt]; rfl) ((quiet_loadR (k := 1) (by rw [hty]; rfl) rfl (by simp [TK.agg]) rfl (by simp; omega)).cast (by rw [← hdB]; exact ldd (by omega) (by simp))) ?_
      (try (refine runo0 400 hty hnt hmh ?_; simp only [so, sq, zy, zz, tyE, zs1, zs2, zs3, zs4, zs5, ev, zs6, dOk, cv, zu1, zu2, zu3, eqB, Value.oneCell', zs7, zs8, zs9, zt1, zt2, isC, TK.agg, rv, rv1, ldV, zt3, zt4, zn1, zn2, zn3, zn4, zn5, zn6, zn7, reduceIte, reduceCtorEq, eq_self])); (repeat (first | refine x_seq rfl ?_ | refine go_ops ?_ | refine go_blk ?_ | refine x_skip rfl ?_ | refine x_blk rfl rfl ?_ | refine x_exit rfl rfl rfl ?_ | refine x_ift rfl rfl rfl ?_ | refine x_iff rfl rfl rfl ?_ | refine x_label rfl ?_ | ((first | refine x_reg rfl rfl ?_ | (refine go_newx hty hnt hmh rfl rfl ?_; intro _)); refine runo0 400 hty hnt hmh ?_; simp only [so, sq, zy, zz, tyE, zs1, zs2, zs3, zs4, zs5, ev, zs6, dOk, cv, zu1, zu2, zu3, eqB, Value.oneCell', zs7, zs8, zs9, zt1, zt2, isC, TK.agg, rv, rv1, ldV, zt3, zt4, zn1, zn2, zn3, zn4, zn5, zn6, zn7, reduceIte, reduceCtorEq, eq_self])))
      refine h_hs (allIn (by repeat (first | exact trivial | refine ⟨rfl, ?_⟩))) (by first | exact Le.refl _ | assumption) ?_
      refine h_take 12 rfl (by kernel_rfl) (by kernel_rfl) (by kernel_rfl) hQp (by rw [hnt]; rfl) (allIn (by repeat (first | exact trivial | refine ⟨rfl, ?_⟩))) (by first | exact Le.refl _ | assumption) (x := .v (.pointer (some ⟨b2, c, none⟩))) ((quiet_index (by rw [hty]; rfl) (by rw [hty]; rfl) rfl rfl rfl (by omega) (by omega)).cast (by simp [SV.den])) ?_
      simp only [so, sq, zy, zz, tyE, zs1, zs2, zs3, zs4, zs5, ev, zs6, dOk, cv, zu1, zu2, zu3, eqB, Value.oneCell', zs7, zs8, zs9, zt1, zt2, isC, TK.agg, rv, rv1, ldV, zt3, zt4, zn1, zn2, zn3, zn4, zn5, zn6, zn7, reduceIte, reduceCtorEq, eq_self]
      refine h_one 13 rfl (by kernel_rfl) ?_
      refine go_storeR 1 rfl (by rw [hty]; rfl) rfl rfl rfl rfl rfl rfl (lay1 (i := c) ((i : Int), de A i) (by omega) (by simp) rfl) ?_
      (try (refine runo0 400 hty hnt hmh ?_; simp only [so, sq, zy, zz, tyE, zs1, zs2, zs3, zs4, zs5, ev, zs6, dOk, cv, zu1, zu2, zu3, eqB, Value.oneCell', zs7, zs8, zs9, zt1, zt2, isC, TK.agg, rv, rv1, ldV, zt3, zt4, zn1, zn2, zn3, zn4, zn5, zn6, zn7, reduceIte, reduceCtorEq, eq_self])); (repeat (first | refine x_seq rfl ?_ | refine go_ops ?_ | refine go_blk ?_ | refine x_skip rfl ?_ | refine x_blk rfl rfl ?_ | refine x_exit rfl rfl rfl ?_ | refine x_ift rfl rfl rfl ?_ | refine x_iff rfl rfl rfl ?_ | refine x_label rfl ?_ | ((first | refine x_reg rfl rfl ?_ | (refine go_newx hty hnt hmh rfl rfl ?_; intro _)); refine runo0 400 hty hnt hmh ?_; simp only [so, sq, zy, zz, tyE, zs1, zs2, zs3, zs4, zs5, ev, zs6, dOk, cv, zu1, zu2, zu3, eqB, Value.oneCell', zs7, zs8, zs9, zt1, zt2, isC, TK.agg, rv, rv1, ldV, zt3, zt4, zn1, zn2, zn3, zn4, zn5, zn6, zn7, reduceIte, reduceCtorEq, eq_self])))
      refine h_hs (allIn (by repeat (first | exact trivial | refine ⟨rfl, ?_⟩))) (by first | exact Le.refl _ | assumption) ?_
      refine h_end (by kernel_rfl) ?_
      (try (refine runo0 400 hty hnt hmh ?_; simp only [so, sq, zy, zz, tyE, zs1, zs2, zs3, zs4, zs5, ev, zs6, dOk, cv, zu1, zu2, zu3, eqB, Value.oneCell', zs7, zs8, zs9, zt1, zt2, isC, TK.agg, rv, rv1, ldV, zt3, zt4, zn1, zn2, zn3, zn4, zn5, zn6, zn7, reduceIte, reduceCtorEq, eq_self])); (repeat (first | refine x_seq rfl ?_ | refine go_ops ?_ | refine go_blk ?_ | refine x_skip rfl ?_ | refine x_blk rfl rfl ?_ | refine x_exit rfl rfl rfl ?_ | refine x_ift rfl rfl rfl ?_ | refine x_iff rfl rfl rfl ?_ | refine x_label rfl ?_ | ((first | refine x_reg rfl rfl ?_ | (refine go_newx hty hnt hmh rfl rfl ?_; intro _)); refine runo0 400 hty hnt hmh ?_; simp only [so, sq, zy, zz, tyE, zs1, zs2, zs3, zs4, zs5, ev, zs6, dOk, cv, zu1, zu2, zu3, eqB, Value.oneCell', zs7, zs8, zs9, zt1, zt2, isC, TK.agg, rv, rv1, ldV, zt3, zt4, zn1, zn2, zn3, zn4, zn5, zn6, zn7, reduceIte, reduceCtorEq, eq_self])))
      have fin : ∀ D, D = de A i + more x.op k → SGo C _ _ := fun D hD => ih (x.l.length - (k + 1)) ⟨[(0, .v (.pointer (some ⟨bv, 0, none⟩))), (1, .v (.int .i64 i)), (4, .b false), (5, .p 2 b5 0), (77, .v (.slice (some ⟨bl, offl, none⟩) x.l.length cap)), (78, .v (.int .i64 x.l.length)), (79, .v (.int .i64 ((k : Int) + 1)))],
        [(0, b1, .row (.slice (some ⟨b1, 0, none⟩) n c1) 3 1 n ((B.set c ((i : Int), de A i + more x.op k)).map fp)), (1, b2, .row (.slice (some ⟨b2, 0, none⟩) n c2) 3 1 n ((B.set c ((i : Int), D)).map fd)),
         (2, b5, .c 51 [.v (.int .i64 x.op), .v (.int .i64 x.n), .v (.slice (some ⟨bl, offl, none⟩) x.l.length cap)])], G, []⟩ (by omega)
        ⟨k + 1, B.set c ((i : Int), de A i + more x.op k), by omega, rfl, by simp [hB], by rw [de_set (by omega), if_neg (by omega)]; exact hdB, by rw [hkid, hdB], by subst hD; simp⟩
      simp only [isI64] at hdk
      have hset : ∀ D E : Int, (B.set c ((i : Int), D)).set c ((i : Int), E) = B.set c ((i : Int), E) := fun D E => by rw [List.set_set]
      refine go_gsplit rfl rfl (fun hm1 => ?_) (fun hm1 => ?_) <;> (simp only [so, sq, zy, zz, tyE, zs1, zs2, zs3, zs4, zs5, ev, zs6, dOk, cv, zu1, zu2, zu3, eqB, Value.oneCell', zs7, zs8, zs9, zt1, zt2, isC, TK.agg, rv, rv1, ldV, zt3, zt4, zn1, zn2, zn3, zn4, zn5, zn6, zn7, reduceIte, reduceCtorEq, eq_self]; ((try (refine runo0 400 hty hnt hmh ?_; simp only [so, sq, zy, zz, tyE, zs1, zs2, zs3, zs4, zs5, ev, zs6, dOk, cv, zu1, zu2, zu3, eqB, Value.oneCell', zs7, zs8, zs9, zt1, zt2, isC, TK.agg, rv, rv1, ldV, zt3, zt4, zn1, zn2, zn3, zn4, zn5, zn6, zn7, reduceIte, reduceCtorEq, eq_self])); (repeat (first | refine x_seq rfl ?_ | refine go_ops ?_ | refine go_blk ?_ | refine x_skip rfl ?_ | refine x_blk rfl rfl ?_ | refine x_exit rfl rfl rfl ?_ | refine x_ift rfl rfl rfl ?_ | refine x_iff rfl rfl rfl ?_ | refine x_label rfl ?_ | ((first | refine x_reg rfl rfl ?_ | (refine go_newx hty hnt hmh rfl rfl ?_; intro _)); refine runo0 400 hty hnt hmh ?_; simp only [so, sq, zy, zz, tyE, zs1, zs2, zs3, zs4, zs5, ev, zs6, dOk, cv, zu1, zu2, zu3, eqB, Value.oneCell', zs7, zs8, zs9, zt1, zt2, isC, TK.agg, rv, rv1, ldV, zt3, zt4, zn1, zn2, zn3, zn4, zn5, zn6, zn7, reduceIte, reduceCtorEq, eq_self])))))
      · have hm1' : x.op = 4 := by simpa using hm1
        refine x_split rfl rfl rfl (fun hm2 => ?_) (fun hm2 => ?_) <;> (simp only [so, sq, zy, zz, tyE, zs1, zs2, zs3, zs4, zs5, ev, zs6, dOk, cv, zu1, zu2, zu3, eqB, Value.oneCell', zs7, zs8, zs9, zt1, zt2, isC, TK.agg, rv, rv1, ldV, zt3, zt4, zn1, zn2, zn3, zn4, zn5, zn6, zn7, reduceIte, reduceCtorEq, eq_self]; (repeat (first | refine x_seq rfl ?_ | refine go_ops ?_ | refine go_blk ?_ | refine x_skip rfl ?_ | refine x_blk rfl rfl ?_ | refine x_exit rfl rfl rfl ?_ | refine x_ift rfl rfl rfl ?_ | refine x_iff rfl rfl rfl ?_ | refine x_label rfl ?_ | ((first | refine x_reg rfl rfl ?_ | (refine go_newx hty hnt hmh rfl rfl ?_; intro _)); refine runo0 400 hty hnt hmh ?_; simp only [so, sq, zy, zz, tyE, zs1, zs2, zs3, zs4, zs5, ev, zs6, dOk, cv, zu1, zu2, zu3, eqB, Value.oneCell', zs7, zs8, zs9, zt1, zt2, isC, TK.agg, rv, rv1, ldV, zt3, zt4, zn1, zn2, zn3, zn4, zn5, zn6, zn7, reduceIte, reduceCtorEq, eq_self]))))
        · have hm2' : k = 1 := by simp at hm2; omega
          refine go_q (by rw [hnt]; rfl) (quiet_load (by rw [hty]; rfl) rfl (by simp [TK.agg]) hv2 rfl) ?_; (try (refine runo0 400 hty hnt hmh ?_; simp only [so, sq, zy, zz, tyE, zs1, zs2, zs3, zs4, zs5, ev, zs6, dOk, cv, zu1, zu2, zu3, eqB, Value.oneCell', zs7, zs8, zs9, zt1, zt2, isC, TK.agg, rv, rv1, ldV, zt3, zt4, zn1, zn2, zn3, zn4, zn5, zn6, zn7, reduceIte, reduceCtorEq, eq_self])); (repeat (first | refine x_seq rfl ?_ | refine go_ops ?_ | refine go_blk ?_ | refine x_skip rfl ?_ | refine x_blk rfl rfl ?_ | refine x_exit rfl rfl rfl ?_ | refine x_ift rfl rfl rfl ?_ | refine x_iff rfl rfl rfl ?_ | refine x_label rfl ?_ | ((first | refine x_reg rfl rfl ?_ | (refine go_newx hty hnt hmh rfl rfl ?_; intro _)); refine runo0 400 hty hnt hmh ?_; simp only [so, sq, zy, zz, tyE, zs1, zs2, zs3, zs4, zs5, ev, zs6, dOk, cv, zu1, zu2, zu3, eqB, Value.oneCell', zs7, zs8, zs9, zt1, zt2, isC, TK.agg, rv, rv1, ldV, zt3, zt4, zn1, zn2, zn3, zn4, zn5, zn6, zn7, reduceIte, reduceCtorEq, eq_self])))
          refine go_q (by rw [hnt]; rfl) (quiet_index (by rw [hty]; rfl) (by rw [hty]; rfl) rfl rfl rfl (by omega) (by omega)) ?_
          (try (refine runo0 400 hty hnt hmh ?_; simp only [so, sq, zy, zz, tyE, zs1, zs2, zs3, zs4, zs5, ev, zs6, dOk, cv, zu1, zu2, zu3, eqB, Value.oneCell', zs7, zs8, zs9, zt1, zt2, isC, TK.agg, rv, rv1, ldV, zt3, zt4, zn1, zn2, zn3, zn4, zn5, zn6, zn7, reduceIte, reduceCtorEq, eq_self])); (repeat (first | refine x_seq rfl ?_ | refine go_ops ?_ | refine go_blk ?_ | refine x_skip rfl ?_ | refine x_blk rfl rfl ?_ | refine x_exit rfl rfl rfl ?_ | refine x_ift rfl rfl rfl ?_ | refine x_iff rfl rfl rfl ?_ | refine x_label rfl ?_ | ((first | refine x_reg rfl rfl ?_ | (refine go_newx hty hnt hmh rfl rfl ?_; intro _)); refine runo0 400 hty hnt hmh ?_; simp only [so, sq, zy, zz, tyE, zs1, zs2, zs3, zs4, zs5, ev, zs6, dOk, cv, zu1, zu2, zu3, eqB, Value.oneCell', zs7, zs8, zs9, zt1, zt2, isC, TK.agg, rv, rv1, ldV, zt3, zt4, zn1, zn2, zn3, zn4, zn5, zn6, zn7, reduceIte, reduceCtorEq, eq_self])))
          refine go_q (v := .int .i64 (de A i)) (by rw [hnt]; rfl) ((quiet_loadR (k := 1) (by rw [hty]; rfl) rfl (by simp [TK.agg]) rfl (by simp; omega)).cast (by exact (ldd (A := B.set c ((i : Int), de A i)) (i := c) (by simp; omega) (by simp)).trans (by rw [de_set (by omega), if_pos rfl]))) ?_
          (try (refine runo0 400 hty hnt hmh ?_; simp only [so, sq, zy, zz, tyE, zs1, zs2, zs3, zs4, zs5, ev, zs6, dOk, cv, zu1, zu2, zu3, eqB, Value.oneCell', zs7, zs8, zs9, zt1, zt2, isC, TK.agg, rv, rv1, ldV, zt3, zt4, zn1, zn2, zn3, zn4, zn5, zn6, zn7, reduceIte, reduceCtorEq, eq_self])); (repeat (first | refine x_seq rfl ?_ | refine go_ops ?_ | refine go_blk ?_ | refine x_skip rfl ?_ | refine x_blk rfl rfl ?_ | refine x_exit rfl rfl rfl ?_ | refine x_ift rfl rfl rfl ?_ | refine x_iff rfl rfl rfl ?_ | refine x_label rfl ?_ | ((first | refine x_reg rfl rfl ?_ | (refine go_newx hty hnt hmh rfl rfl ?_; intro _)); refine runo0 400 hty hnt hmh ?_; simp only [so, sq, zy, zz, tyE, zs1, zs2, zs3, zs4, zs5, ev, zs6, dOk, cv, zu1, zu2, zu3, eqB, Value.oneCell', zs7, zs8, zs9, zt1, zt2, isC, TK.agg, rv, rv1, ldV, zt3, zt4, zn1, zn2, zn3, zn4, zn5, zn6, zn7, reduceIte, reduceCtorEq, eq_self])))
          rw [wr (n := de A i + 1) (by omega) (by omega)]
          refine go_q (by rw [hnt]; rfl) (quiet_index (by rw [hty]; rfl) (by rw [hty]; rfl) rfl rfl rfl (by omega) (by omega)) ?_
          (try (refine runo0 400 hty hnt hmh ?_; simp only [so, sq, zy, zz, tyE, zs1, zs2, zs3, zs4, zs5, ev, zs6, dOk, cv, zu1, zu2, zu3, eqB, Value.oneCell', zs7, zs8, zs9, zt1, zt2, isC, TK.agg, rv, rv1, ldV, zt3, zt4, zn1, zn2, zn3, zn4, zn5, zn6, zn7, reduceIte, reduceCtorEq, eq_self])); (repeat (first | refine x_seq rfl ?_ | refine go_ops ?_ | refine go_blk ?_ | refine x_skip rfl ?_ | refine x_blk rfl rfl ?_ | refine x_exit rfl rfl rfl ?_ | refine x_ift rfl rfl rfl ?_ | refine x_iff rfl rfl rfl ?_ | refine x_label rfl ?_ | ((first | refine x_reg rfl rfl ?_ | (refine go_newx hty hnt hmh rfl rfl ?_; intro _)); refine runo0 400 hty hnt hmh ?_; simp only [so, sq, zy, zz, tyE, zs1, zs2, zs3, zs4, zs5, ev, zs6, dOk, cv, zu1, zu2, zu3, eqB, Value.oneCell', zs7, zs8, zs9, zt1, zt2, isC, TK.agg, rv, rv1, ldV, zt3, zt4, zn1, zn2, zn3, zn4, zn5, zn6, zn7, reduceIte, reduceCtorEq, eq_self])))
          refine go_storeR 1 rfl (by rw [hty]; rfl) rfl rfl rfl rfl rfl rfl (lay1 (i := c) ((i : Int), de A i + 1) (by simp; omega) (by simp) rfl) ?_
          (try (refine runo0 400 hty hnt hmh ?_; simp only [so, sq, zy, zz, tyE, zs1, zs2, zs3, zs4, zs5, ev, zs6, dOk, cv, zu1, zu2, zu3, eqB, Value.oneCell', zs7, zs8, zs9, zt1, zt2, isC, TK.agg, rv, rv1, ldV, zt3, zt4, zn1, zn2, zn3, zn4, zn5, zn6, zn7, reduceIte, reduceCtorEq, eq_self])); (repeat (first | refine x_seq rfl ?_ | refine go_ops ?_ | refine go_blk ?_ | refine x_skip rfl ?_ | refine x_blk rfl rfl ?_ | refine x_exit rfl rfl rfl ?_ | refine x_ift rfl rfl rfl ?_ | refine x_iff rfl rfl rfl ?_ | refine x_label rfl ?_ | ((first | refine x_reg rfl rfl ?_ | (refine go_newx hty hnt hmh rfl rfl ?_; intro _)); refine runo0 400 hty hnt hmh ?_; simp only [so, sq, zy, zz, tyE, zs1, zs2, zs3, zs4, zs5, ev, zs6, dOk, cv, zu1, zu2, zu3, eqB, Value.oneCell', zs7, zs8, zs9, zt1, zt2, isC, TK.agg, rv, rv1, ldV, zt3, zt4, zn1, zn2, zn3, zn4, zn5, zn6, zn7, reduceIte, reduceCtorEq, eq_self])))
          rw [wr (n := (k : Int) + 1) (by omega) (by omega), hset]
          refine go_keep [0, 1, 4, 5, 77, 78, 79] [0, 1, 2] ?_
          simp only [so, sq, zy, zz, tyE, zs1, zs2, zs3, zs4, zs5, ev, zs6, dOk, cv, zu1, zu2, zu3, eqB, Value.oneCell', zs7, zs8, zs9, zt1, zt2, isC, TK.agg, rv, rv1, ldV, zt3, zt4, zn1, zn2, zn3, zn4, zn5, zn6, zn7, reduceIte, reduceCtorEq, eq_self]
          exact fin _ (by rw [more, if_pos ⟨hm1', hm2'⟩])
        · have hm2' : ¬ k = 1 := by simp at hm2; omega
          rw [wr (n := (k : Int) + 1) (by omega) (by omega)]
          refine go_keep [0, 1, 4, 5, 77, 78, 79] [0, 1, 2] ?_
          simp only [so, sq, zy, zz, tyE, zs1, zs2, zs3, zs4, zs5, ev, zs6, dOk, cv, zu1, zu2, zu3, eqB, Value.oneCell', zs7, zs8, zs9, zt1, zt2, isC, TK.agg, rv, rv1, ldV, zt3, zt4, zn1, zn2, zn3, zn4, zn5, zn6, zn7, reduceIte, reduceCtorEq, eq_self]
          exact fin _ (by rw [more, if_neg (by omega)]; simp)
      · have hm1' : ¬ x.op = 4 := by simpa using hm1
        rw [wr (n := (k : Int) + 1) (by omega) (by omega)]
        refine go_keep [0, 1, 4, 5, 77, 78, 79] [0, 1, 2] ?_
        simp only [so, sq, zy, zz, tyE, zs1, zs2, zs3, zs4, zs5, ev, zs6, dOk, cv, zu1, zu2, zu3, eqB, Value.oneCell', zs7, zs8, zs9, zt1, zt2, isC, TK.agg, rv, rv1, ldV, zt3, zt4, zn1, zn2, zn3, zn4, zn5, zn6, zn7, reduceIte, reduceCtorEq, eq_self]
        exact fin _ (by rw [more, if_neg (by omega)]; simp)
    · have hge : k = x.l.length := by simp at hjl; omega
      subst hge
      clear ih
      simp only [List.drop_length, kids] at hkid
      (try (refine runo0 400 hty hnt hmh ?_; simp only [so, sq, zy, zz, tyE, zs1, zs2, zs3, zs4, zs5, ev, zs6, dOk, cv, zu1, zu2, zu3, eqB, Value.oneCell', zs7, zs8, zs9, zt1, zt2, isC, TK.agg, rv, rv1, ldV, zt3, zt4, zn1, zn2, zn3, zn4, zn5, zn6, zn7, reduceIte, reduceCtorEq, eq_self])); (repeat (first | refine x_seq rfl ?_ | refine go_ops ?_ | refine go_blk ?_ | refine x_skip rfl ?_ | refine x_blk rfl rfl ?_ | refine x_exit rfl rfl rfl ?_ | refine x_ift rfl rfl rfl ?_ | refine x_iff rfl rfl rfl ?_ | refine x_label rfl ?_ | ((first | refine x_reg rfl rfl ?_ | (refine go_newx hty hnt hmh rfl rfl ?_; intro _)); refine runo0 400 hty hnt hmh ?_; simp only [so, sq, zy, zz, tyE, zs1, zs2, zs3, zs4, zs5, ev, zs6, dOk, cv, zu1, zu2, zu3, eqB, Value.oneCell', zs7, zs8, zs9, zt1, zt2, isC, TK.agg, rv, rv1, ldV, zt3, zt4, zn1, zn2, zn3, zn4, zn5, zn6, zn7, reduceIte, reduceCtorEq, eq_self])))
      refine x_retW rfl hQ hmb hmh hG0 hmub rfl rfl (by rw [hty]; simp only [so, sq, zy, zz, tyE, zs1, zs2, zs3, zs4, zs5, ev, zs6, dOk, cv, zu1, zu2, zu3, eqB, Value.oneCell', zs7, zs8, zs9, zt1, zt2, isC, TK.agg, rv, rv1, ldV, zt3, zt4, zn1, zn2, zn3, zn4, zn5, zn6, zn7, reduceIte, reduceCtorEq, eq_self]; try rfl) rfl rfl (by simp only [enumO]; exact (by repeat (first | exact plain_nil | refine plain_cons (fun _ h => h) ?_))) ?_; simp only [SV.den, resV, dens]
      refine ⟨by rw [hnb, hkid]; rfl, B, hB, rfl, fun B'' h => ?_⟩
      rw [hnb, hkid] at h
      exact Option.some.inj h
end Go.Proofs.Ytmdkenpodcnnbaa
namespace Go.Proofs.Ytmdkenpodcnnbaa
open Go.Sx renaming SO' → zs1, SQ' → zs2, opQ → zs3, opStore → zs4, opAlloc → zs5, putS → zs6, ldOwn → zs7, binInt → zs8, binConst → zs9, binBool → zt1, binStr → zt2, resOne → zt3, resV → zt4
open Go.Sx.SV renaming cs → zu1, one → zu2, bool? → zu3
open Nat renaming reduceAdd → zn1, reduceMul → zn2, reduceSub → zn3, reduceLT → zn4, reduceLeDiff → zn5, reduceEqDiff → zn6, reduceBEq → zn7
set_option linter.unusedSimpArgs false
set_option linter.unusedVariables false
open Go.Sx
set_option maxHeartbeats 4000000
theorem at_cells {G : Hp} {b : Nat} {vs : List Value} {e : TypeId} (h : G b = some (.cells vs.toArray e)) : At G b 0 vs := ⟨_, _, _, h, by simp, fun i hi => by simp⟩
theorem rep_one (v : Value) : ∀ n, rep [v] n = List.replicate n v
  | 0 => rfl
  | n + 1 => by simp only [rep, List.replicate_succ, rep_one v n]; rfl
def mid (n j : Nat) : Pl := List.replicate j (-1, 0) ++ List.replicate (n - j) (0, 0)
theorem mid_len {n j : Nat} (h : j ≤ n) : (mid n j).length = n := by simp [mid]; omega
theorem mid_set {n j : Nat} (h : j < n) : (mid n j).set j (-1, 0) = mid n (j + 1) := by
  simp only [mid]
  rw [List.set_append_right (h := by simp)]
  rw [show n - j = (n - (j + 1)) + 1 by omega, List.replicate_succ, List.replicate_succ']
  simp
/-- What look returns. -/
def lookR (f : Fu) (ns r : Value) (G' : Hp) : Prop :=
  match places f with
  | .inl i => r = .tuple #[.pointer none, .int .i64 i, .bool false]
  | .inr A => ∃ bv s1 s2, r = .tuple #[.pointer (some ⟨bv, 0, none⟩), .int .i64 0, .bool true] ∧ At G' bv 0 [.int .i64 f.params, ns, s1, s2] ∧ rI.S G' (A.map (·.1)) s1 ∧ rI.S G' (A.map (·.2)) s2
theorem look_ok (f : Fu) (ns : Value) (G : Hp) (hp : isI64 f.params) (hns : rN.S G f.nodes ns) : Pure Try.prog 42 [.agg #[.int .i64 f.params, ns]] G (fun r G' => lookR f ns r G') := by
  have hns0 := hns
  obtain ⟨ad, cap, rfl⟩ := Rp.S_slice hns
  have h63 := Rp.S_len hns
  simp only [isI64] at hp
  refine enterX ty tyok Try.func42 rfl Try.ntmps42 [.a [.v (.int .i64 f.params), .v (.slice ad f.nodes.length cap)]] (by simp) ?_
  intro C hP hQ hnt hty hmb hmh hro; have hQp := qp_body hQ; simp only [so, sq, zy, zz, tyE, zs1, zs2, zs3, zs4, zs5, ev, zs6, dOk, cv, zu1, zu2, zu3, eqB, Value.oneCell', zs7, zs8, zs9, zt1, zt2, isC, TK.agg, rv, rv1, ldV, zt3, zt4, zn1, zn2, zn3, zn4, zn5, zn6, zn7, reduceIte, reduceCtorEq, eq_self]
  (try (refine runo0 400 hty hnt hmh ?_; simp only [so, sq, zy, zz, tyE, zs1, zs2, zs3, zs4, zs5, ev, zs6, dOk, cv, zu1, zu2, zu3, eqB, Value.oneCell', zs7, zs8, zs9, zt1, zt2, isC, TK.agg, rv, rv1, ldV, zt3, zt4, zn1, zn2, zn3, zn4, zn5, zn6, zn7, reduceIte, reduceCtorEq, eq_self])); (repeat (first | refine x_seq rfl ?_ | refine go_ops ?_ | refine go_blk ?_ | refine x_skip rfl ?_ | refine x_blk rfl rfl ?_ | refine x_exit rfl rfl rfl ?_ | refine x_ift rfl rfl rfl ?_ | refine x_iff rfl rfl rfl ?_ | refine x_label rfl ?_ | ((first | refine x_reg rfl rfl ?_ | (refine go_newx hty hnt hmh rfl rfl ?_; intro _)); refine runo0 400 hty hnt hmh ?_; simp only [so, sq, zy, zz, tyE, zs1, zs2, zs3, zs4, zs5, ev, zs6, dOk, cv, zu1, zu2, zu3, eqB, Value.oneCell', zs7, zs8, zs9, zt1, zt2, isC, TK.agg, rv, rv1, ldV, zt3, zt4, zn1, zn2, zn3, zn4, zn5, zn6, zn7, reduceIte, reduceCtorEq, eq_self])))
  rename_i b1
  have ret : out f → lookR f (.slice ad f.nodes.length cap) (.tuple #[.pointer none, .int .i64 0, .bool false]) G := fun h => by
    simp only [lookR, places, if_pos h]; rfl
  refine go_gsplit rfl rfl (fun h1 => ?_) (fun h1 => ?_) <;> (simp only [so, sq, zy, zz, tyE, zs1, zs2, zs3, zs4, zs5, ev, zs6, dOk, cv, zu1, zu2, zu3, eqB, Value.oneCell', zs7, zs8, zs9, zt1, zt2, isC, TK.agg, rv, rv1, ldV, zt3, zt4, zn1, zn2, zn3, zn4, zn5, zn6, zn7, reduceIte, reduceCtorEq, eq_self]; ((try (refine runo0 400 hty hnt hmh ?_; simp only [so, sq, zy, zz, tyE, zs1, zs2, zs3, zs4, zs5, ev, zs6, dOk, cv, zu1, zu2, zu3, eqB, Value.oneCell', zs7, zs8, zs9, zt1, zt2, isC, TK.agg, rv, rv1, ldV, zt3, zt4, zn1, zn2, zn3, zn4, zn5, zn6, zn7, reduceIte, reduceCtorEq, eq_self])); (repeat (first | refine x_seq rfl ?_ | refine go_ops ?_ | refine go_blk ?_ | refine x_skip rfl ?_ | refine x_blk rfl rfl ?_ | refine x_exit rfl rfl rfl ?_ | refine x_ift rfl rfl rfl ?_ | refine x_iff rfl rfl rfl ?_ | refine x_label rfl ?_ | ((first | refine x_reg rfl rfl ?_ | (refine go_newx hty hnt hmh rfl rfl ?_; intro _)); refine runo0 400 hty hnt hmh ?_; simp only [so, sq, zy, zz, tyE, zs1, zs2, zs3, zs4, zs5, ev, zs6, dOk, cv, zu1, zu2, zu3, eqB, Value.oneCell', zs7, zs8, zs9, zt1, zt2, isC, TK.agg, rv, rv1, ldV, zt3, zt4, zn1, zn2, zn3, zn4, zn5, zn6, zn7, reduceIte, reduceCtorEq, eq_self])))))
  · refine x_retc rfl hQ hmb rfl (by rw [hty]; simp only [so, sq, zy, zz, tyE, zs1, zs2, zs3, zs4, zs5, ev, zs6, dOk, cv, zu1, zu2, zu3, eqB, Value.oneCell', zs7, zs8, zs9, zt1, zt2, isC, TK.agg, rv, rv1, ldV, zt3, zt4, zn1, zn2, zn3, zn4, zn5, zn6, zn7, reduceIte, reduceCtorEq, eq_self]; try rfl) rfl ?_; simp only [SV.den, resV, dens]
    exact ret (.inl (by simpa using h1))
  refine go_gsplit rfl rfl (fun h2 => ?_) (fun h2 => ?_) <;> (simp only [so, sq, zy, zz, tyE, zs1, zs2, zs3, zs4, zs5, ev, zs6, dOk, cv, zu1, zu2, zu3, eqB, Value.oneCell', zs7, zs8, zs9, zt1, zt2, isC, TK.agg, rv, rv1, ldV, zt3, zt4, zn1, zn2, zn3, zn4, zn5, zn6, zn7, reduceIte, reduceCtorEq, eq_self]; ((try (refine runo0 400 hty hnt hmh ?_; simp only [so, sq, zy, zz, tyE, zs1, zs2, zs3, zs4, zs5, ev, zs6, dOk, cv, zu1, zu2, zu3, eqB, Value.oneCell', zs7, zs8, zs9, zt1, zt2, isC, TK.agg, rv, rv1, ldV, zt3, zt4, zn1, zn2, zn3, zn4, zn5, zn6, zn7, reduceIte, reduceCtorEq, eq_self])); (repeat (first | refine x_seq rfl ?_ | refine go_ops ?_ | refine go_blk ?_ | refine x_skip rfl ?_ | refine x_blk rfl rfl ?_ | refine x_exit rfl rfl rfl ?_ | refine x_ift rfl rfl rfl ?_ | refine x_iff rfl rfl rfl ?_ | refine x_label rfl ?_ | ((first | refine x_reg rfl rfl ?_ | (refine go_newx hty hnt hmh rfl rfl ?_; intro _)); refine runo0 400 hty hnt hmh ?_; simp only [so, sq, zy, zz, tyE, zs1, zs2, zs3, zs4, zs5, ev, zs6, dOk, cv, zu1, zu2, zu3, eqB, Value.oneCell', zs7, zs8, zs9, zt1, zt2, isC, TK.agg, rv, rv1, ldV, zt3, zt4, zn1, zn2, zn3, zn4, zn5, zn6, zn7, reduceIte, reduceCtorEq, eq_self])))))
  · refine x_retc rfl hQ hmb rfl (by rw [hty]; simp only [so, sq, zy, zz, tyE, zs1, zs2, zs3, zs4, zs5, ev, zs6, dOk, cv, zu1, zu2, zu3, eqB, Value.oneCell', zs7, zs8, zs9, zt1, zt2, isC, TK.agg, rv, rv1, ldV, zt3, zt4, zn1, zn2, zn3, zn4, zn5, zn6, zn7, reduceIte, reduceCtorEq, eq_self]; try rfl) rfl ?_; simp only [SV.den, resV, dens]
    exact ret (.inr (.inl (by simpa using h2)))
  refine go_gsplit rfl rfl (fun h3 => ?_) (fun h3 => ?_) <;> (simp only [so, sq, zy, zz, tyE, zs1, zs2, zs3, zs4, zs5, ev, zs6, dOk, cv, zu1, zu2, zu3, eqB, Value.oneCell', zs7, zs8, zs9, zt1, zt2, isC, TK.agg, rv, rv1, ldV, zt3, zt4, zn1, zn2, zn3, zn4, zn5, zn6, zn7, reduceIte, reduceCtorEq, eq_self]; ((try (refine runo0 400 hty hnt hmh ?_; simp only [so, sq, zy, zz, tyE, zs1, zs2, zs3, zs4, zs5, ev, zs6, dOk, cv, zu1, zu2, zu3, eqB, Value.oneCell', zs7, zs8, zs9, zt1, zt2, isC, TK.agg, rv, rv1, ldV, zt3, zt4, zn1, zn2, zn3, zn4, zn5, zn6, zn7, reduceIte, reduceCtorEq, eq_self])); (repeat (first | refine x_seq rfl ?_ | refine go_ops ?_ | refine go_blk ?_ | refine x_skip rfl ?_ | refine x_blk rfl rfl ?_ | refine x_exit rfl rfl rfl ?_ | refine x_ift rfl rfl rfl ?_ | refine x_iff rfl rfl rfl ?_ | refine x_label rfl ?_ | ((first | refine x_reg rfl rfl ?_ | (refine go_newx hty hnt hmh rfl rfl ?_; intro _)); refine runo0 400 hty hnt hmh ?_; simp only [so, sq, zy, zz, tyE, zs1, zs2, zs3, zs4, zs5, ev, zs6, dOk, cv, zu1, zu2, zu3, eqB, Value.oneCell', zs7, zs8, zs9, zt1, zt2, isC, TK.agg, rv, rv1, ldV, zt3, zt4, zn1, zn2, zn3, zn4, zn5, zn6, zn7, reduceIte, reduceCtorEq, eq_self])))))
  · refine x_retc rfl hQ hmb rfl (by rw [hty]; simp only [so, sq, zy, zz, tyE, zs1, zs2, zs3, zs4, zs5, ev, zs6, dOk, cv, zu1, zu2, zu3, eqB, Value.oneCell', zs7, zs8, zs9, zt1, zt2, isC, TK.agg, rv, rv1, ldV, zt3, zt4, zn1, zn2, zn3, zn4, zn5, zn6, zn7, reduceIte, reduceCtorEq, eq_self]; try rfl) rfl ?_; simp only [SV.den, resV, dens]
    exact ret (.inr (.inr (.inl (by simp at h3; omega))))
  refine x_split rfl rfl rfl (fun h4 => ?_) (fun h4 => ?_) <;> (simp only [so, sq, zy, zz, tyE, zs1, zs2, zs3, zs4, zs5, ev, zs6, dOk, cv, zu1, zu2, zu3, eqB, Value.oneCell', zs7, zs8, zs9, zt1, zt2, isC, TK.agg, rv, rv1, ldV, zt3, zt4, zn1, zn2, zn3, zn4, zn5, zn6, zn7, reduceIte, reduceCtorEq, eq_self]; (repeat (first | refine x_seq rfl ?_ | refine go_ops ?_ | refine go_blk ?_ | refine x_skip rfl ?_ | refine x_blk rfl rfl ?_ | refine x_exit rfl rfl rfl ?_ | refine x_ift rfl rfl rfl ?_ | refine x_iff rfl rfl rfl ?_ | refine x_label rfl ?_ | ((first | refine x_reg rfl rfl ?_ | (refine go_newx hty hnt hmh rfl rfl ?_; intro _)); refine runo0 400 hty hnt hmh ?_; simp only [so, sq, zy, zz, tyE, zs1, zs2, zs3, zs4, zs5, ev, zs6, dOk, cv, zu1, zu2, zu3, eqB, Value.oneCell', zs7, zs8, zs9, zt1, zt2, isC, TK.agg, rv, rv1, ldV, zt3, zt4, zn1, zn2, zn3, zn4, zn5, zn6, zn7, reduceIte, reduceCtorEq, eq_self]))))
  · refine x_retc rfl hQ hmb rfl (by rw [hty]; simp only [so, sq, zy, zz, tyE, zs1, zs2, zs3, zs4, zs5, ev, zs6, dOk, cv, zu1, zu2, zu3, eqB, Value.oneCell', zs7, zs8, zs9, zt1, zt2, isC, TK.agg, rv, rv1, ldV, zt3, zt4, zn1, zn2, zn3, zn4, zn5, zn6, zn7, reduceIte, reduceCtorEq, eq_self]; try rfl) rfl ?_; simp only [SV.den, resV, dens]
    exact ret (.inr (.inr (.inr (by simp at h4; omega))))
  clear ret
  have hout : ¬ out f := by
    simp at h1 h2 h3 h4
    unfold out; omega
  have hn1 : 1 ≤ f.nodes.length := by unfold out at hout; omega
  have hn2 : f.nodes.length ≤ 200 := by unfold out at hout; omega
  refine go_keep [1, 5] [0] ?_
  simp only [so, sq, zy, zz, tyE, zs1, zs2, zs3, zs4, zs5, ev, zs6, dOk, cv, zu1, zu2, zu3, eqB, Value.oneCell', zs7, zs8, zs9, zt1, zt2, isC, TK.agg, rv, rv1, ldV, zt3, zt4, zn1, zn2, zn3, zn4, zn5, zn6, zn7, reduceIte, reduceCtorEq, eq_self]
  refine cut_tail 1 (fun s' => ∃ g1 g2 b6, s' = ⟨[(1, .p 0 b1 0), (5, .v (.int .i64 f.nodes.length)), (6, .p 12 b6 0)],
    [(0, b1, .c 46 [.v (.int .i64 f.params), .v (.slice ad f.nodes.length cap)]), (10, g1, .row (.slice (some ⟨g1, 0, none⟩) f.nodes.length f.nodes.length) 3 1 f.nodes.length ((mid f.nodes.length 0).map fp)),
     (11, g2, .row (.slice (some ⟨g2, 0, none⟩) f.nodes.length f.nodes.length) 3 1 f.nodes.length ((mid f.nodes.length 0).map fd)),
     (12, b6, .c 93 [.v (.int .i64 f.params), .v (.slice ad f.nodes.length cap), .v (.slice (some ⟨g1, 0, none⟩) f.nodes.length f.nodes.length), .v (.slice (some ⟨g2, 0, none⟩) f.nodes.length f.nodes.length)])], G, []⟩) ?_ ?_
  rotate_left
  · intro key
    simp only [List.drop_succ_cons, List.drop_zero] at key
    have hr1 : rep [Value.int .i64 0] f.nodes.length = (mid f.nodes.length 0).map fp := by rw [rep_one]; simp [mid, fp]
    have hr2 : rep [Value.int .i64 0] f.nodes.length = (mid f.nodes.length 0).map fd := by rw [rep_one]; simp [mid, fd]
    refine x_held [(0, b1, .c 46 [.v (.int .i64 f.params), .v (.slice ad f.nodes.length cap)])] rfl (by rw [hP]; kernel_rfl) rfl rfl rfl ?_; simp only [so, sq, zy, zz, tyE, zs1, zs2, zs3, zs4, zs5, ev, zs6, dOk, cv, zu1, zu2, zu3, eqB, Value.oneCell', zs7, zs8, zs9, zt1, zt2, isC, TK.agg, rv, rv1, ldV, zt3, zt4, zn1, zn2, zn3, zn4, zn5, zn6, zn7, reduceIte, reduceCtorEq, eq_self]
    refine h_take 0 rfl (by kernel_rfl) (by kernel_rfl) (by kernel_rfl) hQp (by rw [hnt]; rfl) (allIn (by repeat (first | exact trivial | refine ⟨rfl, ?_⟩))) (by first | exact Le.refl _ | assumption) (quiet_op (by rw [hty]; first | rfl | (simp only [so, sq, zy, zz, tyE, zs1, zs2, zs3, zs4, zs5, ev, zs6, dOk, cv, zu1, zu2, zu3, eqB, Value.oneCell', zs7, zs8, zs9, zt1, zt2, isC, TK.agg, rv, rv1, ldV, zt3, zt4, zn1, zn2, zn3, zn4, zn5, zn6, zn7, reduceIte, reduceCtorEq, eq_self]; rfl))) ?_; simp only [so, sq, zy, zz, tyE, zs1, zs2, zs3, zs4, zs5, ev, zs6, dOk, cv, zu1, zu2, zu3, eqB, Value.oneCell', zs7, zs8, zs9, zt1, zt2, isC, TK.agg, rv, rv1, ldV, zt3, zt4, zn1, zn2, zn3, zn4, zn5, zn6, zn7, reduceIte, reduceCtorEq, eq_self]
    refine h_take 1 rfl (by kernel_rfl) (by kernel_rfl) (by kernel_rfl) hQp (by rw [hnt]; rfl) (allIn (by repeat (first | exact trivial | refine ⟨rfl, ?_⟩))) (by first | exact Le.refl _ | assumption) (quiet_op (by rw [hty]; first | rfl | (simp only [so, sq, zy, zz, tyE, zs1, zs2, zs3, zs4, zs5, ev, zs6, dOk, cv, zu1, zu2, zu3, eqB, Value.oneCell', zs7, zs8, zs9, zt1, zt2, isC, TK.agg, rv, rv1, ldV, zt3, zt4, zn1, zn2, zn3, zn4, zn5, zn6, zn7, reduceIte, reduceCtorEq, eq_self]; rfl))) ?_; simp only [so, sq, zy, zz, tyE, zs1, zs2, zs3, zs4, zs5, ev, zs6, dOk, cv, zu1, zu2, zu3, eqB, Value.oneCell', zs7, zs8, zs9, zt1, zt2, isC, TK.agg, rv, rv1, ldV, zt3, zt4, zn1, zn2, zn3, zn4, zn5, zn6, zn7, reduceIte, reduceCtorEq, eq_self]
    refine h_take 3 rfl (by kernel_rfl) (by kernel_rfl) (by kernel_rfl) hQp (by rw [hnt]; rfl) (allIn (by repeat (first | exact trivial | refine ⟨rfl, ?_⟩))) (by first | exact Le.refl _ | assumption) (quiet_op (by rw [hty]; first | rfl | (simp only [so, sq, zy, zz, tyE, zs1, zs2, zs3, zs4, zs5, ev, zs6, dOk, cv, zu1, zu2, zu3, eqB, Value.oneCell', zs7, zs8, zs9, zt1, zt2, isC, TK.agg, rv, rv1, ldV, zt3, zt4, zn1, zn2, zn3, zn4, zn5, zn6, zn7, reduceIte, reduceCtorEq, eq_self]; rfl))) ?_; simp only [so, sq, zy, zz, tyE, zs1, zs2, zs3, zs4, zs5, ev, zs6, dOk, cv, zu1, zu2, zu3, eqB, Value.oneCell', zs7, zs8, zs9, zt1, zt2, isC, TK.agg, rv, rv1, ldV, zt3, zt4, zn1, zn2, zn3, zn4, zn5, zn6, zn7, reduceIte, reduceCtorEq, eq_self]
    refine h_two 2 4 rfl rfl (by kernel_rfl) ?_ ?_
    · refine go_make 10 (by rw [hnt]; rfl) (by rw [hty]; rfl) (by rw [hty]; rfl) rfl rfl (Nat.le_refl _) rfl (by omega) (by omega) (by simp only []; omega) (by simp) ?_
      intro g1
      (try (refine runo0 400 hty hnt hmh ?_; simp only [so, sq, zy, zz, tyE, zs1, zs2, zs3, zs4, zs5, ev, zs6, dOk, cv, zu1, zu2, zu3, eqB, Value.oneCell', zs7, zs8, zs9, zt1, zt2, isC, TK.agg, rv, rv1, ldV, zt3, zt4, zn1, zn2, zn3, zn4, zn5, zn6, zn7, reduceIte, reduceCtorEq, eq_self])); (repeat (first | refine x_seq rfl ?_ | refine go_ops ?_ | refine go_blk ?_ | refine x_skip rfl ?_ | refine x_blk rfl rfl ?_ | refine x_exit rfl rfl rfl ?_ | refine x_ift rfl rfl rfl ?_ | refine x_iff rfl rfl rfl ?_ | refine x_label rfl ?_ | ((first | refine x_reg rfl rfl ?_ | (refine go_newx hty hnt hmh rfl rfl ?_; intro _)); refine runo0 400 hty hnt hmh ?_; simp only [so, sq, zy, zz, tyE, zs1, zs2, zs3, zs4, zs5, ev, zs6, dOk, cv, zu1, zu2, zu3, eqB, Value.oneCell', zs7, zs8, zs9, zt1, zt2, isC, TK.agg, rv, rv1, ldV, zt3, zt4, zn1, zn2, zn3, zn4, zn5, zn6, zn7, reduceIte, reduceCtorEq, eq_self])))
      refine h_hs (allIn (by repeat (first | exact trivial | refine ⟨rfl, ?_⟩))) (by first | exact Le.refl _ | assumption) ?_
      refine h_one 4 rfl (by kernel_rfl) ?_
      refine go_make 11 (by rw [hnt]; rfl) (by rw [hty]; rfl) (by rw [hty]; rfl) rfl rfl (Nat.le_refl _) rfl (by omega) (by omega) (by simp only []; omega) (by simp) ?_
      intro g2
      (try (refine runo0 400 hty hnt hmh ?_; simp only [so, sq, zy, zz, tyE, zs1, zs2, zs3, zs4, zs5, ev, zs6, dOk, cv, zu1, zu2, zu3, eqB, Value.oneCell', zs7, zs8, zs9, zt1, zt2, isC, TK.agg, rv, rv1, ldV, zt3, zt4, zn1, zn2, zn3, zn4, zn5, zn6, zn7, reduceIte, reduceCtorEq, eq_self])); (repeat (first | refine x_seq rfl ?_ | refine go_ops ?_ | refine go_blk ?_ | refine x_skip rfl ?_ | refine x_blk rfl rfl ?_ | refine x_exit rfl rfl rfl ?_ | refine x_ift rfl rfl rfl ?_ | refine x_iff rfl rfl rfl ?_ | refine x_label rfl ?_ | ((first | refine x_reg rfl rfl ?_ | (refine go_newx hty hnt hmh rfl rfl ?_; intro _)); refine runo0 400 hty hnt hmh ?_; simp only [so, sq, zy, zz, tyE, zs1, zs2, zs3, zs4, zs5, ev, zs6, dOk, cv, zu1, zu2, zu3, eqB, Value.oneCell', zs7, zs8, zs9, zt1, zt2, isC, TK.agg, rv, rv1, ldV, zt3, zt4, zn1, zn2, zn3, zn4, zn5, zn6, zn7, reduceIte, reduceCtorEq, eq_self])))
      refine h_hs (allIn (by repeat (first | exact trivial | refine ⟨rfl, ?_⟩))) (by first | exact Le.refl _ | assumption) ?_
      refine h_take 5 rfl (by kernel_rfl) (by kernel_rfl) (by kernel_rfl) hQp (by rw [hnt]; rfl) (allIn (by repeat (first | exact trivial | refine ⟨rfl, ?_⟩))) (by first | exact Le.refl _ | assumption) (quiet_op (by rw [hty]; first | rfl | (simp only [so, sq, zy, zz, tyE, zs1, zs2, zs3, zs4, zs5, ev, zs6, dOk, cv, zu1, zu2, zu3, eqB, Value.oneCell', zs7, zs8, zs9, zt1, zt2, isC, TK.agg, rv, rv1, ldV, zt3, zt4, zn1, zn2, zn3, zn4, zn5, zn6, zn7, reduceIte, reduceCtorEq, eq_self]; rfl))) ?_; simp only [so, sq, zy, zz, tyE, zs1, zs2, zs3, zs4, zs5, ev, zs6, dOk, cv, zu1, zu2, zu3, eqB, Value.oneCell', zs7, zs8, zs9, zt1, zt2, isC, TK.agg, rv, rv1, ldV, zt3, zt4, zn1, zn2, zn3, zn4, zn5, zn6, zn7, reduceIte, reduceCtorEq, eq_self]
      refine h_one 6 rfl (by kernel_rfl) ?_
      (try (refine runo0 400 hty hnt hmh ?_; simp only [so, sq, zy, zz, tyE, zs1, zs2, zs3, zs4, zs5, ev, zs6, dOk, cv, zu1, zu2, zu3, eqB, Value.oneCell', zs7, zs8, zs9, zt1, zt2, isC, TK.agg, rv, rv1, ldV, zt3, zt4, zn1, zn2, zn3, zn4, zn5, zn6, zn7, reduceIte, reduceCtorEq, eq_self])); (repeat (first | refine x_seq rfl ?_ | refine go_ops ?_ | refine go_blk ?_ | refine x_skip rfl ?_ | refine x_blk rfl rfl ?_ | refine x_exit rfl rfl rfl ?_ | refine x_ift rfl rfl rfl ?_ | refine x_iff rfl rfl rfl ?_ | refine x_label rfl ?_ | ((first | refine x_reg rfl rfl ?_ | (refine go_newx hty hnt hmh rfl rfl ?_; intro _)); refine runo0 400 hty hnt hmh ?_; simp only [so, sq, zy, zz, tyE, zs1, zs2, zs3, zs4, zs5, ev, zs6, dOk, cv, zu1, zu2, zu3, eqB, Value.oneCell', zs7, zs8, zs9, zt1, zt2, isC, TK.agg, rv, rv1, ldV, zt3, zt4, zn1, zn2, zn3, zn4, zn5, zn6, zn7, reduceIte, reduceCtorEq, eq_self])))
      rename_i b6
      refine h_hs (allIn (by repeat (first | exact trivial | refine ⟨rfl, ?_⟩))) (by first | exact Le.refl _ | assumption) ?_
      refine h_take 7 rfl (by kernel_rfl) (by kernel_rfl) (by kernel_rfl) hQp (by rw [hnt]; rfl) (allIn (by repeat (first | exact trivial | refine ⟨rfl, ?_⟩))) (by first | exact Le.refl _ | assumption) (quiet_op (by rw [hty]; first | rfl | (simp only [so, sq, zy, zz, tyE, zs1, zs2, zs3, zs4, zs5, ev, zs6, dOk, cv, zu1, zu2, zu3, eqB, Value.oneCell', zs7, zs8, zs9, zt1, zt2, isC, TK.agg, rv, rv1, ldV, zt3, zt4, zn1, zn2, zn3, zn4, zn5, zn6, zn7, reduceIte, reduceCtorEq, eq_self]; rfl))) ?_; simp only [so, sq, zy, zz, tyE, zs1, zs2, zs3, zs4, zs5, ev, zs6, dOk, cv, zu1, zu2, zu3, eqB, Value.oneCell', zs7, zs8, zs9, zt1, zt2, isC, TK.agg, rv, rv1, ldV, zt3, zt4, zn1, zn2, zn3, zn4, zn5, zn6, zn7, reduceIte, reduceCtorEq, eq_self]
      refine h_end (by kernel_rfl) ?_
      refine go_keep [1, 5, 6] [0, 10, 11, 12] ?_
      simp only [so, sq, zy, zz, tyE, zs1, zs2, zs3, zs4, zs5, ev, zs6, dOk, cv, zu1, zu2, zu3, eqB, Value.oneCell', zs7, zs8, zs9, zt1, zt2, isC, TK.agg, rv, rv1, ldV, zt3, zt4, zn1, zn2, zn3, zn4, zn5, zn6, zn7, reduceIte, reduceCtorEq, eq_self]
      rw [← hr1, ← hr2] at key
      exact key _ ⟨g1, g2, b6, rfl⟩
    · refine go_make 11 (by rw [hnt]; rfl) (by rw [hty]; rfl) (by rw [hty]; rfl) rfl rfl (Nat.le_refl _) rfl (by omega) (by omega) (by simp only []; omega) (by simp) ?_
      intro g2
      (try (refine runo0 400 hty hnt hmh ?_; simp only [so, sq, zy, zz, tyE, zs1, zs2, zs3, zs4, zs5, ev, zs6, dOk, cv, zu1, zu2, zu3, eqB, Value.oneCell', zs7, zs8, zs9, zt1, zt2, isC, TK.agg, rv, rv1, ldV, zt3, zt4, zn1, zn2, zn3, zn4, zn5, zn6, zn7, reduceIte, reduceCtorEq, eq_self])); (repeat (first | refine x_seq rfl ?_ | refine go_ops ?_ | refine go_blk ?_ | refine x_skip rfl ?_ | refine x_blk rfl rfl ?_ | refine x_exit rfl rfl rfl ?_ | refine x_ift rfl rfl rfl ?_ | refine x_iff rfl rfl rfl ?_ | refine x_label rfl ?_ | ((first | refine x_reg rfl rfl ?_ | (refine go_newx hty hnt hmh rfl rfl ?_; intro _)); refine runo0 400 hty hnt hmh ?_; simp only [so, sq, zy, zz, tyE, zs1, zs2, zs3, zs4, zs5, ev, zs6, dOk, cv, zu1, zu2, zu3, eqB, Value.oneCell', zs7, zs8, zs9, zt1, zt2, isC, TK.agg, rv, rv1, ldV, zt3, zt4, zn1, zn2, zn3, zn4, zn5, zn6, zn7, reduceIte, reduceCtorEq, eq_self])))
      refine h_hs (allIn (by repeat (first | exact trivial | refine ⟨rfl, ?_⟩))) (by first | exact Le.refl _ | assumption) ?_
      refine h_one 2 rfl (by kernel_rfl) ?_
      refine go_make 10 (by rw [hnt]; rfl) (by rw [hty]; rfl) (by rw [hty]; rfl) rfl rfl (Nat.le_refl _) rfl (by omega) (by omega) (by simp only []; omega) (by simp) ?_
      intro g1
      (try (refine runo0 400 hty hnt hmh ?_; simp only [so, sq, zy, zz, tyE, zs1, zs2, zs3, zs4, zs5, ev, zs6, dOk, cv, zu1, zu2, zu3, eqB, Value.oneCell', zs7, zs8, zs9, zt1, zt2, isC, TK.agg, rv, rv1, ldV, zt3, zt4, zn1, zn2, zn3, zn4, zn5, zn6, zn7, reduceIte, reduceCtorEq, eq_self])); (repeat (first | refine x_seq rfl ?_ | refine go_ops ?_ | refine go_blk ?_ | refine x_skip rfl ?_ | refine x_blk rfl rfl ?_ | refine x_exit rfl rfl rfl ?_ | refine x_ift rfl rfl rfl ?_ | refine x_iff rfl rfl rfl ?_ | refine x_label rfl ?_ | ((first | refine x_reg rfl rfl ?_ | (refine go_newx hty hnt hmh rfl rfl ?_; intro _)); refine runo0 400 hty hnt hmh ?_; simp only [so, sq, zy, zz, tyE, zs1, zs2, zs3, zs4, zs5, ev, zs6, dOk, cv, zu1, zu2, zu3, eqB, Value.oneCell', zs7, zs8, zs9, zt1, zt2, isC, TK.agg, rv, rv1, ldV, zt3, zt4, zn1, zn2, zn3, zn4, zn5, zn6, zn7, reduceIte, reduceCtorEq, eq_self])))
      refine h_hs (allIn (by repeat (first | exact trivial | refine ⟨rfl, ?_⟩))) (by first | exact Le.refl _ | assumption) ?_
      refine h_take 5 rfl (by kernel_rfl) (by kernel_rfl) (by kernel_rfl) hQp (by rw [hnt]; rfl) (allIn (by repeat (first | exact trivial | refine ⟨rfl, ?_⟩))) (by first | exact Le.refl _ | assumption) (quiet_op (by rw [hty]; first | rfl | (simp only [so, sq, zy, zz, tyE, zs1, zs2, zs3, zs4, zs5, ev, zs6, dOk, cv, zu1, zu2, zu3, eqB, Value.oneCell', zs7, zs8, zs9, zt1, zt2, isC, TK.agg, rv, rv1, ldV, zt3, zt4, zn1, zn2, zn3, zn4, zn5, zn6, zn7, reduceIte, reduceCtorEq, eq_self]; rfl))) ?_; simp only [so, sq, zy, zz, tyE, zs1, zs2, zs3, zs4, zs5, ev, zs6, dOk, cv, zu1, zu2, zu3, eqB, Value.oneCell', zs7, zs8, zs9, zt1, zt2, isC, TK.agg, rv, rv1, ldV, zt3, zt4, zn1, zn2, zn3, zn4, zn5, zn6, zn7, reduceIte, reduceCtorEq, eq_self]
      refine h_one 6 rfl (by kernel_rfl) ?_
      (try (refine runo0 400 hty hnt hmh ?_; simp only [so, sq, zy, zz, tyE, zs1, zs2, zs3, zs4, zs5, ev, zs6, dOk, cv, zu1, zu2, zu3, eqB, Value.oneCell', zs7, zs8, zs9, zt1, zt2, isC, TK.agg, rv, rv1, ldV, zt3, zt4, zn1, zn2, zn3, zn4, zn5, zn6, zn7, reduceIte, reduceCtorEq, eq_self])); (repeat (first | refine x_seq rfl ?_ | refine go_ops ?_ | refine go_blk ?_ | refine x_skip rfl ?_ | refine x_blk rfl rfl ?_ | refine x_exit rfl rfl rfl ?_ | refine x_ift rfl rfl rfl ?_ | refine x_iff rfl rfl rfl ?_ | refine x_label rfl ?_ | ((first | refine x_reg rfl rfl ?_ | (refine go_newx hty hnt hmh rfl rfl ?_; intro _)); refine runo0 400 hty hnt hmh ?_; simp only [so, sq, zy, zz, tyE, zs1, zs2, zs3, zs4, zs5, ev, zs6, dOk, cv, zu1, zu2, zu3, eqB, Value.oneCell', zs7, zs8, zs9, zt1, zt2, isC, TK.agg, rv, rv1, ldV, zt3, zt4, zn1, zn2, zn3, zn4, zn5, zn6, zn7, reduceIte, reduceCtorEq, eq_self])))
      rename_i b6
      refine h_hs (allIn (by repeat (first | exact trivial | refine ⟨rfl, ?_⟩))) (by first | exact Le.refl _ | assumption) ?_
      refine h_take 7 rfl (by kernel_rfl) (by kernel_rfl) (by kernel_rfl) hQp (by rw [hnt]; rfl) (allIn (by repeat (first | exact trivial | refine ⟨rfl, ?_⟩))) (by first | exact Le.refl _ | assumption) (quiet_op (by rw [hty]; first | rfl | (simp only [so, sq, zy, zz, tyE, zs1, zs2, zs3, zs4, zs5, ev, zs6, dOk, cv, zu1, zu2, zu3, eqB, Value.oneCell', zs7, zs8, zs9, zt1, zt2, isC, TK.agg, rv, rv1, ldV, zt3, zt4, zn1, zn2, zn3, zn4, zn5, zn6, zn7, reduceIte, reduceCtorEq, eq_self]; rfl))) ?_; simp only [so, sq, zy, zz, tyE, zs1, zs2, zs3, zs4, zs5, ev, zs6, dOk, cv, zu1, zu2, zu3, eqB, Value.oneCell', zs7, zs8, zs9, zt1, zt2, isC, TK.agg, rv, rv1, ldV, zt3, zt4, zn1, zn2, zn3, zn4, zn5, zn6, zn7, reduceIte, reduceCtorEq, eq_self]
      refine h_end (by kernel_rfl) ?_
      refine go_keep [1, 5, 6] [0, 10, 11, 12] ?_
      simp only [so, sq, zy, zz, tyE, zs1, zs2, zs3, zs4, zs5, ev, zs6, dOk, cv, zu1, zu2, zu3, eqB, Value.oneCell', zs7, zs8, zs9, zt1, zt2, isC, TK.agg, rv, rv1, ldV, zt3, zt4, zn1, zn2, zn3, zn4, zn5, zn6, zn7, reduceIte, reduceCtorEq, eq_self]
      rw [← hr1, ← hr2] at key
      exact key _ ⟨g1, g2, b6, rfl⟩
  rintro s' ⟨g1, g2, b6, rfl⟩
  simp only [List.drop_succ_cons, List.drop_zero]
  refine go_pub 12 rfl (by omega) ?_
  rintro G1 (hle1 : Le G G1) hG1
  have hv : At G1 b6 0 [.int .i64 f.params, .slice ad f.nodes.length cap, .slice (some ⟨g1, 0, none⟩) f.nodes.length f.nodes.length, .slice (some ⟨g2, 0, none⟩) f.nodes.length f.nodes.length] := at_cells hG1
  have hv1 : At G1 b6 2 [.slice (some ⟨g1, 0, none⟩) f.nodes.length f.nodes.length] := by simpa using hv.sub 2 1 (by simp)
  have hv2 : At G1 b6 3 [.slice (some ⟨g2, 0, none⟩) f.nodes.length f.nodes.length] := by simpa using hv.sub 3 1 (by simp)
  refine go_slot 6 (.v (.pointer (some ⟨b6, 0, none⟩))) rfl rfl ?_
  refine go_keep [1, 5, 6] [0, 10, 11] ?_
  simp only [so, sq, zy, zz, tyE, zs1, zs2, zs3, zs4, zs5, ev, zs6, dOk, cv, zu1, zu2, zu3, eqB, Value.oneCell', zs7, zs8, zs9, zt1, zt2, isC, TK.agg, rv, rv1, ldV, zt3, zt4, zn1, zn2, zn3, zn4, zn5, zn6, zn7, reduceIte, reduceCtorEq, eq_self]
  (try (refine runo0 400 hty hnt hmh ?_; simp only [so, sq, zy, zz, tyE, zs1, zs2, zs3, zs4, zs5, ev, zs6, dOk, cv, zu1, zu2, zu3, eqB, Value.oneCell', zs7, zs8, zs9, zt1, zt2, isC, TK.agg, rv, rv1, ldV, zt3, zt4, zn1, zn2, zn3, zn4, zn5, zn6, zn7, reduceIte, reduceCtorEq, eq_self])); (repeat (first | refine x_seq rfl ?_ | refine go_ops ?_ | refine go_blk ?_ | refine x_skip rfl ?_ | refine x_blk rfl rfl ?_ | refine x_exit rfl rfl rfl ?_ | refine x_ift rfl rfl rfl ?_ | refine x_iff rfl rfl rfl ?_ | refine x_label rfl ?_ | ((first | refine x_reg rfl rfl ?_ | (refine go_newx hty hnt hmh rfl rfl ?_; intro _)); refine runo0 400 hty hnt hmh ?_; simp only [so, sq, zy, zz, tyE, zs1, zs2, zs3, zs4, zs5, ev, zs6, dOk, cv, zu1, zu2, zu3, eqB, Value.oneCell', zs7, zs8, zs9, zt1, zt2, isC, TK.agg, rv, rv1, ldV, zt3, zt4, zn1, zn2, zn3, zn4, zn5, zn6, zn7, reduceIte, reduceCtorEq, eq_self])))
  refine go_q (by rw [hnt]; rfl) (quiet_load (by rw [hty]; rfl) rfl (by simp [TK.agg]) hv1 rfl) ?_; (try (refine runo0 400 hty hnt hmh ?_; simp only [so, sq, zy, zz, tyE, zs1, zs2, zs3, zs4, zs5, ev, zs6, dOk, cv, zu1, zu2, zu3, eqB, Value.oneCell', zs7, zs8, zs9, zt1, zt2, isC, TK.agg, rv, rv1, ldV, zt3, zt4, zn1, zn2, zn3, zn4, zn5, zn6, zn7, reduceIte, reduceCtorEq, eq_self])); (repeat (first | refine x_seq rfl ?_ | refine go_ops ?_ | refine go_blk ?_ | refine x_skip rfl ?_ | refine x_blk rfl rfl ?_ | refine x_exit rfl rfl rfl ?_ | refine x_ift rfl rfl rfl ?_ | refine x_iff rfl rfl rfl ?_ | refine x_label rfl ?_ | ((first | refine x_reg rfl rfl ?_ | (refine go_newx hty hnt hmh rfl rfl ?_; intro _)); refine runo0 400 hty hnt hmh ?_; simp only [so, sq, zy, zz, tyE, zs1, zs2, zs3, zs4, zs5, ev, zs6, dOk, cv, zu1, zu2, zu3, eqB, Value.oneCell', zs7, zs8, zs9, zt1, zt2, isC, TK.agg, rv, rv1, ldV, zt3, zt4, zn1, zn2, zn3, zn4, zn5, zn6, zn7, reduceIte, reduceCtorEq, eq_self])))
  refine go_keep [1, 5, 6, 39, 40] [0, 10, 11] ?_
  simp only [so, sq, zy, zz, tyE, zs1, zs2, zs3, zs4, zs5, ev, zs6, dOk, cv, zu1, zu2, zu3, eqB, Value.oneCell', zs7, zs8, zs9, zt1, zt2, isC, TK.agg, rv, rv1, ldV, zt3, zt4, zn1, zn2, zn3, zn4, zn5, zn6, zn7, reduceIte, reduceCtorEq, eq_self]
  refine x_loop rfl (fun q s => ∃ (j : Nat), j ≤ f.nodes.length ∧ q = f.nodes.length - j ∧
    s = ⟨[(1, .p 0 b1 0), (5, .v (.int .i64 f.nodes.length)), (6, .v (.pointer (some ⟨b6, 0, none⟩))), (39, .v (.int .i64 f.nodes.length)), (40, .v (.int .i64 j))],
      [(0, b1, .c 46 [.v (.int .i64 f.params), .v (.slice ad f.nodes.length cap)]), (10, g1, .row (.slice (some ⟨g1, 0, none⟩) f.nodes.length f.nodes.length) 3 1 f.nodes.length ((mid f.nodes.length j).map fp)),
       (11, g2, .row (.slice (some ⟨g2, 0, none⟩) f.nodes.length f.nodes.length) 3 1 f.nodes.length ((mid f.nodes.length 0).map fd))], G1, []⟩) ⟨0, by omega, rfl, rfl⟩ ?_
  rintro q s ⟨j, hj, hq, rfl⟩ ih
  (try (refine runo0 400 hty hnt hmh ?_; simp only [so, sq, zy, zz, tyE, zs1, zs2, zs3, zs4, zs5, ev, zs6, dOk, cv, zu1, zu2, zu3, eqB, Value.oneCell', zs7, zs8, zs9, zt1, zt2, isC, TK.agg, rv, rv1, ldV, zt3, zt4, zn1, zn2, zn3, zn4, zn5, zn6, zn7, reduceIte, reduceCtorEq, eq_self])); (repeat (first | refine x_seq rfl ?_ | refine go_ops ?_ | refine go_blk ?_ | refine x_skip rfl ?_ | refine x_blk rfl rfl ?_ | refine x_exit rfl rfl rfl ?_ | refine x_ift rfl rfl rfl ?_ | refine x_iff rfl rfl rfl ?_ | refine x_label rfl ?_ | ((first | refine x_reg rfl rfl ?_ | (refine go_newx hty hnt hmh rfl rfl ?_; intro _)); refine runo0 400 hty hnt hmh ?_; simp only [so, sq, zy, zz, tyE, zs1, zs2, zs3, zs4, zs5, ev, zs6, dOk, cv, zu1, zu2, zu3, eqB, Value.oneCell', zs7, zs8, zs9, zt1, zt2, isC, TK.agg, rv, rv1, ldV, zt3, zt4, zn1, zn2, zn3, zn4, zn5, zn6, zn7, reduceIte, reduceCtorEq, eq_self])))
  refine x_if rfl rfl rfl rfl (fun hjl => ?_) (fun hjl => ?_)
  · have hlt : j < f.nodes.length := by simp at hjl; omega
    (try (refine runo0 400 hty hnt hmh ?_; simp only [so, sq, zy, zz, tyE, zs1, zs2, zs3, zs4, zs5, ev, zs6, dOk, cv, zu1, zu2, zu3, eqB, Value.oneCell', zs7, zs8, zs9, zt1, zt2, isC, TK.agg, rv, rv1, ldV, zt3, zt4, zn1, zn2, zn3, zn4, zn5, zn6, zn7, reduceIte, reduceCtorEq, eq_self])); (repeat (first | refine x_seq rfl ?_ | refine go_ops ?_ | refine go_blk ?_ | refine x_skip rfl ?_ | refine x_blk rfl rfl ?_ | refine x_exit rfl rfl rfl ?_ | refine x_ift rfl rfl rfl ?_ | refine x_iff rfl rfl rfl ?_ | refine x_label rfl ?_ | ((first | refine x_reg rfl rfl ?_ | (refine go_newx hty hnt hmh rfl rfl ?_; intro _)); refine runo0 400 hty hnt hmh ?_; simp only [so, sq, zy, zz, tyE, zs1, zs2, zs3, zs4, zs5, ev, zs6, dOk, cv, zu1, zu2, zu3, eqB, Value.oneCell', zs7, zs8, zs9, zt1, zt2, isC, TK.agg, rv, rv1, ldV, zt3, zt4, zn1, zn2, zn3, zn4, zn5, zn6, zn7, reduceIte, reduceCtorEq, eq_self])))
    refine go_q (by rw [hnt]; rfl) (quiet_load (by rw [hty]; rfl) rfl (by simp [TK.agg]) hv1 rfl) ?_; (try (refine runo0 400 hty hnt hmh ?_; simp only [so, sq, zy, zz, tyE, zs1, zs2, zs3, zs4, zs5, ev, zs6, dOk, cv, zu1, zu2, zu3, eqB, Value.oneCell', zs7, zs8, zs9, zt1, zt2, isC, TK.agg, rv, rv1, ldV, zt3, zt4, zn1, zn2, zn3, zn4, zn5, zn6, zn7, reduceIte, reduceCtorEq, eq_self])); (repeat (first | refine x_seq rfl ?_ | refine go_ops ?_ | refine go_blk ?_ | refine x_skip rfl ?_ | refine x_blk rfl rfl ?_ | refine x_exit rfl rfl rfl ?_ | refine x_ift rfl rfl rfl ?_ | refine x_iff rfl rfl rfl ?_ | refine x_label rfl ?_ | ((first | refine x_reg rfl rfl ?_ | (refine go_newx hty hnt hmh rfl rfl ?_; intro _)); refine runo0 400 hty hnt hmh ?_; simp only [so, sq, zy, zz, tyE, zs1, zs2, zs3, zs4, zs5, ev, zs6, dOk, cv, zu1, zu2, zu3, eqB, Value.oneCell', zs7, zs8, zs9, zt1, zt2, isC, TK.agg, rv, rv1, ldV, zt3, zt4, zn1, zn2, zn3, zn4, zn5, zn6, zn7, reduceIte, reduceCtorEq, eq_self])))
    refine go_q (by rw [hnt]; rfl) (quiet_index (by rw [hty]; rfl) (by rw [hty]; rfl) rfl rfl rfl (by omega) (by omega)) ?_
    (try (refine runo0 400 hty hnt hmh ?_; simp only [so, sq, zy, zz, tyE, zs1, zs2, zs3, zs4, zs5, ev, zs6, dOk, cv, zu1, zu2, zu3, eqB, Value.oneCell', zs7, zs8, zs9, zt1, zt2, isC, TK.agg, rv, rv1, ldV, zt3, zt4, zn1, zn2, zn3, zn4, zn5, zn6, zn7, reduceIte, reduceCtorEq, eq_self])); (repeat (first | refine x_seq rfl ?_ | refine go_ops ?_ | refine go_blk ?_ | refine x_skip rfl ?_ | refine x_blk rfl rfl ?_ | refine x_exit rfl rfl rfl ?_ | refine x_ift rfl rfl rfl ?_ | refine x_iff rfl rfl rfl ?_ | refine x_label rfl ?_ | ((first | refine x_reg rfl rfl ?_ | (refine go_newx hty hnt hmh rfl rfl ?_; intro _)); refine runo0 400 hty hnt hmh ?_; simp only [so, sq, zy, zz, tyE, zs1, zs2, zs3, zs4, zs5, ev, zs6, dOk, cv, zu1, zu2, zu3, eqB, Value.oneCell', zs7, zs8, zs9, zt1, zt2, isC, TK.agg, rv, rv1, ldV, zt3, zt4, zn1, zn2, zn3, zn4, zn5, zn6, zn7, reduceIte, reduceCtorEq, eq_self])))
    refine go_storeR 10 rfl (by rw [hty]; rfl) rfl rfl rfl rfl rfl rfl (lay1 (i := j) ((-1 : Int), (0 : Int)) (by rw [mid_len hj]; omega) (by simp) rfl) ?_
    (try (refine runo0 400 hty hnt hmh ?_; simp only [so, sq, zy, zz, tyE, zs1, zs2, zs3, zs4, zs5, ev, zs6, dOk, cv, zu1, zu2, zu3, eqB, Value.oneCell', zs7, zs8, zs9, zt1, zt2, isC, TK.agg, rv, rv1, ldV, zt3, zt4, zn1, zn2, zn3, zn4, zn5, zn6, zn7, reduceIte, reduceCtorEq, eq_self])); (repeat (first | refine x_seq rfl ?_ | refine go_ops ?_ | refine go_blk ?_ | refine x_skip rfl ?_ | refine x_blk rfl rfl ?_ | refine x_exit rfl rfl rfl ?_ | refine x_ift rfl rfl rfl ?_ | refine x_iff rfl rfl rfl ?_ | refine x_label rfl ?_ | ((first | refine x_reg rfl rfl ?_ | (refine go_newx hty hnt hmh rfl rfl ?_; intro _)); refine runo0 400 hty hnt hmh ?_; simp only [so, sq, zy, zz, tyE, zs1, zs2, zs3, zs4, zs5, ev, zs6, dOk, cv, zu1, zu2, zu3, eqB, Value.oneCell', zs7, zs8, zs9, zt1, zt2, isC, TK.agg, rv, rv1, ldV, zt3, zt4, zn1, zn2, zn3, zn4, zn5, zn6, zn7, reduceIte, reduceCtorEq, eq_self])))
    rw [wr (n := (j : Int) + 1) (by omega) (by omega), mid_set hlt]
    refine go_keep [1, 5, 6, 39, 40] [0, 10, 11] ?_
    simp only [so, sq, zy, zz, tyE, zs1, zs2, zs3, zs4, zs5, ev, zs6, dOk, cv, zu1, zu2, zu3, eqB, Value.oneCell', zs7, zs8, zs9, zt1, zt2, isC, TK.agg, rv, rv1, ldV, zt3, zt4, zn1, zn2, zn3, zn4, zn5, zn6, zn7, reduceIte, reduceCtorEq, eq_self]
    exact ih (f.nodes.length - (j + 1)) _ (by omega) ⟨j + 1, by omega, rfl, by simp⟩
  have hge : j = f.nodes.length := by simp at hjl; omega
  subst hge
  clear ih
  have hm1 : mid f.nodes.length f.nodes.length = List.replicate f.nodes.length (-1, 0) := by simp [mid]
  have hm2 : (mid f.nodes.length 0).map fd = (List.replicate f.nodes.length ((-1 : Int), (0 : Int))).map fd := by simp [mid, fd]
  rw [hm1, hm2]
  (try (refine runo0 400 hty hnt hmh ?_; simp only [so, sq, zy, zz, tyE, zs1, zs2, zs3, zs4, zs5, ev, zs6, dOk, cv, zu1, zu2, zu3, eqB, Value.oneCell', zs7, zs8, zs9, zt1, zt2, isC, TK.agg, rv, rv1, ldV, zt3, zt4, zn1, zn2, zn3, zn4, zn5, zn6, zn7, reduceIte, reduceCtorEq, eq_self])); (repeat (first | refine x_seq rfl ?_ | refine go_ops ?_ | refine go_blk ?_ | refine x_skip rfl ?_ | refine x_blk rfl rfl ?_ | refine x_exit rfl rfl rfl ?_ | refine x_ift rfl rfl rfl ?_ | refine x_iff rfl rfl rfl ?_ | refine x_label rfl ?_ | ((first | refine x_reg rfl rfl ?_ | (refine go_newx hty hnt hmh rfl rfl ?_; intro _)); refine runo0 400 hty hnt hmh ?_; simp only [so, sq, zy, zz, tyE, zs1, zs2, zs3, zs4, zs5, ev, zs6, dOk, cv, zu1, zu2, zu3, eqB, Value.oneCell', zs7, zs8, zs9, zt1, zt2, isC, TK.agg, rv, rv1, ldV, zt3, zt4, zn1, zn2, zn3, zn4, zn5, zn6, zn7, reduceIte, reduceCtorEq, eq_self])))
  refine x_held [(0, b1, .c 46 [.v (.int .i64 f.params), .v (.slice ad f.nodes.length cap)])] rfl (by rw [hP]; kernel_rfl) rfl rfl rfl ?_; simp only [so, sq, zy, zz, tyE, zs1, zs2, zs3, zs4, zs5, ev, zs6, dOk, cv, zu1, zu2, zu3, eqB, Value.oneCell', zs7, zs8, zs9, zt1, zt2, isC, TK.agg, rv, rv1, ldV, zt3, zt4, zn1, zn2, zn3, zn4, zn5, zn6, zn7, reduceIte, reduceCtorEq, eq_self]
  refine h_take 0 rfl (by kernel_rfl) (by kernel_rfl) (by kernel_rfl) hQp (by rw [hnt]; rfl) (allIn (by repeat (first | exact trivial | refine ⟨rfl, ?_⟩))) (by first | exact Le.refl _ | assumption) (quiet_op (by rw [hty]; first | rfl | (simp only [so, sq, zy, zz, tyE, zs1, zs2, zs3, zs4, zs5, ev, zs6, dOk, cv, zu1, zu2, zu3, eqB, Value.oneCell', zs7, zs8, zs9, zt1, zt2, isC, TK.agg, rv, rv1, ldV, zt3, zt4, zn1, zn2, zn3, zn4, zn5, zn6, zn7, reduceIte, reduceCtorEq, eq_self]; rfl))) ?_; simp only [so, sq, zy, zz, tyE, zs1, zs2, zs3, zs4, zs5, ev, zs6, dOk, cv, zu1, zu2, zu3, eqB, Value.oneCell', zs7, zs8, zs9, zt1, zt2, isC, TK.agg, rv, rv1, ldV, zt3, zt4, zn1, zn2, zn3, zn4, zn5, zn6, zn7, reduceIte, reduceCtorEq, eq_self]
  refine h_take 1 rfl (by kernel_rfl) (by kernel_rfl) (by kernel_rfl) hQp (by rw [hnt]; rfl) (allIn (by repeat (first | exact trivial | refine ⟨rfl, ?_⟩))) (by first | exact Le.refl _ | assumption) (quiet_op (by rw [hty]; first | rfl | (simp only [so, sq, zy, zz, tyE, zs1, zs2, zs3, zs4, zs5, ev, zs6, dOk, cv, zu1, zu2, zu3, eqB, Value.oneCell', zs7, zs8, zs9, zt1, zt2, isC, TK.agg, rv, rv1, ldV, zt3, zt4, zn1, zn2, zn3, zn4, zn5, zn6, zn7, reduceIte, reduceCtorEq, eq_self]; rfl))) ?_; simp only [so, sq, zy, zz, tyE, zs1, zs2, zs3, zs4, zs5, ev, zs6, dOk, cv, zu1, zu2, zu3, eqB, Value.oneCell', zs7, zs8, zs9, zt1, zt2, isC, TK.agg, rv, rv1, ldV, zt3, zt4, zn1, zn2, zn3, zn4, zn5, zn6, zn7, reduceIte, reduceCtorEq, eq_self]
  refine h_take 2 rfl (by kernel_rfl) (by kernel_rfl) (by kernel_rfl) hQp (by rw [hnt]; rfl) (allIn (by repeat (first | exact trivial | refine ⟨rfl, ?_⟩))) (by first | exact Le.refl _ | assumption) (quiet_op (by rw [hty]; first | rfl | (simp only [so, sq, zy, zz, tyE, zs1, zs2, zs3, zs4, zs5, ev, zs6, dOk, cv, zu1, zu2, zu3, eqB, Value.oneCell', zs7, zs8, zs9, zt1, zt2, isC, TK.agg, rv, rv1, ldV, zt3, zt4, zn1, zn2, zn3, zn4, zn5, zn6, zn7, reduceIte, reduceCtorEq, eq_self]; rfl))) ?_; simp only [so, sq, zy, zz, tyE, zs1, zs2, zs3, zs4, zs5, ev, zs6, dOk, cv, zu1, zu2, zu3, eqB, Value.oneCell', zs7, zs8, zs9, zt1, zt2, isC, TK.agg, rv, rv1, ldV, zt3, zt4, zn1, zn2, zn3, zn4, zn5, zn6, zn7, reduceIte, reduceCtorEq, eq_self]
  refine h_take 3 rfl (by kernel_rfl) (by kernel_rfl) (by kernel_rfl) hQp (by rw [hnt]; rfl) (allIn (by repeat (first | exact trivial | refine ⟨rfl, ?_⟩))) (by first | exact Le.refl _ | assumption) (x := .v (.slice (some ⟨g2, 0, none⟩) f.nodes.length f.nodes.length)) ((quiet_load (by rw [hty]; rfl) rfl (by simp [TK.agg]) hv2 rfl).cast rfl) ?_
  simp only [so, sq, zy, zz, tyE, zs1, zs2, zs3, zs4, zs5, ev, zs6, dOk, cv, zu1, zu2, zu3, eqB, Value.oneCell', zs7, zs8, zs9, zt1, zt2, isC, TK.agg, rv, rv1, ldV, zt3, zt4, zn1, zn2, zn3, zn4, zn5, zn6, zn7, reduceIte, reduceCtorEq, eq_self]
  refine h_take 4 rfl (by kernel_rfl) (by kernel_rfl) (by kernel_rfl) hQp (by rw [hnt]; rfl) (allIn (by repeat (first | exact trivial | refine ⟨rfl, ?_⟩))) (by first | exact Le.refl _ | assumption) (quiet_op (by rw [hty]; first | rfl | (simp only [so, sq, zy, zz, tyE, zs1, zs2, zs3, zs4, zs5, ev, zs6, dOk, cv, zu1, zu2, zu3, eqB, Value.oneCell', zs7, zs8, zs9, zt1, zt2, isC, TK.agg, rv, rv1, ldV, zt3, zt4, zn1, zn2, zn3, zn4, zn5, zn6, zn7, reduceIte, reduceCtorEq, eq_self]; rfl))) ?_; simp only [so, sq, zy, zz, tyE, zs1, zs2, zs3, zs4, zs5, ev, zs6, dOk, cv, zu1, zu2, zu3, eqB, Value.oneCell', zs7, zs8, zs9, zt1, zt2, isC, TK.agg, rv, rv1, ldV, zt3, zt4, zn1, zn2, zn3, zn4, zn5, zn6, zn7, reduceIte, reduceCtorEq, eq_self]
  refine h_take 5 rfl (by kernel_rfl) (by kernel_rfl) (by kernel_rfl) hQp (by rw [hnt]; rfl) (allIn (by repeat (first | exact trivial | refine ⟨rfl, ?_⟩))) (by first | exact Le.refl _ | assumption) (quiet_op (by rw [hty]; first | rfl | (simp only [so, sq, zy, zz, tyE, zs1, zs2, zs3, zs4, zs5, ev, zs6, dOk, cv, zu1, zu2, zu3, eqB, Value.oneCell', zs7, zs8, zs9, zt1, zt2, isC, TK.agg, rv, rv1, ldV, zt3, zt4, zn1, zn2, zn3, zn4, zn5, zn6, zn7, reduceIte, reduceCtorEq, eq_self]; rfl))) ?_; simp only [so, sq, zy, zz, tyE, zs1, zs2, zs3, zs4, zs5, ev, zs6, dOk, cv, zu1, zu2, zu3, eqB, Value.oneCell', zs7, zs8, zs9, zt1, zt2, isC, TK.agg, rv, rv1, ldV, zt3, zt4, zn1, zn2, zn3, zn4, zn5, zn6, zn7, reduceIte, reduceCtorEq, eq_self]
  refine h_take 6 rfl (by kernel_rfl) (by kernel_rfl) (by kernel_rfl) hQp (by rw [hnt]; rfl) (allIn (by repeat (first | exact trivial | refine ⟨rfl, ?_⟩))) (by first | exact Le.refl _ | assumption) (x := .v (.pointer (some ⟨g2, 0, none⟩))) ((quiet_index (by rw [hty]; rfl) (by rw [hty]; rfl) rfl rfl rfl (by omega) (by omega)).cast (by simp [SV.den])) ?_
  simp only [so, sq, zy, zz, tyE, zs1, zs2, zs3, zs4, zs5, ev, zs6, dOk, cv, zu1, zu2, zu3, eqB, Value.oneCell', zs7, zs8, zs9, zt1, zt2, isC, TK.agg, rv, rv1, ldV, zt3, zt4, zn1, zn2, zn3, zn4, zn5, zn6, zn7, reduceIte, reduceCtorEq, eq_self]
  refine h_one 7 rfl (by kernel_rfl) ?_
  refine go_storeR 11 rfl (by rw [hty]; rfl) rfl rfl rfl rfl rfl rfl (lay1 (i := 0) ((-1 : Int), f.params) (by simp; omega) (by simp) rfl) ?_
  (try (refine runo0 400 hty hnt hmh ?_; simp only [so, sq, zy, zz, tyE, zs1, zs2, zs3, zs4, zs5, ev, zs6, dOk, cv, zu1, zu2, zu3, eqB, Value.oneCell', zs7, zs8, zs9, zt1, zt2, isC, TK.agg, rv, rv1, ldV, zt3, zt4, zn1, zn2, zn3, zn4, zn5, zn6, zn7, reduceIte, reduceCtorEq, eq_self])); (repeat (first | refine x_seq rfl ?_ | refine go_ops ?_ | refine go_blk ?_ | refine x_skip rfl ?_ | refine x_blk rfl rfl ?_ | refine x_exit rfl rfl rfl ?_ | refine x_ift rfl rfl rfl ?_ | refine x_iff rfl rfl rfl ?_ | refine x_label rfl ?_ | ((first | refine x_reg rfl rfl ?_ | (refine go_newx hty hnt hmh rfl rfl ?_; intro _)); refine runo0 400 hty hnt hmh ?_; simp only [so, sq, zy, zz, tyE, zs1, zs2, zs3, zs4, zs5, ev, zs6, dOk, cv, zu1, zu2, zu3, eqB, Value.oneCell', zs7, zs8, zs9, zt1, zt2, isC, TK.agg, rv, rv1, ldV, zt3, zt4, zn1, zn2, zn3, zn4, zn5, zn6, zn7, reduceIte, reduceCtorEq, eq_self])))
  refine h_hs (allIn (by repeat (first | exact trivial | refine ⟨rfl, ?_⟩))) (by first | exact Le.refl _ | assumption) ?_
  refine h_end (by kernel_rfl) ?_
  (try (refine runo0 400 hty hnt hmh ?_; simp only [so, sq, zy, zz, tyE, zs1, zs2, zs3, zs4, zs5, ev, zs6, dOk, cv, zu1, zu2, zu3, eqB, Value.oneCell', zs7, zs8, zs9, zt1, zt2, isC, TK.agg, rv, rv1, ldV, zt3, zt4, zn1, zn2, zn3, zn4, zn5, zn6, zn7, reduceIte, reduceCtorEq, eq_self])); (repeat (first | refine x_seq rfl ?_ | refine go_ops ?_ | refine go_blk ?_ | refine x_skip rfl ?_ | refine x_blk rfl rfl ?_ | refine x_exit rfl rfl rfl ?_ | refine x_ift rfl rfl rfl ?_ | refine x_iff rfl rfl rfl ?_ | refine x_label rfl ?_ | ((first | refine x_reg rfl rfl ?_ | (refine go_newx hty hnt hmh rfl rfl ?_; intro _)); refine runo0 400 hty hnt hmh ?_; simp only [so, sq, zy, zz, tyE, zs1, zs2, zs3, zs4, zs5, ev, zs6, dOk, cv, zu1, zu2, zu3, eqB, Value.oneCell', zs7, zs8, zs9, zt1, zt2, isC, TK.agg, rv, rv1, ldV, zt3, zt4, zn1, zn2, zn3, zn4, zn5, zn6, zn7, reduceIte, reduceCtorEq, eq_self])))
  have hm3 : (List.replicate f.nodes.length ((-1 : Int), (0 : Int))).map fp = (pl0 f).map fp := by
    simp only [pl0, List.map_set, fp, List.map_replicate]
    obtain ⟨m, hm⟩ : ∃ m, f.nodes.length = m + 1 := ⟨f.nodes.length - 1, by omega⟩
    rw [hm]; simp [List.replicate_succ]
  rw [hm3]
  refine go_keep [1, 5, 6, 59, 60] [0, 10, 11] ?_
  simp only [so, sq, zy, zz, tyE, zs1, zs2, zs3, zs4, zs5, ev, zs6, dOk, cv, zu1, zu2, zu3, eqB, Value.oneCell', zs7, zs8, zs9, zt1, zt2, isC, TK.agg, rv, rv1, ldV, zt3, zt4, zn1, zn2, zn3, zn4, zn5, zn6, zn7, reduceIte, reduceCtorEq, eq_self]
  have hpl : places f = plGo f.nodes.length 0 f.nodes (pl0 f) := by rw [places, if_neg hout]
  refine x_loop rfl (fun q s => ∃ (j : Nat) (A : Pl) (G' : Hp), j ≤ f.nodes.length ∧ q = f.nodes.length - j ∧ A.length = f.nodes.length ∧ okA A ∧ Le G1 G' ∧ places f = plGo f.nodes.length j (f.nodes.drop j) A ∧
    s = ⟨[(1, .p 0 b1 0), (5, .v (.int .i64 f.nodes.length)), (6, .v (.pointer (some ⟨b6, 0, none⟩))), (59, .v (.int .i64 f.nodes.length)), (60, .v (.int .i64 j))],
      [(0, b1, .c 46 [.v (.int .i64 f.params), .v (.slice ad f.nodes.length cap)]), (10, g1, .row (.slice (some ⟨g1, 0, none⟩) f.nodes.length f.nodes.length) 3 1 f.nodes.length (A.map fp)),
       (11, g2, .row (.slice (some ⟨g2, 0, none⟩) f.nodes.length f.nodes.length) 3 1 f.nodes.length (A.map fd))], G', []⟩) ⟨0, pl0 f, G1, by omega, rfl, pl0_len f, pl0_ok hout, Le.refl _, by simpa using hpl, rfl⟩ ?_
  rintro q s ⟨j, A, G2, hj, hq, hA, hok, hle2, hpl2, rfl⟩ ih
  (try (refine runo0 400 hty hnt hmh ?_; simp only [so, sq, zy, zz, tyE, zs1, zs2, zs3, zs4, zs5, ev, zs6, dOk, cv, zu1, zu2, zu3, eqB, Value.oneCell', zs7, zs8, zs9, zt1, zt2, isC, TK.agg, rv, rv1, ldV, zt3, zt4, zn1, zn2, zn3, zn4, zn5, zn6, zn7, reduceIte, reduceCtorEq, eq_self])); (repeat (first | refine x_seq rfl ?_ | refine go_ops ?_ | refine go_blk ?_ | refine x_skip rfl ?_ | refine x_blk rfl rfl ?_ | refine x_exit rfl rfl rfl ?_ | refine x_ift rfl rfl rfl ?_ | refine x_iff rfl rfl rfl ?_ | refine x_label rfl ?_ | ((first | refine x_reg rfl rfl ?_ | (refine go_newx hty hnt hmh rfl rfl ?_; intro _)); refine runo0 400 hty hnt hmh ?_; simp only [so, sq, zy, zz, tyE, zs1, zs2, zs3, zs4, zs5, ev, zs6, dOk, cv, zu1, zu2, zu3, eqB, Value.oneCell', zs7, zs8, zs9, zt1, zt2, isC, TK.agg, rv, rv1, ldV, zt3, zt4, zn1, zn2, zn3, zn4, zn5, zn6, zn7, reduceIte, reduceCtorEq, eq_self])))
  refine x_if rfl rfl rfl rfl (fun hjl => ?_) (fun hjl => ?_)
  · have hlt : j < f.nodes.length := by simp at hjl; omega
    rw [List.drop_eq_getElem_cons hlt] at hpl2
    simp only [plGo] at hpl2
    (try (refine runo0 400 hty hnt hmh ?_; simp only [so, sq, zy, zz, tyE, zs1, zs2, zs3, zs4, zs5, ev, zs6, dOk, cv, zu1, zu2, zu3, eqB, Value.oneCell', zs7, zs8, zs9, zt1, zt2, isC, TK.agg, rv, rv1, ldV, zt3, zt4, zn1, zn2, zn3, zn4, zn5, zn6, zn7, reduceIte, reduceCtorEq, eq_self])); (repeat (first | refine x_seq rfl ?_ | refine go_ops ?_ | refine go_blk ?_ | refine x_skip rfl ?_ | refine x_blk rfl rfl ?_ | refine x_exit rfl rfl rfl ?_ | refine x_ift rfl rfl rfl ?_ | refine x_iff rfl rfl rfl ?_ | refine x_label rfl ?_ | ((first | refine x_reg rfl rfl ?_ | (refine go_newx hty hnt hmh rfl rfl ?_; intro _)); refine runo0 400 hty hnt hmh ?_; simp only [so, sq, zy, zz, tyE, zs1, zs2, zs3, zs4, zs5, ev, zs6, dOk, cv, zu1, zu2, zu3, eqB, Value.oneCell', zs7, zs8, zs9, zt1, zt2, isC, TK.agg, rv, rv1, ldV, zt3, zt4, zn1, zn2, zn3, zn4, zn5, zn6, zn7, reduceIte, reduceCtorEq, eq_self])))
    refine go_callW [10, 11] (ow := rows f.nodes.length g1 g2 f.nodes.length f.nodes.length A) (by rw [hnt]; rfl) (by rw [hP]; kernel_rfl) rfl rfl rfl (.inl (by intro k hk; simp at hk; omega)) (hP ▸ right_ok f j f.nodes.length A _ b6 g1 g2 _ _ G2 (Rp.S_mono (hle1.trans hle2) hns0) rfl hn2 hlt hok hA (hv.mono hle2)) ?_
    rintro v G3 ow' (hle3 : Le G2 G3) ⟨rfl, B, hB, rfl, hBB⟩
    simp only [setO, rows]
    cases hst : nodeStep f.nodes.length j f.nodes[j] A with
    | none =>
      rw [hst] at hpl2
      simp only [Option.isSome_none]
      (try (refine runo0 400 hty hnt hmh ?_; simp only [so, sq, zy, zz, tyE, zs1, zs2, zs3, zs4, zs5, ev, zs6, dOk, cv, zu1, zu2, zu3, eqB, Value.oneCell', zs7, zs8, zs9, zt1, zt2, isC, TK.agg, rv, rv1, ldV, zt3, zt4, zn1, zn2, zn3, zn4, zn5, zn6, zn7, reduceIte, reduceCtorEq, eq_self])); (repeat (first | refine x_seq rfl ?_ | refine go_ops ?_ | refine go_blk ?_ | refine x_skip rfl ?_ | refine x_blk rfl rfl ?_ | refine x_exit rfl rfl rfl ?_ | refine x_ift rfl rfl rfl ?_ | refine x_iff rfl rfl rfl ?_ | refine x_label rfl ?_ | ((first | refine x_reg rfl rfl ?_ | (refine go_newx hty hnt hmh rfl rfl ?_; intro _)); refine runo0 400 hty hnt hmh ?_; simp only [so, sq, zy, zz, tyE, zs1, zs2, zs3, zs4, zs5, ev, zs6, dOk, cv, zu1, zu2, zu3, eqB, Value.oneCell', zs7, zs8, zs9, zt1, zt2, isC, TK.agg, rv, rv1, ldV, zt3, zt4, zn1, zn2, zn3, zn4, zn5, zn6, zn7, reduceIte, reduceCtorEq, eq_self])))
      refine go_slot 66 (.b true) rfl (by simp [SV.den]) ?_; (try (refine runo0 400 hty hnt hmh ?_; simp only [so, sq, zy, zz, tyE, zs1, zs2, zs3, zs4, zs5, ev, zs6, dOk, cv, zu1, zu2, zu3, eqB, Value.oneCell', zs7, zs8, zs9, zt1, zt2, isC, TK.agg, rv, rv1, ldV, zt3, zt4, zn1, zn2, zn3, zn4, zn5, zn6, zn7, reduceIte, reduceCtorEq, eq_self])); (repeat (first | refine x_seq rfl ?_ | refine go_ops ?_ | refine go_blk ?_ | refine x_skip rfl ?_ | refine x_blk rfl rfl ?_ | refine x_exit rfl rfl rfl ?_ | refine x_ift rfl rfl rfl ?_ | refine x_iff rfl rfl rfl ?_ | refine x_label rfl ?_ | ((first | refine x_reg rfl rfl ?_ | (refine go_newx hty hnt hmh rfl rfl ?_; intro _)); refine runo0 400 hty hnt hmh ?_; simp only [so, sq, zy, zz, tyE, zs1, zs2, zs3, zs4, zs5, ev, zs6, dOk, cv, zu1, zu2, zu3, eqB, Value.oneCell', zs7, zs8, zs9, zt1, zt2, isC, TK.agg, rv, rv1, ldV, zt3, zt4, zn1, zn2, zn3, zn4, zn5, zn6, zn7, reduceIte, reduceCtorEq, eq_self])))
      refine x_retc rfl hQ hmb rfl (by rw [hty]; simp only [so, sq, zy, zz, tyE, zs1, zs2, zs3, zs4, zs5, ev, zs6, dOk, cv, zu1, zu2, zu3, eqB, Value.oneCell', zs7, zs8, zs9, zt1, zt2, isC, TK.agg, rv, rv1, ldV, zt3, zt4, zn1, zn2, zn3, zn4, zn5, zn6, zn7, reduceIte, reduceCtorEq, eq_self]; try rfl) rfl ?_; simp only [SV.den, resV, dens]
      show lookR _ _ _ _
      simp only [lookR, hpl2]
    | some B' =>
      rw [hst] at hpl2
      obtain rfl := hBB _ hst
      simp only [Option.isSome_some]
      (try (refine runo0 400 hty hnt hmh ?_; simp only [so, sq, zy, zz, tyE, zs1, zs2, zs3, zs4, zs5, ev, zs6, dOk, cv, zu1, zu2, zu3, eqB, Value.oneCell', zs7, zs8, zs9, zt1, zt2, isC, TK.agg, rv, rv1, ldV, zt3, zt4, zn1, zn2, zn3, zn4, zn5, zn6, zn7, reduceIte, reduceCtorEq, eq_self])); (repeat (first | refine x_seq rfl ?_ | refine go_ops ?_ | refine go_blk ?_ | refine x_skip rfl ?_ | refine x_blk rfl rfl ?_ | refine x_exit rfl rfl rfl ?_ | refine x_ift rfl rfl rfl ?_ | refine x_iff rfl rfl rfl ?_ | refine x_label rfl ?_ | ((first | refine x_reg rfl rfl ?_ | (refine go_newx hty hnt hmh rfl rfl ?_; intro _)); refine runo0 400 hty hnt hmh ?_; simp only [so, sq, zy, zz, tyE, zs1, zs2, zs3, zs4, zs5, ev, zs6, dOk, cv, zu1, zu2, zu3, eqB, Value.oneCell', zs7, zs8, zs9, zt1, zt2, isC, TK.agg, rv, rv1, ldV, zt3, zt4, zn1, zn2, zn3, zn4, zn5, zn6, zn7, reduceIte, reduceCtorEq, eq_self])))
      refine go_slot 66 (.b false) rfl (by simp [SV.den]) ?_; (try (refine runo0 400 hty hnt hmh ?_; simp only [so, sq, zy, zz, tyE, zs1, zs2, zs3, zs4, zs5, ev, zs6, dOk, cv, zu1, zu2, zu3, eqB, Value.oneCell', zs7, zs8, zs9, zt1, zt2, isC, TK.agg, rv, rv1, ldV, zt3, zt4, zn1, zn2, zn3, zn4, zn5, zn6, zn7, reduceIte, reduceCtorEq, eq_self])); (repeat (first | refine x_seq rfl ?_ | refine go_ops ?_ | refine go_blk ?_ | refine x_skip rfl ?_ | refine x_blk rfl rfl ?_ | refine x_exit rfl rfl rfl ?_ | refine x_ift rfl rfl rfl ?_ | refine x_iff rfl rfl rfl ?_ | refine x_label rfl ?_ | ((first | refine x_reg rfl rfl ?_ | (refine go_newx hty hnt hmh rfl rfl ?_; intro _)); refine runo0 400 hty hnt hmh ?_; simp only [so, sq, zy, zz, tyE, zs1, zs2, zs3, zs4, zs5, ev, zs6, dOk, cv, zu1, zu2, zu3, eqB, Value.oneCell', zs7, zs8, zs9, zt1, zt2, isC, TK.agg, rv, rv1, ldV, zt3, zt4, zn1, zn2, zn3, zn4, zn5, zn6, zn7, reduceIte, reduceCtorEq, eq_self])))
      rw [wr (n := (j : Int) + 1) (by omega) (by omega)]
      refine go_keep [1, 5, 6, 59, 60] [0, 10, 11] ?_
      simp only [so, sq, zy, zz, tyE, zs1, zs2, zs3, zs4, zs5, ev, zs6, dOk, cv, zu1, zu2, zu3, eqB, Value.oneCell', zs7, zs8, zs9, zt1, zt2, isC, TK.agg, rv, rv1, ldV, zt3, zt4, zn1, zn2, zn3, zn4, zn5, zn6, zn7, reduceIte, reduceCtorEq, eq_self]
      exact ih (f.nodes.length - (j + 1)) _ (by omega) ⟨j + 1, B, G3, by omega, rfl, hB, nodeStep_ok (by simp only [isI64]; omega) hok (by omega) hA hst, hle2.trans hle3, hpl2, by simp⟩
  · have hge : j = f.nodes.length := by simp at hjl; omega
    subst hge
    clear ih
    simp only [List.drop_length, plGo] at hpl2
    refine go_pubL rI 10 (ts := A.map (·.1)) rfl (by omega) (by simp [hA]) (by omega) (rI_L.2 ⟨by rw [List.map_map]; rfl, fun n hn => by obtain ⟨x, hx, rfl⟩ := List.mem_map.1 hn; exact (hok x hx).1⟩) ?_
    rintro G3 ad1 cap1 (hle3 : Le G2 G3) hs1 hS1
    refine go_pubL rI 11 (ts := A.map (·.2)) rfl (by omega) (by simp [hA]) (by omega) (rI_L.2 ⟨by rw [List.map_map]; rfl, fun n hn => by obtain ⟨x, hx, rfl⟩ := List.mem_map.1 hn; exact (hok x hx).2⟩) ?_
    rintro G4 ad2 cap2 (hle4 : Le G3 G4) hs2 hS2
    simp only [so, sq, zy, zz, tyE, zs1, zs2, zs3, zs4, zs5, ev, zs6, dOk, cv, zu1, zu2, zu3, eqB, Value.oneCell', zs7, zs8, zs9, zt1, zt2, isC, TK.agg, rv, rv1, ldV, zt3, zt4, zn1, zn2, zn3, zn4, zn5, zn6, zn7, reduceIte, reduceCtorEq, eq_self]
    (try (refine runo0 400 hty hnt hmh ?_; simp only [so, sq, zy, zz, tyE, zs1, zs2, zs3, zs4, zs5, ev, zs6, dOk, cv, zu1, zu2, zu3, eqB, Value.oneCell', zs7, zs8, zs9, zt1, zt2, isC, TK.agg, rv, rv1, ldV, zt3, zt4, zn1, zn2, zn3, zn4, zn5, zn6, zn7, reduceIte, reduceCtorEq, eq_self])); (repeat (first | refine x_seq rfl ?_ | refine go_ops ?_ | refine go_blk ?_ | refine x_skip rfl ?_ | refine x_blk rfl rfl ?_ | refine x_exit rfl rfl rfl ?_ | refine x_ift rfl rfl rfl ?_ | refine x_iff rfl rfl rfl ?_ | refine x_label rfl ?_ | ((first | refine x_reg rfl rfl ?_ | (refine go_newx hty hnt hmh rfl rfl ?_; intro _)); refine runo0 400 hty hnt hmh ?_; simp only [so, sq, zy, zz, tyE, zs1, zs2, zs3, zs4, zs5, ev, zs6, dOk, cv, zu1, zu2, zu3, eqB, Value.oneCell', zs7, zs8, zs9, zt1, zt2, isC, TK.agg, rv, rv1, ldV, zt3, zt4, zn1, zn2, zn3, zn4, zn5, zn6, zn7, reduceIte, reduceCtorEq, eq_self])))
    refine x_retc rfl hQ hmb rfl (by rw [hty]; simp only [so, sq, zy, zz, tyE, zs1, zs2, zs3, zs4, zs5, ev, zs6, dOk, cv, zu1, zu2, zu3, eqB, Value.oneCell', zs7, zs8, zs9, zt1, zt2, isC, TK.agg, rv, rv1, ldV, zt3, zt4, zn1, zn2, zn3, zn4, zn5, zn6, zn7, reduceIte, reduceCtorEq, eq_self]; try rfl) rfl ?_; simp only [SV.den, resV, dens]
    show lookR _ _ _ _
    simp only [lookR, hpl2]
    rw [← hs1] at hS1
    rw [← hs2] at hS2
    exact ⟨b6, _, _, rfl, hv.mono (hle2.trans (hle3.trans hle4)), Rp.S_mono hle4 hS1, hS2⟩
end Go.Proofs.Ytmdkenpodcnnbaa
namespace Go.Proofs.Ytmdkenpodcnnbaa
open Go.Sx renaming SO' → zs1, SQ' → zs2, opQ → zs3, opStore → zs4, opAlloc → zs5, putS → zs6, ldOwn → zs7, binInt → zs8, binConst → zs9, binBool → zt1, binStr → zt2, resOne → zt3, resV → zt4
open Go.Sx.SV renaming cs → zu1, one → zu2, bool? → zu3
open Nat renaming reduceAdd → zn1, reduceMul → zn2, reduceSub → zn3, reduceLT → zn4, reduceLeDiff → zn5, reduceEqDiff → zn6, reduceBEq → zn7
set_option linter.unusedSimpArgs false
set_option linter.unusedVariables false
open Go.Sx
set_option maxHeartbeats 4000000
def whr (f : Fu) : Int × Int := match places f with
  | .inl i => (i, 60)
  | .inr _ => (0, 0)
def dep (f : Fu) (node : Int) : Int × Int := match places f with
  | .inl _ => (0, 60)
  | .inr A => if node < 0 ∨ (A.length : Int) ≤ node then (0, 4) else (de A node.toNat, 0)
def par (f : Fu) (node : Int) : Int × Int := match places f with
  | .inl _ => (0, 60)
  | .inr A => if node < 0 ∨ (A.length : Int) ≤ node then (0, 4) else if node = 0 then (0, 5) else (pa A node.toNat, 0)
theorem where_ok (f : Fu) (ns : Value) (G : Hp) (hp : isI64 f.params) (hns : rN.S G f.nodes ns) : Pure Try.prog 25 [.agg #[.int .i64 f.params, ns]] G (fun r _ => r = .tuple #[.int .i64 (whr f).1, .int .i64 (whr f).2]) := by
  have hns0 := hns
  obtain ⟨ad, cap, rfl⟩ := Rp.S_slice hns
  refine enterX ty tyok Try.func25 rfl Try.ntmps25 [.a [.v (.int .i64 f.params), .v (.slice ad f.nodes.length cap)]] (by simp) ?_
  intro C hP hQ hnt hty hmb hmh hro; have hQp := qp_body hQ; simp only [so, sq, zy, zz, tyE, zs1, zs2, zs3, zs4, zs5, ev, zs6, dOk, cv, zu1, zu2, zu3, eqB, Value.oneCell', zs7, zs8, zs9, zt1, zt2, isC, TK.agg, rv, rv1, ldV, zt3, zt4, zn1, zn2, zn3, zn4, zn5, zn6, zn7, reduceIte, reduceCtorEq, eq_self]
  (try (refine runo0 400 hty hnt hmh ?_; simp only [so, sq, zy, zz, tyE, zs1, zs2, zs3, zs4, zs5, ev, zs6, dOk, cv, zu1, zu2, zu3, eqB, Value.oneCell', zs7, zs8, zs9, zt1, zt2, isC, TK.agg, rv, rv1, ldV, zt3, zt4, zn1, zn2, zn3, zn4, zn5, zn6, zn7, reduceIte, reduceCtorEq, eq_self])); (repeat (first | refine x_seq rfl ?_ | refine go_ops ?_ | refine go_blk ?_ | refine x_skip rfl ?_ | refine x_blk rfl rfl ?_ | refine x_exit rfl rfl rfl ?_ | refine x_ift rfl rfl rfl ?_ | refine x_iff rfl rfl rfl ?_ | refine x_label rfl ?_ | ((first | refine x_reg rfl rfl ?_ | (refine go_newx hty hnt hmh rfl rfl ?_; intro _)); refine runo0 400 hty hnt hmh ?_; simp only [so, sq, zy, zz, tyE, zs1, zs2, zs3, zs4, zs5, ev, zs6, dOk, cv, zu1, zu2, zu3, eqB, Value.oneCell', zs7, zs8, zs9, zt1, zt2, isC, TK.agg, rv, rv1, ldV, zt3, zt4, zn1, zn2, zn3, zn4, zn5, zn6, zn7, reduceIte, reduceCtorEq, eq_self])))
  refine go_call (by rw [hnt]; rfl) (by rw [hP]; kernel_rfl) rfl (hP ▸ look_ok f _ G hp hns0) ?_
  rintro v G1 (hle1 : Le G G1) hl
  simp only [lookR] at hl
  cases hpl : places f with
  | inl i =>
    rw [hpl] at hl
    simp only at hl
    subst hl
    (try (refine runo0 400 hty hnt hmh ?_; simp only [so, sq, zy, zz, tyE, zs1, zs2, zs3, zs4, zs5, ev, zs6, dOk, cv, zu1, zu2, zu3, eqB, Value.oneCell', zs7, zs8, zs9, zt1, zt2, isC, TK.agg, rv, rv1, ldV, zt3, zt4, zn1, zn2, zn3, zn4, zn5, zn6, zn7, reduceIte, reduceCtorEq, eq_self])); (repeat (first | refine x_seq rfl ?_ | refine go_ops ?_ | refine go_blk ?_ | refine x_skip rfl ?_ | refine x_blk rfl rfl ?_ | refine x_exit rfl rfl rfl ?_ | refine x_ift rfl rfl rfl ?_ | refine x_iff rfl rfl rfl ?_ | refine x_label rfl ?_ | ((first | refine x_reg rfl rfl ?_ | (refine go_newx hty hnt hmh rfl rfl ?_; intro _)); refine runo0 400 hty hnt hmh ?_; simp only [so, sq, zy, zz, tyE, zs1, zs2, zs3, zs4, zs5, ev, zs6, dOk, cv, zu1, zu2, zu3, eqB, Value.oneCell', zs7, zs8, zs9, zt1, zt2, isC, TK.agg, rv, rv1, ldV, zt3, zt4, zn1, zn2, zn3, zn4, zn5, zn6, zn7, reduceIte, reduceCtorEq, eq_self])))
    refine go_slot 14 (.b true) rfl (by simp [SV.den]) ?_; (try (refine runo0 400 hty hnt hmh ?_; simp only [so, sq, zy, zz, tyE, zs1, zs2, zs3, zs4, zs5, ev, zs6, dOk, cv, zu1, zu2, zu3, eqB, Value.oneCell', zs7, zs8, zs9, zt1, zt2, isC, TK.agg, rv, rv1, ldV, zt3, zt4, zn1, zn2, zn3, zn4, zn5, zn6, zn7, reduceIte, reduceCtorEq, eq_self])); (repeat (first | refine x_seq rfl ?_ | refine go_ops ?_ | refine go_blk ?_ | refine x_skip rfl ?_ | refine x_blk rfl rfl ?_ | refine x_exit rfl rfl rfl ?_ | refine x_ift rfl rfl rfl ?_ | refine x_iff rfl rfl rfl ?_ | refine x_label rfl ?_ | ((first | refine x_reg rfl rfl ?_ | (refine go_newx hty hnt hmh rfl rfl ?_; intro _)); refine runo0 400 hty hnt hmh ?_; simp only [so, sq, zy, zz, tyE, zs1, zs2, zs3, zs4, zs5, ev, zs6, dOk, cv, zu1, zu2, zu3, eqB, Value.oneCell', zs7, zs8, zs9, zt1, zt2, isC, TK.agg, rv, rv1, ldV, zt3, zt4, zn1, zn2, zn3, zn4, zn5, zn6, zn7, reduceIte, reduceCtorEq, eq_self])))
    refine x_retc rfl hQ hmb rfl (by rw [hty]; simp only [so, sq, zy, zz, tyE, zs1, zs2, zs3, zs4, zs5, ev, zs6, dOk, cv, zu1, zu2, zu3, eqB, Value.oneCell', zs7, zs8, zs9, zt1, zt2, isC, TK.agg, rv, rv1, ldV, zt3, zt4, zn1, zn2, zn3, zn4, zn5, zn6, zn7, reduceIte, reduceCtorEq, eq_self]; try rfl) rfl ?_; simp only [SV.den, resV, dens]
    simp [whr, hpl]
  | inr A =>
    rw [hpl] at hl
    obtain ⟨bv, s1, s2, rfl, _⟩ := hl
    (try (refine runo0 400 hty hnt hmh ?_; simp only [so, sq, zy, zz, tyE, zs1, zs2, zs3, zs4, zs5, ev, zs6, dOk, cv, zu1, zu2, zu3, eqB, Value.oneCell', zs7, zs8, zs9, zt1, zt2, isC, TK.agg, rv, rv1, ldV, zt3, zt4, zn1, zn2, zn3, zn4, zn5, zn6, zn7, reduceIte, reduceCtorEq, eq_self])); (repeat (first | refine x_seq rfl ?_ | refine go_ops ?_ | refine go_blk ?_ | refine x_skip rfl ?_ | refine x_blk rfl rfl ?_ | refine x_exit rfl rfl rfl ?_ | refine x_ift rfl rfl rfl ?_ | refine x_iff rfl rfl rfl ?_ | refine x_label rfl ?_ | ((first | refine x_reg rfl rfl ?_ | (refine go_newx hty hnt hmh rfl rfl ?_; intro _)); refine runo0 400 hty hnt hmh ?_; simp only [so, sq, zy, zz, tyE, zs1, zs2, zs3, zs4, zs5, ev, zs6, dOk, cv, zu1, zu2, zu3, eqB, Value.oneCell', zs7, zs8, zs9, zt1, zt2, isC, TK.agg, rv, rv1, ldV, zt3, zt4, zn1, zn2, zn3, zn4, zn5, zn6, zn7, reduceIte, reduceCtorEq, eq_self])))
    refine go_slot 14 (.b false) rfl (by simp [SV.den]) ?_; (try (refine runo0 400 hty hnt hmh ?_; simp only [so, sq, zy, zz, tyE, zs1, zs2, zs3, zs4, zs5, ev, zs6, dOk, cv, zu1, zu2, zu3, eqB, Value.oneCell', zs7, zs8, zs9, zt1, zt2, isC, TK.agg, rv, rv1, ldV, zt3, zt4, zn1, zn2, zn3, zn4, zn5, zn6, zn7, reduceIte, reduceCtorEq, eq_self])); (repeat (first | refine x_seq rfl ?_ | refine go_ops ?_ | refine go_blk ?_ | refine x_skip rfl ?_ | refine x_blk rfl rfl ?_ | refine x_exit rfl rfl rfl ?_ | refine x_ift rfl rfl rfl ?_ | refine x_iff rfl rfl rfl ?_ | refine x_label rfl ?_ | ((first | refine x_reg rfl rfl ?_ | (refine go_newx hty hnt hmh rfl rfl ?_; intro _)); refine runo0 400 hty hnt hmh ?_; simp only [so, sq, zy, zz, tyE, zs1, zs2, zs3, zs4, zs5, ev, zs6, dOk, cv, zu1, zu2, zu3, eqB, Value.oneCell', zs7, zs8, zs9, zt1, zt2, isC, TK.agg, rv, rv1, ldV, zt3, zt4, zn1, zn2, zn3, zn4, zn5, zn6, zn7, reduceIte, reduceCtorEq, eq_self])))
    refine x_retc rfl hQ hmb rfl (by rw [hty]; simp only [so, sq, zy, zz, tyE, zs1, zs2, zs3, zs4, zs5, ev, zs6, dOk, cv, zu1, zu2, zu3, eqB, Value.oneCell', zs7, zs8, zs9, zt1, zt2, isC, TK.agg, rv, rv1, ldV, zt3, zt4, zn1, zn2, zn3, zn4, zn5, zn6, zn7, reduceIte, reduceCtorEq, eq_self]; try rfl) rfl ?_; simp only [SV.den, resV, dens]
    simp [whr, hpl]
theorem check_ok (f : Fu) (ns : Value) (G : Hp) (hp : isI64 f.params) (hns : rN.S G f.nodes ns) : Pure Try.prog 38 [.agg #[.int .i64 f.params, ns]] G (fun r _ => r = .int .i64 (whr f).2) := by
  have hns0 := hns
  obtain ⟨ad, cap, rfl⟩ := Rp.S_slice hns
  refine enterX ty tyok Try.func38 rfl Try.ntmps38 [.a [.v (.int .i64 f.params), .v (.slice ad f.nodes.length cap)]] (by simp) ?_
  intro C hP hQ hnt hty hmb hmh hro; have hQp := qp_body hQ; simp only [so, sq, zy, zz, tyE, zs1, zs2, zs3, zs4, zs5, ev, zs6, dOk, cv, zu1, zu2, zu3, eqB, Value.oneCell', zs7, zs8, zs9, zt1, zt2, isC, TK.agg, rv, rv1, ldV, zt3, zt4, zn1, zn2, zn3, zn4, zn5, zn6, zn7, reduceIte, reduceCtorEq, eq_self]
  (try (refine runo0 400 hty hnt hmh ?_; simp only [so, sq, zy, zz, tyE, zs1, zs2, zs3, zs4, zs5, ev, zs6, dOk, cv, zu1, zu2, zu3, eqB, Value.oneCell', zs7, zs8, zs9, zt1, zt2, isC, TK.agg, rv, rv1, ldV, zt3, zt4, zn1, zn2, zn3, zn4, zn5, zn6, zn7, reduceIte, reduceCtorEq, eq_self])); (repeat (first | refine x_seq rfl ?_ | refine go_ops ?_ | refine go_blk ?_ | refine x_skip rfl ?_ | refine x_blk rfl rfl ?_ | refine x_exit rfl rfl rfl ?_ | refine x_ift rfl rfl rfl ?_ | refine x_iff rfl rfl rfl ?_ | refine x_label rfl ?_ | ((first | refine x_reg rfl rfl ?_ | (refine go_newx hty hnt hmh rfl rfl ?_; intro _)); refine runo0 400 hty hnt hmh ?_; simp only [so, sq, zy, zz, tyE, zs1, zs2, zs3, zs4, zs5, ev, zs6, dOk, cv, zu1, zu2, zu3, eqB, Value.oneCell', zs7, zs8, zs9, zt1, zt2, isC, TK.agg, rv, rv1, ldV, zt3, zt4, zn1, zn2, zn3, zn4, zn5, zn6, zn7, reduceIte, reduceCtorEq, eq_self])))
  refine go_callf (by rw [hnt]; rfl) (by rw [hP]; kernel_rfl) rfl (hP ▸ where_ok f _ G hp hns0) ?_; (try (refine runo0 400 hty hnt hmh ?_; simp only [so, sq, zy, zz, tyE, zs1, zs2, zs3, zs4, zs5, ev, zs6, dOk, cv, zu1, zu2, zu3, eqB, Value.oneCell', zs7, zs8, zs9, zt1, zt2, isC, TK.agg, rv, rv1, ldV, zt3, zt4, zn1, zn2, zn3, zn4, zn5, zn6, zn7, reduceIte, reduceCtorEq, eq_self])); (repeat (first | refine x_seq rfl ?_ | refine go_ops ?_ | refine go_blk ?_ | refine x_skip rfl ?_ | refine x_blk rfl rfl ?_ | refine x_exit rfl rfl rfl ?_ | refine x_ift rfl rfl rfl ?_ | refine x_iff rfl rfl rfl ?_ | refine x_label rfl ?_ | ((first | refine x_reg rfl rfl ?_ | (refine go_newx hty hnt hmh rfl rfl ?_; intro _)); refine runo0 400 hty hnt hmh ?_; simp only [so, sq, zy, zz, tyE, zs1, zs2, zs3, zs4, zs5, ev, zs6, dOk, cv, zu1, zu2, zu3, eqB, Value.oneCell', zs7, zs8, zs9, zt1, zt2, isC, TK.agg, rv, rv1, ldV, zt3, zt4, zn1, zn2, zn3, zn4, zn5, zn6, zn7, reduceIte, reduceCtorEq, eq_self])))
  refine x_retc rfl hQ hmb rfl (by rw [hty]; simp only [so, sq, zy, zz, tyE, zs1, zs2, zs3, zs4, zs5, ev, zs6, dOk, cv, zu1, zu2, zu3, eqB, Value.oneCell', zs7, zs8, zs9, zt1, zt2, isC, TK.agg, rv, rv1, ldV, zt3, zt4, zn1, zn2, zn3, zn4, zn5, zn6, zn7, reduceIte, reduceCtorEq, eq_self]; try rfl) rfl ?_; simp only [SV.den, resV, dens]
end Go.Proofs.Ytmdkenpodcnnbaa
namespace Go.Proofs.Ytmdkenpodcnnbaa
set_option linter.unusedSimpArgs false
set_option linter.unusedVariables false
open Go.Sx

def ndD : Nd := ⟨0, 0, []⟩
def nd (f : Fu) (i : Nat) : Nd := f.nodes.getD i ndD
def kl (f : Fu) (i : Nat) : List Int := (nd f i).l
theorem nd_eq {f : Fu} {i : Nat} (h : i < f.nodes.length) : nd f i = f.nodes[i] := by simp [nd, h]
theorem kl_out {f : Fu} {i : Nat} (h : f.nodes.length ≤ i) : kl f i = [] := by simp [kl, nd, h, ndD]
theorem kl_lt {f : Fu} {j k : Nat} {c : Int} (h : (kl f j)[k]? = some c) : j < f.nodes.length := by
  rcases Nat.lt_or_ge j f.nodes.length with q | q
  · exact q
  · rw [kl_out q] at h; simp at h

/-- What is known where the children of the nodes below i, and the first k of i, are noted. -/
structure TInv (f : Fu) (i k : Nat) (A : Pl) : Prop where
  len : A.length = f.nodes.length
  kid : ∀ (j m : Nat) (c : Int), (j < i ∨ (j = i ∧ m < k)) → (kl f j)[m]? = some c → (j : Int) < c ∧ c < f.nodes.length ∧ pa A c.toNat = j ∧ de A c.toNat = de A j + more (nd f j).op m
  one : ∀ (j m m' : Nat) (c : Int), (j < i ∨ (j = i ∧ m < k)) → (j < i ∨ (j = i ∧ m' < k)) → (kl f j)[m]? = some c → (kl f j)[m']? = some c → m = m'
  up : ∀ c, c < f.nodes.length → pa A c < 0 ∨ ∃ (j m : Nat), (j < i ∨ (j = i ∧ m < k)) ∧ pa A c = j ∧ (kl f j)[m]? = some (c : Int)
  root : pa A 0 < 0 ∧ de A 0 = f.params
  has : ∀ j, 0 < j → j < i → 0 ≤ pa A j
  ok : ∀ j, j < i → de A j ≤ 64 ∧ ben (nd f j).op (nd f j).l.length = true ∧ nmb (nd f j).op (nd f j).n (de A j) = true
theorem TInv.step {f : Fu} {i k : Nat} {A : Pl} (h : TInv f i k A) {c : Int} (hc : (kl f i)[k]? = some c) (h1 : (i : Int) < c) (h2 : c < f.nodes.length) (h3 : pa A c.toNat < 0) :
    TInv f i (k + 1) (A.set c.toNat ((i : Int), de A i + more (nd f i).op k)) := by
  obtain ⟨c, rfl⟩ : ∃ c' : Nat, c = c' := ⟨c.toNat, by omega⟩
  simp only [Int.toNat_natCast] at *
  have hl : c < A.length := by rw [h.len]; omega
  have hp : ∀ j, pa (A.set c ((i : Int), de A i + more (nd f i).op k)) j = if j = c then (i : Int) else pa A j := fun j => pa_set hl
  have hd : ∀ j, de (A.set c ((i : Int), de A i + more (nd f i).op k)) j = if j = c then de A i + more (nd f i).op k else de A j := fun j => de_set hl
  have old : ∀ (j m : Nat), (j < i ∨ (j = i ∧ m < k + 1)) → ((j < i ∨ (j = i ∧ m < k)) ∨ (j = i ∧ m = k)) := by intro j m h; omega
  refine ⟨by simp [h.len], ?_, ?_, ?_, ?_, ?_, ?_⟩
  · intro j m c2 hD hm
    rcases old j m hD with hD | ⟨rfl, rfl⟩
    · obtain ⟨q1, q2, q3, q4⟩ := h.kid j m c2 hD hm
      obtain ⟨c2, rfl⟩ : ∃ c' : Nat, c2 = c' := ⟨c2.toNat, by omega⟩
      simp only [Int.toNat_natCast] at *
      have hne : c2 ≠ c := by rintro rfl; omega
      rw [hp, if_neg hne, hd, if_neg hne, hd, if_neg (by omega)]
      exact ⟨q1, q2, q3, q4⟩
    · rw [hc] at hm; cases hm
      simp only [Int.toNat_natCast]
      rw [hp, if_pos rfl, hd, if_pos rfl, hd, if_neg (by omega)]
      exact ⟨h1, h2, rfl, rfl⟩
  · intro j m m' c2 hD hD' hm hm'
    rcases old j m hD with hD | ⟨rfl, rfl⟩ <;> rcases old j m' hD' with hD' | ⟨e, rfl⟩
    · exact h.one j m m' c2 hD hD' hm hm'
    · subst e
      rw [hc] at hm'; cases hm'
      have := (h.kid j m c hD hm).2.2.1
      simp only [Int.toNat_natCast] at this
      omega
    · rw [hc] at hm; cases hm
      have := (h.kid j m' c hD' hm').2.2.1
      simp only [Int.toNat_natCast] at this
      omega
    · rfl
  · intro c2 hc2
    rw [hp]
    split
    · rename_i e; subst e
      exact .inr ⟨i, k, .inr ⟨rfl, by omega⟩, rfl, hc⟩
    · rcases h.up c2 hc2 with q | ⟨j, m, q1, q2, q3⟩
      · exact .inl q
      · exact .inr ⟨j, m, by omega, q2, q3⟩
  · rw [hp, if_neg (by omega), hd, if_neg (by omega)]
    exact h.root
  · intro j hj hji
    rw [hp]
    split
    · omega
    · exact h.has j hj hji
  · intro j hj
    rw [hd, if_neg (by omega)]
    exact h.ok j hj
theorem TInv.kidsI {f : Fu} {i : Nat} : ∀ {l : List Int} {k : Nat} {A B : Pl}, TInv f i k A → (kl f i).drop k = l → kids f.nodes.length (nd f i).op i k l A = some B → TInv f i (k + l.length) B
  | [], k, A, B, h, _, hB => by simp only [kids, Option.some.injEq] at hB; subst hB; exact h
  | c :: l, k, A, B, h, hl, hB => by
    simp only [kids] at hB
    split at hB
    · cases hB
    · rename_i hc
      have hck : (kl f i)[k]? = some c := by
        have := congrArg (fun l => l[0]?) hl
        simpa using this
      have hl' : (kl f i).drop (k + 1) = l := by
        have := congrArg (List.drop 1) hl
        simpa using this
      have := TInv.kidsI (h.step hck (by omega) (by omega) (by omega)) hl' hB
      rw [List.length_cons, show k + (l.length + 1) = k + 1 + l.length by omega]
      exact this
theorem TInv.node {f : Fu} {i : Nat} {A B : Pl} (hi : i < f.nodes.length) (h : TInv f i 0 A) (hB : nodeStep f.nodes.length i f.nodes[i] A = some B) : TInv f (i + 1) 0 B := by
  simp only [nodeStep] at hB
  split at hB
  · cases hB
  rename_i hb
  rw [← nd_eq hi] at hb hB
  have h1 := TInv.kidsI h (l := kl f i) rfl hB
  have hk : ∀ {j m : Nat} {c : Int}, (j < i + 1 ∨ (j = i + 1 ∧ m < 0)) → (kl f j)[m]? = some c → (j < i ∨ (j = i ∧ m < 0 + (kl f i).length)) := by
    intro j m c hD hm
    rcases Nat.lt_or_ge j i with q | q
    · exact .inl q
    · have e : j = i := by omega
      subst e
      refine .inr ⟨rfl, ?_⟩
      obtain ⟨q, _⟩ := List.getElem?_eq_some_iff.1 hm
      omega
  have hde : ∀ {l : List Int} {k : Nat} {A B : Pl}, i < A.length → kids f.nodes.length (nd f i).op i k l A = some B → A.length = f.nodes.length → de B i = de A i ∧ (0 ≤ pa A i → 0 ≤ pa B i) := by
    intro l
    induction l with
    | nil => intro k A B _ hB _; simp only [kids, Option.some.injEq] at hB; subst hB; exact ⟨rfl, id⟩
    | cons c l ih =>
      intro k A B hA hB hl
      simp only [kids] at hB
      split at hB
      · cases hB
      · rename_i hc
        obtain ⟨q1, q2⟩ := ih (by simpa using hA) hB (by simpa using hl)
        rw [de_set (by omega), if_neg (by omega)] at q1
        rw [pa_set (by omega), if_neg (by omega)] at q2
        exact ⟨q1, q2⟩
  obtain ⟨d1, d2⟩ := hde (by rw [h.len]; exact hi) hB h.len
  refine ⟨h1.len, fun j m c hD hm => h1.kid j m c (hk hD hm) hm, fun j m m' c hD hD' hm hm' => h1.one j m m' c (hk hD hm) (hk hD' hm') hm hm', fun c hc => ?_, h1.root, fun j hj hji => ?_, fun j hj => ?_⟩
  · rcases h1.up c hc with q | ⟨j, m, q1, q2, q3⟩
    · exact .inl q
    · exact .inr ⟨j, m, by omega, q2, q3⟩
  · rcases Nat.lt_or_ge j i with q | q
    · exact h1.has j hj q
    · have e : j = i := by omega
      subst e
      unfold bad at hb
      exact d2 (by omega)
  · rcases Nat.lt_or_ge j i with q | q
    · exact h1.ok j q
    · have e : j = i := by omega
      subst e
      unfold bad at hb
      rw [d1]
      refine ⟨by omega, ?_, ?_⟩
      · cases hq : ben (nd f j).op (nd f j).l.length with
        | true => rfl
        | false => exact absurd (.inr (.inr (.inl hq))) hb
      · cases hq : nmb (nd f j).op (nd f j).n (de A j) with
        | true => rfl
        | false => exact absurd (.inr (.inr (.inr hq))) hb
theorem TInv.go {f : Fu} : ∀ {l : List Nd} {i : Nat} {A B : Pl}, TInv f i 0 A → f.nodes.drop i = l → plGo f.nodes.length i l A = .inr B → TInv f (i + l.length) 0 B
  | [], i, A, B, h, _, hB => by simp only [plGo, Sum.inr.injEq] at hB; subst hB; exact h
  | x :: l, i, A, B, h, hl, hB => by
    simp only [plGo] at hB
    have hi : i < f.nodes.length := by
      rcases Nat.lt_or_ge i f.nodes.length with q | q
      · exact q
      · rw [List.drop_eq_nil_of_le q] at hl; cases hl
    rw [List.drop_eq_getElem_cons hi] at hl
    cases hl
    cases h1 : nodeStep f.nodes.length i f.nodes[i] A with
    | none => rw [h1] at hB; cases hB
    | some A' =>
      rw [h1] at hB
      have := TInv.go (h.node hi h1) rfl hB
      rw [List.length_cons, Nat.add_comm _ 1, ← Nat.add_assoc]
      exact this
theorem tinv0 {f : Fu} (h : ¬ out f) : TInv f 0 0 (pl0 f) := by
  have hn : 0 < f.nodes.length := by unfold out at h; omega
  have hl : (List.replicate f.nodes.length ((-1 : Int), (0 : Int))).length = f.nodes.length := by simp
  have hp : ∀ j, j < f.nodes.length → pa (pl0 f) j = -1 := fun j hj => by
    rw [pl0, pa_set (by omega)]
    split
    · rfl
    · rw [pa_eq (by omega)]; simp
  refine ⟨by simp [pl0], by intros; omega, by intros; omega, fun c hc => .inl (by rw [hp c hc]; omega), ⟨by rw [hp 0 hn]; omega, ?_⟩, by intros; omega, by intros; omega⟩
  rw [pl0, de_set (by omega), if_pos rfl]

/-- The nodes are a tree. -/
structure Tree (f : Fu) (A : Pl) : Prop where
  len : A.length = f.nodes.length
  pos : 0 < f.nodes.length
  n200 : f.nodes.length ≤ 200
  par9 : 0 ≤ f.params ∧ f.params ≤ 9
  kid : ∀ (j m : Nat) (c : Int), (kl f j)[m]? = some c → (j : Int) < c ∧ c < f.nodes.length ∧ pa A c.toNat = j ∧ de A c.toNat = de A j + more (nd f j).op m
  one : ∀ (j m m' : Nat) (c : Int), (kl f j)[m]? = some c → (kl f j)[m']? = some c → m = m'
  up : ∀ c, 0 < c → c < f.nodes.length → ∃ (j m : Nat), pa A c = j ∧ (kl f j)[m]? = some (c : Int)
  root : pa A 0 < 0 ∧ de A 0 = f.params
  ok : ∀ j, j < f.nodes.length → de A j ≤ 64 ∧ ben (nd f j).op (nd f j).l.length = true ∧ nmb (nd f j).op (nd f j).n (de A j) = true
theorem tree {f : Fu} {A : Pl} (h : places f = .inr A) : Tree f A := by
  simp only [places] at h
  split at h
  · cases h
  rename_i ho
  have h1 := TInv.go (tinv0 ho) rfl h
  simp only [Nat.zero_add, List.drop_zero] at h1
  have ho' := ho
  unfold out at ho'
  refine ⟨h1.len, by omega, by omega, by omega, fun j m c hm => h1.kid j m c (.inl (kl_lt hm)) hm, fun j m m' c hm hm' => h1.one j m m' c (.inl (kl_lt hm)) (.inl (kl_lt hm)) hm hm', fun c h0 hc => ?_, h1.root, h1.ok⟩
  rcases h1.up c hc with q | ⟨j, m, _, q2, q3⟩
  · have := h1.has c h0 hc; omega
  · exact ⟨j, m, q2, q3⟩

/-! ### The order -/
def dn (f : Fu) : Nat → Nat → List Nat
  | 0, i => [i]
  | k + 1, i => (kl f i).flatMap (fun c => dn f k c.toNat) ++ [i]
theorem mem_kl {f : Fu} {A : Pl} (h : Tree f A) {i : Nat} {c : Int} (hc : c ∈ kl f i) : (i : Int) < c ∧ c < f.nodes.length ∧ pa A c.toNat = i := by
  obtain ⟨m, hm⟩ := List.getElem?_of_mem hc
  have := h.kid i m c hm
  exact ⟨this.1, this.2.1, this.2.2.1⟩
theorem dn_fuel {f : Fu} {A : Pl} (h : Tree f A) : ∀ (k k' i : Nat), f.nodes.length - i ≤ k → f.nodes.length - i ≤ k' → dn f k i = dn f k' i
  | 0, 0, i, _, _ => rfl
  | 0, k' + 1, i, h1, _ => by simp [dn, kl_out (show f.nodes.length ≤ i by omega)]
  | k + 1, 0, i, _, h2 => by simp [dn, kl_out (show f.nodes.length ≤ i by omega)]
  | k + 1, k' + 1, i, h1, h2 => by
    simp only [dn]
    congr 1
    rw [List.flatMap_def, List.flatMap_def]
    congr 1
    apply List.map_congr_left
    intro c hc
    have := mem_kl h hc
    exact dn_fuel h k k' c.toNat (by omega) (by omega)
/-- The nodes from one down, as they are done. -/
def ord (f : Fu) (i : Nat) : List Nat := dn f f.nodes.length i
theorem ord_eq {f : Fu} {A : Pl} (h : Tree f A) (i : Nat) : ord f i = (kl f i).flatMap (fun c => ord f c.toNat) ++ [i] := by
  have : ord f i = dn f (f.nodes.length + 1) i := dn_fuel h _ _ _ (by omega) (by omega)
  rw [this]
  rfl
theorem ord_ind {f : Fu} {A : Pl} (_h : Tree f A) {P : Nat → Prop} (step : ∀ i, (∀ c ∈ kl f i, P c.toNat) → P i) : ∀ i, P i := by
  have key : ∀ k i, f.nodes.length - i ≤ k → P i := by
    intro k
    induction k with
    | zero =>
      intro i hi
      refine step i fun c hc => ?_
      rw [kl_out (by omega)] at hc; cases hc
    | succ k ih =>
      intro i hi
      refine step i fun c hc => ih _ ?_
      have := mem_kl _h hc
      omega
  exact fun i => key _ i (Nat.le_refl _)
theorem ord_self {f : Fu} {A : Pl} (h : Tree f A) (i : Nat) : i ∈ ord f i := by rw [ord_eq h]; simp
theorem ord_mem {f : Fu} {A : Pl} (h : Tree f A) : ∀ i, ∀ x ∈ ord f i, i ≤ x ∧ (i < f.nodes.length → x < f.nodes.length) ∧ (x = i ∨ ∃ j ∈ ord f i, j < x ∧ pa A x = j) := by
  refine ord_ind h fun i ih x hx => ?_
  rw [ord_eq h] at hx
  rcases List.mem_append.1 hx with hx | hx
  · obtain ⟨c, hc, hx⟩ := List.mem_flatMap.1 hx
    have hk := mem_kl h hc
    obtain ⟨q1, q2, q3⟩ := ih c hc x hx
    refine ⟨by omega, fun _ => q2 (by omega), .inr ?_⟩
    rcases q3 with rfl | ⟨j, q4, q5, q6⟩
    · exact ⟨i, ord_self h i, by omega, hk.2.2⟩
    · exact ⟨j, by rw [ord_eq h]; exact List.mem_append_left _ (List.mem_flatMap.2 ⟨c, hc, q4⟩), q5, q6⟩
  · simp at hx; subst hx
    exact ⟨Nat.le_refl _, id, .inl rfl⟩
theorem ord_disj {f : Fu} {A : Pl} (h : Tree f A) {i : Nat} {c c' : Int} (hc : c ∈ kl f i) (hc' : c' ∈ kl f i) (hne : c ≠ c') : ∀ x, x ∈ ord f c.toNat → x ∈ ord f c'.toNat → False := by
  intro x
  induction x using Nat.strongRecOn with
  | _ x ih =>
  intro h1 h2
  have k1 := mem_kl h hc
  have k2 := mem_kl h hc'
  obtain ⟨a1, _, a2⟩ := ord_mem h _ x h1
  obtain ⟨b1, _, b2⟩ := ord_mem h _ x h2
  rcases a2 with rfl | ⟨j, a3, a4, a5⟩
  · rcases b2 with e | ⟨j, b3, b4, b5⟩
    · omega
    · have := (ord_mem h _ j b3).1
      omega
  · rcases b2 with rfl | ⟨j', b3, b4, b5⟩
    · have := (ord_mem h _ j a3).1
      omega
    · have e : j = j' := by omega
      subst e
      exact ih j a4 a3 b3
theorem nodup_flat {α β : Type} {g : α → List β} : ∀ {l : List α}, l.Nodup → (∀ x ∈ l, (g x).Nodup) → (∀ x ∈ l, ∀ y ∈ l, x ≠ y → ∀ z, z ∈ g x → z ∈ g y → False) → (l.flatMap g).Nodup
  | [], _, _, _ => by simp
  | x :: l, h, h1, h2 => by
    rw [List.flatMap_cons, List.nodup_append]
    obtain ⟨q1, q2⟩ := List.nodup_cons.1 h
    refine ⟨h1 x (by simp), nodup_flat q2 (fun y hy => h1 y (by simp [hy])) (fun y hy z hz => h2 y (by simp [hy]) z (by simp [hz])), ?_⟩
    intro a ha b hb e
    subst e
    obtain ⟨y, hy, hb⟩ := List.mem_flatMap.1 hb
    exact h2 x (by simp) y (by simp [hy]) (fun e => q1 (e ▸ hy)) a ha hb
theorem kl_nodup {f : Fu} {A : Pl} (h : Tree f A) (i : Nat) : (kl f i).Nodup := by
  rw [List.nodup_iff_pairwise_ne, List.pairwise_iff_getElem]
  intro a b ha hb hab e
  have := h.one i a b (kl f i)[a] (List.getElem?_eq_getElem ha) (by rw [e]; exact List.getElem?_eq_getElem hb)
  omega
theorem ord_nodup {f : Fu} {A : Pl} (h : Tree f A) : ∀ i, (ord f i).Nodup := by
  refine ord_ind h fun i ih => ?_
  rw [ord_eq h, List.nodup_append]
  refine ⟨nodup_flat (kl_nodup h i) ih (fun c hc c' hc' hne z hz hz' => ord_disj h hc hc' hne z hz hz'), by simp, ?_⟩
  intro a ha b hb e
  simp at hb
  subst hb e
  obtain ⟨c, hc, ha⟩ := List.mem_flatMap.1 ha
  have := mem_kl h hc
  have := (ord_mem h _ _ ha).1
  omega
theorem nodup_le : ∀ (n : Nat) (l : List Nat), l.Nodup → (∀ x ∈ l, x < n) → l.length ≤ n
  | 0, l, _, h => by
    cases l with
    | nil => simp
    | cons x l => have := h x (by simp); omega
  | n + 1, l, h, hl => by
    have h1 := nodup_le n (l.erase n) (h.erase n) (fun x hx => by
      have hx' := (List.Nodup.mem_erase_iff h).1 hx
      have := hl x hx'.2
      have := hx'.1
      omega)
    have h2 := List.length_erase_le (a := n) (l := l)
    have h3 : l.length ≤ (l.erase n).length + 1 := by
      by_cases hm : n ∈ l
      · rw [List.length_erase_of_mem hm]; omega
      · rw [List.erase_of_not_mem hm]; omega
    omega
theorem ord_len {f : Fu} {A : Pl} (h : Tree f A) {i : Nat} (hi : i < f.nodes.length) : (ord f i).length ≤ 200 := by
  have := nodup_le f.nodes.length (ord f i) (ord_nodup h i) (fun x hx => (ord_mem h i x hx).2.1 hi)
  have := h.n200
  omega
/-- Each node's own order stands in the whole one. -/
theorem ord_in {f : Fu} {A : Pl} (h : Tree f A) : ∀ i, i < f.nodes.length → ∃ p s, ord f 0 = p ++ ord f i ++ s := by
  intro i
  induction i using Nat.strongRecOn with
  | _ i ih =>
  intro hi
  rcases Nat.eq_zero_or_pos i with rfl | h0
  · exact ⟨[], [], by simp⟩
  · obtain ⟨j, m, hj, hm⟩ := h.up i h0 hi
    have hk := h.kid j m i hm
    obtain ⟨p, s, e⟩ := ih j (by omega) (by omega)
    have hmem := List.mem_of_getElem? hm
    obtain ⟨l1, l2, e2⟩ := List.append_of_mem hmem
    refine ⟨p ++ l1.flatMap (fun c => ord f c.toNat), l2.flatMap (fun c => ord f c.toNat) ++ [j] ++ s, ?_⟩
    rw [e, ord_eq h j, e2]
    simp [List.flatMap_append, List.flatMap_cons]
end Go.Proofs.Ytmdkenpodcnnbaa
namespace Go.Proofs.Ytmdkenpodcnnbaa
set_option linter.unusedSimpArgs false
set_option linter.unusedVariables false
open Go.Sx
set_option maxHeartbeats 4000000
def it (x : Nat) : Value := .int .i64 x
end Go.Proofs.Ytmdkenpodcnnbaa
