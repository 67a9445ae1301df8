/-
  Rows.ProgramChecksSaid is proved here.
-/
import Derived.Test.YtmdkenpodcnnbaaZ7
import Derived.Deep.Strs
import Derived.Deep.Slices
import Derived.Test.YtmdkenpodcnnbaaRows
import Derived.WalkKit
import Derived.ProofKit
import Derived.OpenShut
import Derived.JoinedCond
import Derived.Carry
namespace Go.Proofs.Ytmdkenpodcnnbaa
open Go.Sx renaming SO' → zs1, SQ' → zs2, opQ → zs3, opStore → zs4, opAlloc → zs5, putS → zs6, ldOwn → zs7, binInt → zs8, binConst → zs9, binBool → zt1, binStr → zt2, resOne → zt3, resV → zt4
open Go.Sx.SV renaming cs → zu1, one → zu2, bool? → zu3
open Nat renaming reduceAdd → zn1, reduceMul → zn2, reduceSub → zn3, reduceLT → zn4, reduceLeDiff → zn5, reduceEqDiff → zn6, reduceBEq → zn7
set_option linter.unusedSimpArgs false
set_option linter.unusedVariables false
open Go.Sx
set_option maxHeartbeats 8000000
theorem works_ok (G : Hp) : Pure Try.prog 8 [] G (fun v _ => v = .bool true) := by
  refine enterM ty tyok Try.func8 rfl Try.ntmps8 [] (by simp) ?_
  intro C hP hQ hnt hty hmb hmh hro; have hQp := qp_bodyM hQ; simp only [so, sq, zy, zz, tyE, zs1, zs2, zs3, zs4, zs5, ev, zs6, dOk, cv, zu1, zu2, zu3, eqB, Value.oneCell', zs7, zs8, zs9, zt1, zt2, isC, TK.agg, rv, rv1, ldV, zt3, zt4, zn1, zn2, zn3, zn4, zn5, zn6, zn7, reduceIte, reduceCtorEq, eq_self]
  (try (refine runo0 400 hty hnt hmh ?_; simp only [so, sq, zy, zz, tyE, zs1, zs2, zs3, zs4, zs5, ev, zs6, dOk, cv, zu1, zu2, zu3, eqB, Value.oneCell', zs7, zs8, zs9, zt1, zt2, isC, TK.agg, rv, rv1, ldV, zt3, zt4, zn1, zn2, zn3, zn4, zn5, zn6, zn7, reduceIte, reduceCtorEq, eq_self])); (repeat (first | refine x_seq rfl ?_ | refine go_ops ?_ | refine go_blk ?_ | refine x_skip rfl ?_ | refine x_blk rfl rfl ?_ | refine x_exit rfl rfl rfl ?_ | refine x_ift rfl rfl rfl ?_ | refine x_iff rfl rfl rfl ?_ | refine x_label rfl ?_ | ((first | refine x_reg rfl rfl ?_ | (refine go_newx hty hnt hmh rfl rfl ?_; intro _)); refine runo0 400 hty hnt hmh ?_; simp only [so, sq, zy, zz, tyE, zs1, zs2, zs3, zs4, zs5, ev, zs6, dOk, cv, zu1, zu2, zu3, eqB, Value.oneCell', zs7, zs8, zs9, zt1, zt2, isC, TK.agg, rv, rv1, ldV, zt3, zt4, zn1, zn2, zn3, zn4, zn5, zn6, zn7, reduceIte, reduceCtorEq, eq_self])))
  rename_i b0 bl bA b1 bB b2 bC b3 bS
  refine go_marks 90 rfl (by omega) ?_
  simp only [so, sq, zy, zz, tyE, zs1, zs2, zs3, zs4, zs5, ev, zs6, dOk, cv, zu1, zu2, zu3, eqB, Value.oneCell', zs7, zs8, zs9, zt1, zt2, isC, TK.agg, rv, rv1, ldV, zt3, zt4, zn1, zn2, zn3, zn4, zn5, zn6, zn7, reduceIte, reduceCtorEq, eq_self]
  refine go_pub 1 rfl (by omega) ?_
  rintro G1 (hle1 : Le G G1) hG1
  refine go_pub 2 rfl (by omega) ?_
  rintro G2 (hle2 : Le G1 G2) hG2
  refine go_pub 4 rfl (by omega) ?_
  rintro G3 (hle3 : Le G2 G3) hG3
  refine go_pub 6 rfl (by omega) ?_
  rintro G4 (hle4 : Le G3 G4) hG4
  have hI : rI.S G2 [1] (.slice (some ⟨bl, 0, none⟩) 1 1) := rI_S (at_cells (hle2 _ _ hG1)) rfl (by simp [isI64]) rfl (by omega)
  have hSA : rN.S G4 fA.nodes (.slice (some ⟨bA, 0, none⟩) 2 2) := Rp.S_mono (hle3.trans hle4) (rN_S (at_cells hG2) (rN_cons (by simp [isI64]) (by simp [isI64]) hI (rN_leaf (by simp [isI64]) (by simp [isI64]) rfl)) rfl (by omega))
  have hSB : rN.S G4 fB.nodes (.slice (some ⟨bB, 0, none⟩) 1 1) := Rp.S_mono hle4 (rN_S (at_cells hG3) (rN_leaf (by simp [isI64]) (by simp [isI64]) rfl) rfl (by omega))
  have hSC : rN.S G4 fC.nodes (.slice (some ⟨bC, 0, none⟩) 1 1) := rN_S (at_cells hG4) (rN_leaf (by simp [isI64]) (by simp [isI64]) rfl) rfl (by omega)
  have hi0 : isI64 0 := by simp [isI64]
  have hi1 : isI64 1 := by simp [isI64]
  refine go_pub 8 rfl (by omega) ?_
  rintro G5 (hle5 : Le G4 G5) hG5
  replace hSA := Rp.S_mono hle5 hSA
  replace hSB := Rp.S_mono hle5 hSB
  replace hSC := Rp.S_mono hle5 hSC
  refine go_see 3 [.v (.int .i64 0), .v (.slice (some ⟨bA, 0, none⟩) 2 2)] rfl (by simp [dens, SV.den]) ?_
  refine go_see 5 [.v (.int .i64 1), .v (.slice (some ⟨bB, 0, none⟩) 1 1)] rfl (by simp [dens, SV.den]) ?_
  refine go_see 7 [.v (.int .i64 0), .v (.slice (some ⟨bC, 0, none⟩) 1 1)] rfl (by simp [dens, SV.den]) ?_
  refine go_slot 33 (.v (.slice (some ⟨bS, 0, none⟩) 2 2)) rfl (by simp [SV.den]) ?_
  refine go_keep [0, 1, 2, 3, 33] [0, 3, 5, 7, 90] ?_
  simp only [so, sq, zy, zz, tyE, zs1, zs2, zs3, zs4, zs5, ev, zs6, dOk, cv, zu1, zu2, zu3, eqB, Value.oneCell', zs7, zs8, zs9, zt1, zt2, isC, TK.agg, rv, rv1, ldV, zt3, zt4, zn1, zn2, zn3, zn4, zn5, zn6, zn7, reduceIte, reduceCtorEq, eq_self]
  (refine go_callf (by rw [hnt]; rfl) (by rw [hP]; kernel_rfl) rfl (by rw [hP]; exact of_ok _ _ _ _) ?_; (try (refine runo0 400 hty hnt hmh ?_; simp only [so, sq, zy, zz, tyE, zs1, zs2, zs3, zs4, zs5, ev, zs6, dOk, cv, zu1, zu2, zu3, eqB, Value.oneCell', zs7, zs8, zs9, zt1, zt2, isC, TK.agg, rv, rv1, ldV, zt3, zt4, zn1, zn2, zn3, zn4, zn5, zn6, zn7, reduceIte, reduceCtorEq, eq_self])); (repeat (first | refine x_seq rfl ?_ | refine go_ops ?_ | refine go_blk ?_ | refine x_skip rfl ?_ | refine x_blk rfl rfl ?_ | refine x_exit rfl rfl rfl ?_ | refine x_ift rfl rfl rfl ?_ | refine x_iff rfl rfl rfl ?_ | refine x_label rfl ?_ | ((first | refine x_reg rfl rfl ?_ | (refine go_newx hty hnt hmh rfl rfl ?_; intro _)); refine runo0 400 hty hnt hmh ?_; simp only [so, sq, zy, zz, tyE, zs1, zs2, zs3, zs4, zs5, ev, zs6, dOk, cv, zu1, zu2, zu3, eqB, Value.oneCell', zs7, zs8, zs9, zt1, zt2, isC, TK.agg, rv, rv1, ldV, zt3, zt4, zn1, zn2, zn3, zn4, zn5, zn6, zn7, reduceIte, reduceCtorEq, eq_self]))))
  have hAB : rF.S G5 [fA, fB] (.slice (some ⟨bS, 0, none⟩) 2 2) := rF_S (at_cells hG5) (rF_cons hi0 hSA (rF_cons hi1 hSB rfl)) rfl (by omega)
  refine go_callf (by rw [hnt]; rfl) (by rw [hP]; kernel_rfl) rfl (hP ▸ (wherep_ok [fA, fB] _ G5 hAB).val (v' := .tuple #[.int .i64 0, .int .i64 0, .int .i64 0]) (by kernel_rfl)) ?_; (try (refine runo0 400 hty hnt hmh ?_; simp only [so, sq, zy, zz, tyE, zs1, zs2, zs3, zs4, zs5, ev, zs6, dOk, cv, zu1, zu2, zu3, eqB, Value.oneCell', zs7, zs8, zs9, zt1, zt2, isC, TK.agg, rv, rv1, ldV, zt3, zt4, zn1, zn2, zn3, zn4, zn5, zn6, zn7, reduceIte, reduceCtorEq, eq_self])); (repeat (first | refine x_seq rfl ?_ | refine go_ops ?_ | refine go_blk ?_ | refine x_skip rfl ?_ | refine x_blk rfl rfl ?_ | refine x_exit rfl rfl rfl ?_ | refine x_ift rfl rfl rfl ?_ | refine x_iff rfl rfl rfl ?_ | refine x_label rfl ?_ | ((first | refine x_reg rfl rfl ?_ | (refine go_newx hty hnt hmh rfl rfl ?_; intro _)); refine runo0 400 hty hnt hmh ?_; simp only [so, sq, zy, zz, tyE, zs1, zs2, zs3, zs4, zs5, ev, zs6, dOk, cv, zu1, zu2, zu3, eqB, Value.oneCell', zs7, zs8, zs9, zt1, zt2, isC, TK.agg, rv, rv1, ldV, zt3, zt4, zn1, zn2, zn3, zn4, zn5, zn6, zn7, reduceIte, reduceCtorEq, eq_self])))
  (refine go_gsplit rfl rfl (fun hc => absurd hc (by first | decide +kernel | simp)) (fun _ => ?_); simp only [so, sq, zy, zz, tyE, zs1, zs2, zs3, zs4, zs5, ev, zs6, dOk, cv, zu1, zu2, zu3, eqB, Value.oneCell', zs7, zs8, zs9, zt1, zt2, isC, TK.agg, rv, rv1, ldV, zt3, zt4, zn1, zn2, zn3, zn4, zn5, zn6, zn7, reduceIte, reduceCtorEq, eq_self]; ((try (refine runo0 400 hty hnt hmh ?_; simp only [so, sq, zy, zz, tyE, zs1, zs2, zs3, zs4, zs5, ev, zs6, dOk, cv, zu1, zu2, zu3, eqB, Value.oneCell', zs7, zs8, zs9, zt1, zt2, isC, TK.agg, rv, rv1, ldV, zt3, zt4, zn1, zn2, zn3, zn4, zn5, zn6, zn7, reduceIte, reduceCtorEq, eq_self])); (repeat (first | refine x_seq rfl ?_ | refine go_ops ?_ | refine go_blk ?_ | refine x_skip rfl ?_ | refine x_blk rfl rfl ?_ | refine x_exit rfl rfl rfl ?_ | refine x_ift rfl rfl rfl ?_ | refine x_iff rfl rfl rfl ?_ | refine x_label rfl ?_ | ((first | refine x_reg rfl rfl ?_ | (refine go_newx hty hnt hmh rfl rfl ?_; intro _)); refine runo0 400 hty hnt hmh ?_; simp only [so, sq, zy, zz, tyE, zs1, zs2, zs3, zs4, zs5, ev, zs6, dOk, cv, zu1, zu2, zu3, eqB, Value.oneCell', zs7, zs8, zs9, zt1, zt2, isC, TK.agg, rv, rv1, ldV, zt3, zt4, zn1, zn2, zn3, zn4, zn5, zn6, zn7, reduceIte, reduceCtorEq, eq_self])))))
  (refine go_gsplit rfl rfl (fun hc => absurd hc (by first | decide +kernel | simp)) (fun _ => ?_); simp only [so, sq, zy, zz, tyE, zs1, zs2, zs3, zs4, zs5, ev, zs6, dOk, cv, zu1, zu2, zu3, eqB, Value.oneCell', zs7, zs8, zs9, zt1, zt2, isC, TK.agg, rv, rv1, ldV, zt3, zt4, zn1, zn2, zn3, zn4, zn5, zn6, zn7, reduceIte, reduceCtorEq, eq_self]; ((try (refine runo0 400 hty hnt hmh ?_; simp only [so, sq, zy, zz, tyE, zs1, zs2, zs3, zs4, zs5, ev, zs6, dOk, cv, zu1, zu2, zu3, eqB, Value.oneCell', zs7, zs8, zs9, zt1, zt2, isC, TK.agg, rv, rv1, ldV, zt3, zt4, zn1, zn2, zn3, zn4, zn5, zn6, zn7, reduceIte, reduceCtorEq, eq_self])); (repeat (first | refine x_seq rfl ?_ | refine go_ops ?_ | refine go_blk ?_ | refine x_skip rfl ?_ | refine x_blk rfl rfl ?_ | refine x_exit rfl rfl rfl ?_ | refine x_ift rfl rfl rfl ?_ | refine x_iff rfl rfl rfl ?_ | refine x_label rfl ?_ | ((first | refine x_reg rfl rfl ?_ | (refine go_newx hty hnt hmh rfl rfl ?_; intro _)); refine runo0 400 hty hnt hmh ?_; simp only [so, sq, zy, zz, tyE, zs1, zs2, zs3, zs4, zs5, ev, zs6, dOk, cv, zu1, zu2, zu3, eqB, Value.oneCell', zs7, zs8, zs9, zt1, zt2, isC, TK.agg, rv, rv1, ldV, zt3, zt4, zn1, zn2, zn3, zn4, zn5, zn6, zn7, reduceIte, reduceCtorEq, eq_self])))))
  refine go_callf (by rw [hnt]; rfl) (by rw [hP]; kernel_rfl) rfl (hP ▸ num_ok 0 G5) ?_; (try (refine runo0 400 hty hnt hmh ?_; simp only [so, sq, zy, zz, tyE, zs1, zs2, zs3, zs4, zs5, ev, zs6, dOk, cv, zu1, zu2, zu3, eqB, Value.oneCell', zs7, zs8, zs9, zt1, zt2, isC, TK.agg, rv, rv1, ldV, zt3, zt4, zn1, zn2, zn3, zn4, zn5, zn6, zn7, reduceIte, reduceCtorEq, eq_self])); (repeat (first | refine x_seq rfl ?_ | refine go_ops ?_ | refine go_blk ?_ | refine x_skip rfl ?_ | refine x_blk rfl rfl ?_ | refine x_exit rfl rfl rfl ?_ | refine x_ift rfl rfl rfl ?_ | refine x_iff rfl rfl rfl ?_ | refine x_label rfl ?_ | ((first | refine x_reg rfl rfl ?_ | (refine go_newx hty hnt hmh rfl rfl ?_; intro _)); refine runo0 400 hty hnt hmh ?_; simp only [so, sq, zy, zz, tyE, zs1, zs2, zs3, zs4, zs5, ev, zs6, dOk, cv, zu1, zu2, zu3, eqB, Value.oneCell', zs7, zs8, zs9, zt1, zt2, isC, TK.agg, rv, rv1, ldV, zt3, zt4, zn1, zn2, zn3, zn4, zn5, zn6, zn7, reduceIte, reduceCtorEq, eq_self])))
  (refine go_gsplit rfl rfl (fun hc => absurd hc (by first | decide +kernel | simp)) (fun _ => ?_); simp only [so, sq, zy, zz, tyE, zs1, zs2, zs3, zs4, zs5, ev, zs6, dOk, cv, zu1, zu2, zu3, eqB, Value.oneCell', zs7, zs8, zs9, zt1, zt2, isC, TK.agg, rv, rv1, ldV, zt3, zt4, zn1, zn2, zn3, zn4, zn5, zn6, zn7, reduceIte, reduceCtorEq, eq_self]; ((try (refine runo0 400 hty hnt hmh ?_; simp only [so, sq, zy, zz, tyE, zs1, zs2, zs3, zs4, zs5, ev, zs6, dOk, cv, zu1, zu2, zu3, eqB, Value.oneCell', zs7, zs8, zs9, zt1, zt2, isC, TK.agg, rv, rv1, ldV, zt3, zt4, zn1, zn2, zn3, zn4, zn5, zn6, zn7, reduceIte, reduceCtorEq, eq_self])); (repeat (first | refine x_seq rfl ?_ | refine go_ops ?_ | refine go_blk ?_ | refine x_skip rfl ?_ | refine x_blk rfl rfl ?_ | refine x_exit rfl rfl rfl ?_ | refine x_ift rfl rfl rfl ?_ | refine x_iff rfl rfl rfl ?_ | refine x_label rfl ?_ | ((first | refine x_reg rfl rfl ?_ | (refine go_newx hty hnt hmh rfl rfl ?_; intro _)); refine runo0 400 hty hnt hmh ?_; simp only [so, sq, zy, zz, tyE, zs1, zs2, zs3, zs4, zs5, ev, zs6, dOk, cv, zu1, zu2, zu3, eqB, Value.oneCell', zs7, zs8, zs9, zt1, zt2, isC, TK.agg, rv, rv1, ldV, zt3, zt4, zn1, zn2, zn3, zn4, zn5, zn6, zn7, reduceIte, reduceCtorEq, eq_self])))))
  rename_i bq
  refine go_pub 91 rfl (by omega) ?_
  rintro G6 (hle6 : Le G5 G6) hGq
  refine go_slot 52 (.v (.slice (some ⟨bq, 0, none⟩) 1 1)) rfl (by simp [SV.den]) ?_
  simp only [so, sq, zy, zz, tyE, zs1, zs2, zs3, zs4, zs5, ev, zs6, dOk, cv, zu1, zu2, zu3, eqB, Value.oneCell', zs7, zs8, zs9, zt1, zt2, isC, TK.agg, rv, rv1, ldV, zt3, zt4, zn1, zn2, zn3, zn4, zn5, zn6, zn7, reduceIte, reduceCtorEq, eq_self]
  replace hSA := Rp.S_mono hle6 hSA
  replace hSB := Rp.S_mono hle6 hSB
  replace hSC := Rp.S_mono hle6 hSC
  have hPq : rF.S G6 [fA] (.slice (some ⟨bq, 0, none⟩) 1 1) := rF_S (at_cells hGq) (rF_cons hi0 hSA rfl) rfl (by omega)
  (refine go_callf (by rw [hnt]; rfl) (by rw [hP]; kernel_rfl) rfl (by rw [hP]; exact of_ok _ _ _ _) ?_; (try (refine runo0 400 hty hnt hmh ?_; simp only [so, sq, zy, zz, tyE, zs1, zs2, zs3, zs4, zs5, ev, zs6, dOk, cv, zu1, zu2, zu3, eqB, Value.oneCell', zs7, zs8, zs9, zt1, zt2, isC, TK.agg, rv, rv1, ldV, zt3, zt4, zn1, zn2, zn3, zn4, zn5, zn6, zn7, reduceIte, reduceCtorEq, eq_self])); (repeat (first | refine x_seq rfl ?_ | refine go_ops ?_ | refine go_blk ?_ | refine x_skip rfl ?_ | refine x_blk rfl rfl ?_ | refine x_exit rfl rfl rfl ?_ | refine x_ift rfl rfl rfl ?_ | refine x_iff rfl rfl rfl ?_ | refine x_label rfl ?_ | ((first | refine x_reg rfl rfl ?_ | (refine go_newx hty hnt hmh rfl rfl ?_; intro _)); refine runo0 400 hty hnt hmh ?_; simp only [so, sq, zy, zz, tyE, zs1, zs2, zs3, zs4, zs5, ev, zs6, dOk, cv, zu1, zu2, zu3, eqB, Value.oneCell', zs7, zs8, zs9, zt1, zt2, isC, TK.agg, rv, rv1, ldV, zt3, zt4, zn1, zn2, zn3, zn4, zn5, zn6, zn7, reduceIte, reduceCtorEq, eq_self]))))
  (refine go_callf (by rw [hnt]; rfl) (by rw [hP]; kernel_rfl) rfl (by rw [hP]; exact wrong_ok [fA] _ 0 0 G6 hPq (by kernel_rfl)) ?_; (try (refine runo0 400 hty hnt hmh ?_; simp only [so, sq, zy, zz, tyE, zs1, zs2, zs3, zs4, zs5, ev, zs6, dOk, cv, zu1, zu2, zu3, eqB, Value.oneCell', zs7, zs8, zs9, zt1, zt2, isC, TK.agg, rv, rv1, ldV, zt3, zt4, zn1, zn2, zn3, zn4, zn5, zn6, zn7, reduceIte, reduceCtorEq, eq_self])); (repeat (first | refine x_seq rfl ?_ | refine go_ops ?_ | refine go_blk ?_ | refine x_skip rfl ?_ | refine x_blk rfl rfl ?_ | refine x_exit rfl rfl rfl ?_ | refine x_ift rfl rfl rfl ?_ | refine x_iff rfl rfl rfl ?_ | refine x_label rfl ?_ | ((first | refine x_reg rfl rfl ?_ | (refine go_newx hty hnt hmh rfl rfl ?_; intro _)); refine runo0 400 hty hnt hmh ?_; simp only [so, sq, zy, zz, tyE, zs1, zs2, zs3, zs4, zs5, ev, zs6, dOk, cv, zu1, zu2, zu3, eqB, Value.oneCell', zs7, zs8, zs9, zt1, zt2, isC, TK.agg, rv, rv1, ldV, zt3, zt4, zn1, zn2, zn3, zn4, zn5, zn6, zn7, reduceIte, reduceCtorEq, eq_self]))))
  clear hPq
  (refine go_gsplit rfl rfl (fun hc => absurd hc (by first | decide +kernel | simp)) (fun _ => ?_); simp only [so, sq, zy, zz, tyE, zs1, zs2, zs3, zs4, zs5, ev, zs6, dOk, cv, zu1, zu2, zu3, eqB, Value.oneCell', zs7, zs8, zs9, zt1, zt2, isC, TK.agg, rv, rv1, ldV, zt3, zt4, zn1, zn2, zn3, zn4, zn5, zn6, zn7, reduceIte, reduceCtorEq, eq_self]; ((try (refine runo0 400 hty hnt hmh ?_; simp only [so, sq, zy, zz, tyE, zs1, zs2, zs3, zs4, zs5, ev, zs6, dOk, cv, zu1, zu2, zu3, eqB, Value.oneCell', zs7, zs8, zs9, zt1, zt2, isC, TK.agg, rv, rv1, ldV, zt3, zt4, zn1, zn2, zn3, zn4, zn5, zn6, zn7, reduceIte, reduceCtorEq, eq_self])); (repeat (first | refine x_seq rfl ?_ | refine go_ops ?_ | refine go_blk ?_ | refine x_skip rfl ?_ | refine x_blk rfl rfl ?_ | refine x_exit rfl rfl rfl ?_ | refine x_ift rfl rfl rfl ?_ | refine x_iff rfl rfl rfl ?_ | refine x_label rfl ?_ | ((first | refine x_reg rfl rfl ?_ | (refine go_newx hty hnt hmh rfl rfl ?_; intro _)); refine runo0 400 hty hnt hmh ?_; simp only [so, sq, zy, zz, tyE, zs1, zs2, zs3, zs4, zs5, ev, zs6, dOk, cv, zu1, zu2, zu3, eqB, Value.oneCell', zs7, zs8, zs9, zt1, zt2, isC, TK.agg, rv, rv1, ldV, zt3, zt4, zn1, zn2, zn3, zn4, zn5, zn6, zn7, reduceIte, reduceCtorEq, eq_self])))))
  rename_i bq
  refine go_pub 91 rfl (by omega) ?_
  rintro G7 (hle7 : Le G6 G7) hGq
  refine go_slot 60 (.v (.slice (some ⟨bq, 0, none⟩) 2 2)) rfl (by simp [SV.den]) ?_
  simp only [so, sq, zy, zz, tyE, zs1, zs2, zs3, zs4, zs5, ev, zs6, dOk, cv, zu1, zu2, zu3, eqB, Value.oneCell', zs7, zs8, zs9, zt1, zt2, isC, TK.agg, rv, rv1, ldV, zt3, zt4, zn1, zn2, zn3, zn4, zn5, zn6, zn7, reduceIte, reduceCtorEq, eq_self]
  replace hSA := Rp.S_mono hle7 hSA
  replace hSB := Rp.S_mono hle7 hSB
  replace hSC := Rp.S_mono hle7 hSC
  have hPq : rF.S G7 [fA, fC] (.slice (some ⟨bq, 0, none⟩) 2 2) := rF_S (at_cells hGq) (rF_cons hi0 hSA (rF_cons hi0 hSC rfl)) rfl (by omega)
  (refine go_callf (by rw [hnt]; rfl) (by rw [hP]; kernel_rfl) rfl (by rw [hP]; exact of_ok _ _ _ _) ?_; (try (refine runo0 400 hty hnt hmh ?_; simp only [so, sq, zy, zz, tyE, zs1, zs2, zs3, zs4, zs5, ev, zs6, dOk, cv, zu1, zu2, zu3, eqB, Value.oneCell', zs7, zs8, zs9, zt1, zt2, isC, TK.agg, rv, rv1, ldV, zt3, zt4, zn1, zn2, zn3, zn4, zn5, zn6, zn7, reduceIte, reduceCtorEq, eq_self])); (repeat (first | refine x_seq rfl ?_ | refine go_ops ?_ | refine go_blk ?_ | refine x_skip rfl ?_ | refine x_blk rfl rfl ?_ | refine x_exit rfl rfl rfl ?_ | refine x_ift rfl rfl rfl ?_ | refine x_iff rfl rfl rfl ?_ | refine x_label rfl ?_ | ((first | refine x_reg rfl rfl ?_ | (refine go_newx hty hnt hmh rfl rfl ?_; intro _)); refine runo0 400 hty hnt hmh ?_; simp only [so, sq, zy, zz, tyE, zs1, zs2, zs3, zs4, zs5, ev, zs6, dOk, cv, zu1, zu2, zu3, eqB, Value.oneCell', zs7, zs8, zs9, zt1, zt2, isC, TK.agg, rv, rv1, ldV, zt3, zt4, zn1, zn2, zn3, zn4, zn5, zn6, zn7, reduceIte, reduceCtorEq, eq_self]))))
  (refine go_callf (by rw [hnt]; rfl) (by rw [hP]; kernel_rfl) rfl (by rw [hP]; exact wrong_ok [fA, fC] _ 0 0 G7 hPq (by kernel_rfl)) ?_; (try (refine runo0 400 hty hnt hmh ?_; simp only [so, sq, zy, zz, tyE, zs1, zs2, zs3, zs4, zs5, ev, zs6, dOk, cv, zu1, zu2, zu3, eqB, Value.oneCell', zs7, zs8, zs9, zt1, zt2, isC, TK.agg, rv, rv1, ldV, zt3, zt4, zn1, zn2, zn3, zn4, zn5, zn6, zn7, reduceIte, reduceCtorEq, eq_self])); (repeat (first | refine x_seq rfl ?_ | refine go_ops ?_ | refine go_blk ?_ | refine x_skip rfl ?_ | refine x_blk rfl rfl ?_ | refine x_exit rfl rfl rfl ?_ | refine x_ift rfl rfl rfl ?_ | refine x_iff rfl rfl rfl ?_ | refine x_label rfl ?_ | ((first | refine x_reg rfl rfl ?_ | (refine go_newx hty hnt hmh rfl rfl ?_; intro _)); refine runo0 400 hty hnt hmh ?_; simp only [so, sq, zy, zz, tyE, zs1, zs2, zs3, zs4, zs5, ev, zs6, dOk, cv, zu1, zu2, zu3, eqB, Value.oneCell', zs7, zs8, zs9, zt1, zt2, isC, TK.agg, rv, rv1, ldV, zt3, zt4, zn1, zn2, zn3, zn4, zn5, zn6, zn7, reduceIte, reduceCtorEq, eq_self]))))
  clear hPq
  (refine go_gsplit rfl rfl (fun hc => absurd hc (by first | decide +kernel | simp)) (fun _ => ?_); simp only [so, sq, zy, zz, tyE, zs1, zs2, zs3, zs4, zs5, ev, zs6, dOk, cv, zu1, zu2, zu3, eqB, Value.oneCell', zs7, zs8, zs9, zt1, zt2, isC, TK.agg, rv, rv1, ldV, zt3, zt4, zn1, zn2, zn3, zn4, zn5, zn6, zn7, reduceIte, reduceCtorEq, eq_self]; ((try (refine runo0 400 hty hnt hmh ?_; simp only [so, sq, zy, zz, tyE, zs1, zs2, zs3, zs4, zs5, ev, zs6, dOk, cv, zu1, zu2, zu3, eqB, Value.oneCell', zs7, zs8, zs9, zt1, zt2, isC, TK.agg, rv, rv1, ldV, zt3, zt4, zn1, zn2, zn3, zn4, zn5, zn6, zn7, reduceIte, reduceCtorEq, eq_self])); (repeat (first | refine x_seq rfl ?_ | refine go_ops ?_ | refine go_blk ?_ | refine x_skip rfl ?_ | refine x_blk rfl rfl ?_ | refine x_exit rfl rfl rfl ?_ | refine x_ift rfl rfl rfl ?_ | refine x_iff rfl rfl rfl ?_ | refine x_label rfl ?_ | ((first | refine x_reg rfl rfl ?_ | (refine go_newx hty hnt hmh rfl rfl ?_; intro _)); refine runo0 400 hty hnt hmh ?_; simp only [so, sq, zy, zz, tyE, zs1, zs2, zs3, zs4, zs5, ev, zs6, dOk, cv, zu1, zu2, zu3, eqB, Value.oneCell', zs7, zs8, zs9, zt1, zt2, isC, TK.agg, rv, rv1, ldV, zt3, zt4, zn1, zn2, zn3, zn4, zn5, zn6, zn7, reduceIte, reduceCtorEq, eq_self])))))
  rename_i bq
  refine go_pub 91 rfl (by omega) ?_
  rintro G8 (hle8 : Le G7 G8) hGq
  refine go_slot 67 (.v (.slice (some ⟨bq, 0, none⟩) 1 1)) rfl (by simp [SV.den]) ?_
  simp only [so, sq, zy, zz, tyE, zs1, zs2, zs3, zs4, zs5, ev, zs6, dOk, cv, zu1, zu2, zu3, eqB, Value.oneCell', zs7, zs8, zs9, zt1, zt2, isC, TK.agg, rv, rv1, ldV, zt3, zt4, zn1, zn2, zn3, zn4, zn5, zn6, zn7, reduceIte, reduceCtorEq, eq_self]
  replace hSA := Rp.S_mono hle8 hSA
  replace hSB := Rp.S_mono hle8 hSB
  replace hSC := Rp.S_mono hle8 hSC
  have hPq : rF.S G8 [fB] (.slice (some ⟨bq, 0, none⟩) 1 1) := rF_S (at_cells hGq) (rF_cons hi1 hSB rfl) rfl (by omega)
  (refine go_callf (by rw [hnt]; rfl) (by rw [hP]; kernel_rfl) rfl (by rw [hP]; exact of_ok _ _ _ _) ?_; (try (refine runo0 400 hty hnt hmh ?_; simp only [so, sq, zy, zz, tyE, zs1, zs2, zs3, zs4, zs5, ev, zs6, dOk, cv, zu1, zu2, zu3, eqB, Value.oneCell', zs7, zs8, zs9, zt1, zt2, isC, TK.agg, rv, rv1, ldV, zt3, zt4, zn1, zn2, zn3, zn4, zn5, zn6, zn7, reduceIte, reduceCtorEq, eq_self])); (repeat (first | refine x_seq rfl ?_ | refine go_ops ?_ | refine go_blk ?_ | refine x_skip rfl ?_ | refine x_blk rfl rfl ?_ | refine x_exit rfl rfl rfl ?_ | refine x_ift rfl rfl rfl ?_ | refine x_iff rfl rfl rfl ?_ | refine x_label rfl ?_ | ((first | refine x_reg rfl rfl ?_ | (refine go_newx hty hnt hmh rfl rfl ?_; intro _)); refine runo0 400 hty hnt hmh ?_; simp only [so, sq, zy, zz, tyE, zs1, zs2, zs3, zs4, zs5, ev, zs6, dOk, cv, zu1, zu2, zu3, eqB, Value.oneCell', zs7, zs8, zs9, zt1, zt2, isC, TK.agg, rv, rv1, ldV, zt3, zt4, zn1, zn2, zn3, zn4, zn5, zn6, zn7, reduceIte, reduceCtorEq, eq_self]))))
  (refine go_callf (by rw [hnt]; rfl) (by rw [hP]; kernel_rfl) rfl (by rw [hP]; exact wrong_ok [fB] _ 0 0 G8 hPq (by kernel_rfl)) ?_; (try (refine runo0 400 hty hnt hmh ?_; simp only [so, sq, zy, zz, tyE, zs1, zs2, zs3, zs4, zs5, ev, zs6, dOk, cv, zu1, zu2, zu3, eqB, Value.oneCell', zs7, zs8, zs9, zt1, zt2, isC, TK.agg, rv, rv1, ldV, zt3, zt4, zn1, zn2, zn3, zn4, zn5, zn6, zn7, reduceIte, reduceCtorEq, eq_self])); (repeat (first | refine x_seq rfl ?_ | refine go_ops ?_ | refine go_blk ?_ | refine x_skip rfl ?_ | refine x_blk rfl rfl ?_ | refine x_exit rfl rfl rfl ?_ | refine x_ift rfl rfl rfl ?_ | refine x_iff rfl rfl rfl ?_ | refine x_label rfl ?_ | ((first | refine x_reg rfl rfl ?_ | (refine go_newx hty hnt hmh rfl rfl ?_; intro _)); refine runo0 400 hty hnt hmh ?_; simp only [so, sq, zy, zz, tyE, zs1, zs2, zs3, zs4, zs5, ev, zs6, dOk, cv, zu1, zu2, zu3, eqB, Value.oneCell', zs7, zs8, zs9, zt1, zt2, isC, TK.agg, rv, rv1, ldV, zt3, zt4, zn1, zn2, zn3, zn4, zn5, zn6, zn7, reduceIte, reduceCtorEq, eq_self]))))
  clear hPq
  (refine go_gsplit rfl rfl (fun hc => absurd hc (by first | decide +kernel | simp)) (fun _ => ?_); simp only [so, sq, zy, zz, tyE, zs1, zs2, zs3, zs4, zs5, ev, zs6, dOk, cv, zu1, zu2, zu3, eqB, Value.oneCell', zs7, zs8, zs9, zt1, zt2, isC, TK.agg, rv, rv1, ldV, zt3, zt4, zn1, zn2, zn3, zn4, zn5, zn6, zn7, reduceIte, reduceCtorEq, eq_self]; ((try (refine runo0 400 hty hnt hmh ?_; simp only [so, sq, zy, zz, tyE, zs1, zs2, zs3, zs4, zs5, ev, zs6, dOk, cv, zu1, zu2, zu3, eqB, Value.oneCell', zs7, zs8, zs9, zt1, zt2, isC, TK.agg, rv, rv1, ldV, zt3, zt4, zn1, zn2, zn3, zn4, zn5, zn6, zn7, reduceIte, reduceCtorEq, eq_self])); (repeat (first | refine x_seq rfl ?_ | refine go_ops ?_ | refine go_blk ?_ | refine x_skip rfl ?_ | refine x_blk rfl rfl ?_ | refine x_exit rfl rfl rfl ?_ | refine x_ift rfl rfl rfl ?_ | refine x_iff rfl rfl rfl ?_ | refine x_label rfl ?_ | ((first | refine x_reg rfl rfl ?_ | (refine go_newx hty hnt hmh rfl rfl ?_; intro _)); refine runo0 400 hty hnt hmh ?_; simp only [so, sq, zy, zz, tyE, zs1, zs2, zs3, zs4, zs5, ev, zs6, dOk, cv, zu1, zu2, zu3, eqB, Value.oneCell', zs7, zs8, zs9, zt1, zt2, isC, TK.agg, rv, rv1, ldV, zt3, zt4, zn1, zn2, zn3, zn4, zn5, zn6, zn7, reduceIte, reduceCtorEq, eq_self])))))
  have hPq : rF.S G8 [] (.slice none 0 0) := Rp.S_nil _ _
  (refine go_callf (by rw [hnt]; rfl) (by rw [hP]; kernel_rfl) rfl (by rw [hP]; exact of_ok _ _ _ _) ?_; (try (refine runo0 400 hty hnt hmh ?_; simp only [so, sq, zy, zz, tyE, zs1, zs2, zs3, zs4, zs5, ev, zs6, dOk, cv, zu1, zu2, zu3, eqB, Value.oneCell', zs7, zs8, zs9, zt1, zt2, isC, TK.agg, rv, rv1, ldV, zt3, zt4, zn1, zn2, zn3, zn4, zn5, zn6, zn7, reduceIte, reduceCtorEq, eq_self])); (repeat (first | refine x_seq rfl ?_ | refine go_ops ?_ | refine go_blk ?_ | refine x_skip rfl ?_ | refine x_blk rfl rfl ?_ | refine x_exit rfl rfl rfl ?_ | refine x_ift rfl rfl rfl ?_ | refine x_iff rfl rfl rfl ?_ | refine x_label rfl ?_ | ((first | refine x_reg rfl rfl ?_ | (refine go_newx hty hnt hmh rfl rfl ?_; intro _)); refine runo0 400 hty hnt hmh ?_; simp only [so, sq, zy, zz, tyE, zs1, zs2, zs3, zs4, zs5, ev, zs6, dOk, cv, zu1, zu2, zu3, eqB, Value.oneCell', zs7, zs8, zs9, zt1, zt2, isC, TK.agg, rv, rv1, ldV, zt3, zt4, zn1, zn2, zn3, zn4, zn5, zn6, zn7, reduceIte, reduceCtorEq, eq_self]))))
  (refine go_callf (by rw [hnt]; rfl) (by rw [hP]; kernel_rfl) rfl (by rw [hP]; exact wrong_ok [] _ 0 0 G8 hPq (by kernel_rfl)) ?_; (try (refine runo0 400 hty hnt hmh ?_; simp only [so, sq, zy, zz, tyE, zs1, zs2, zs3, zs4, zs5, ev, zs6, dOk, cv, zu1, zu2, zu3, eqB, Value.oneCell', zs7, zs8, zs9, zt1, zt2, isC, TK.agg, rv, rv1, ldV, zt3, zt4, zn1, zn2, zn3, zn4, zn5, zn6, zn7, reduceIte, reduceCtorEq, eq_self])); (repeat (first | refine x_seq rfl ?_ | refine go_ops ?_ | refine go_blk ?_ | refine x_skip rfl ?_ | refine x_blk rfl rfl ?_ | refine x_exit rfl rfl rfl ?_ | refine x_ift rfl rfl rfl ?_ | refine x_iff rfl rfl rfl ?_ | refine x_label rfl ?_ | ((first | refine x_reg rfl rfl ?_ | (refine go_newx hty hnt hmh rfl rfl ?_; intro _)); refine runo0 400 hty hnt hmh ?_; simp only [so, sq, zy, zz, tyE, zs1, zs2, zs3, zs4, zs5, ev, zs6, dOk, cv, zu1, zu2, zu3, eqB, Value.oneCell', zs7, zs8, zs9, zt1, zt2, isC, TK.agg, rv, rv1, ldV, zt3, zt4, zn1, zn2, zn3, zn4, zn5, zn6, zn7, reduceIte, reduceCtorEq, eq_self]))))
  clear hPq
  (refine go_gsplit rfl rfl (fun hc => absurd hc (by first | decide +kernel | simp)) (fun _ => ?_); simp only [so, sq, zy, zz, tyE, zs1, zs2, zs3, zs4, zs5, ev, zs6, dOk, cv, zu1, zu2, zu3, eqB, Value.oneCell', zs7, zs8, zs9, zt1, zt2, isC, TK.agg, rv, rv1, ldV, zt3, zt4, zn1, zn2, zn3, zn4, zn5, zn6, zn7, reduceIte, reduceCtorEq, eq_self]; ((try (refine runo0 400 hty hnt hmh ?_; simp only [so, sq, zy, zz, tyE, zs1, zs2, zs3, zs4, zs5, ev, zs6, dOk, cv, zu1, zu2, zu3, eqB, Value.oneCell', zs7, zs8, zs9, zt1, zt2, isC, TK.agg, rv, rv1, ldV, zt3, zt4, zn1, zn2, zn3, zn4, zn5, zn6, zn7, reduceIte, reduceCtorEq, eq_self])); (repeat (first | refine x_seq rfl ?_ | refine go_ops ?_ | refine go_blk ?_ | refine x_skip rfl ?_ | refine x_blk rfl rfl ?_ | refine x_exit rfl rfl rfl ?_ | refine x_ift rfl rfl rfl ?_ | refine x_iff rfl rfl rfl ?_ | refine x_label rfl ?_ | ((first | refine x_reg rfl rfl ?_ | (refine go_newx hty hnt hmh rfl rfl ?_; intro _)); refine runo0 400 hty hnt hmh ?_; simp only [so, sq, zy, zz, tyE, zs1, zs2, zs3, zs4, zs5, ev, zs6, dOk, cv, zu1, zu2, zu3, eqB, Value.oneCell', zs7, zs8, zs9, zt1, zt2, isC, TK.agg, rv, rv1, ldV, zt3, zt4, zn1, zn2, zn3, zn4, zn5, zn6, zn7, reduceIte, reduceCtorEq, eq_self])))))
  rename_i be bz
  refine go_pub 91 rfl (by omega) ?_
  rintro G9 (hle9 : Le G8 G9) hGe
  refine go_pub 92 rfl (by omega) ?_
  rintro G10 (hle10 : Le G9 G10) hGq
  refine go_slot 82 (.v (.slice (some ⟨bz, 0, none⟩) 2 2)) rfl (by simp [SV.den]) ?_
  simp only [so, sq, zy, zz, tyE, zs1, zs2, zs3, zs4, zs5, ev, zs6, dOk, cv, zu1, zu2, zu3, eqB, Value.oneCell', zs7, zs8, zs9, zt1, zt2, isC, TK.agg, rv, rv1, ldV, zt3, zt4, zn1, zn2, zn3, zn4, zn5, zn6, zn7, reduceIte, reduceCtorEq, eq_self]
  have hle810 := hle9.trans hle10
  replace hSA := Rp.S_mono hle810 hSA
  replace hSB := Rp.S_mono hle810 hSB
  replace hSC := Rp.S_mono hle810 hSC
  have hSE : rN.S G10 fE.nodes (.slice (some ⟨be, 0, none⟩) 1 1) := rN_S (at_cells (hle10 _ _ hGe)) (rN_leaf (by simp [isI64]) (by simp [isI64]) rfl) rfl (by omega)
  have hPq : rF.S G10 [fA, fE] (.slice (some ⟨bz, 0, none⟩) 2 2) := rF_S (at_cells hGq) (rF_cons hi0 hSA (rF_cons hi0 hSE rfl)) rfl (by omega)
  (refine go_callf (by rw [hnt]; rfl) (by rw [hP]; kernel_rfl) rfl (by rw [hP]; exact of_ok _ _ _ _) ?_; (try (refine runo0 400 hty hnt hmh ?_; simp only [so, sq, zy, zz, tyE, zs1, zs2, zs3, zs4, zs5, ev, zs6, dOk, cv, zu1, zu2, zu3, eqB, Value.oneCell', zs7, zs8, zs9, zt1, zt2, isC, TK.agg, rv, rv1, ldV, zt3, zt4, zn1, zn2, zn3, zn4, zn5, zn6, zn7, reduceIte, reduceCtorEq, eq_self])); (repeat (first | refine x_seq rfl ?_ | refine go_ops ?_ | refine go_blk ?_ | refine x_skip rfl ?_ | refine x_blk rfl rfl ?_ | refine x_exit rfl rfl rfl ?_ | refine x_ift rfl rfl rfl ?_ | refine x_iff rfl rfl rfl ?_ | refine x_label rfl ?_ | ((first | refine x_reg rfl rfl ?_ | (refine go_newx hty hnt hmh rfl rfl ?_; intro _)); refine runo0 400 hty hnt hmh ?_; simp only [so, sq, zy, zz, tyE, zs1, zs2, zs3, zs4, zs5, ev, zs6, dOk, cv, zu1, zu2, zu3, eqB, Value.oneCell', zs7, zs8, zs9, zt1, zt2, isC, TK.agg, rv, rv1, ldV, zt3, zt4, zn1, zn2, zn3, zn4, zn5, zn6, zn7, reduceIte, reduceCtorEq, eq_self]))))
  (refine go_callf (by rw [hnt]; rfl) (by rw [hP]; kernel_rfl) rfl (by rw [hP]; exact wrong_ok [fA, fE] _ 1 0 G10 hPq (by kernel_rfl)) ?_; (try (refine runo0 400 hty hnt hmh ?_; simp only [so, sq, zy, zz, tyE, zs1, zs2, zs3, zs4, zs5, ev, zs6, dOk, cv, zu1, zu2, zu3, eqB, Value.oneCell', zs7, zs8, zs9, zt1, zt2, isC, TK.agg, rv, rv1, ldV, zt3, zt4, zn1, zn2, zn3, zn4, zn5, zn6, zn7, reduceIte, reduceCtorEq, eq_self])); (repeat (first | refine x_seq rfl ?_ | refine go_ops ?_ | refine go_blk ?_ | refine x_skip rfl ?_ | refine x_blk rfl rfl ?_ | refine x_exit rfl rfl rfl ?_ | refine x_ift rfl rfl rfl ?_ | refine x_iff rfl rfl rfl ?_ | refine x_label rfl ?_ | ((first | refine x_reg rfl rfl ?_ | (refine go_newx hty hnt hmh rfl rfl ?_; intro _)); refine runo0 400 hty hnt hmh ?_; simp only [so, sq, zy, zz, tyE, zs1, zs2, zs3, zs4, zs5, ev, zs6, dOk, cv, zu1, zu2, zu3, eqB, Value.oneCell', zs7, zs8, zs9, zt1, zt2, isC, TK.agg, rv, rv1, ldV, zt3, zt4, zn1, zn2, zn3, zn4, zn5, zn6, zn7, reduceIte, reduceCtorEq, eq_self]))))
  clear hPq
  (refine x_split rfl rfl rfl (fun hc => absurd hc (by first | decide +kernel | simp)) (fun _ => ?_); simp only [so, sq, zy, zz, tyE, zs1, zs2, zs3, zs4, zs5, ev, zs6, dOk, cv, zu1, zu2, zu3, eqB, Value.oneCell', zs7, zs8, zs9, zt1, zt2, isC, TK.agg, rv, rv1, ldV, zt3, zt4, zn1, zn2, zn3, zn4, zn5, zn6, zn7, reduceIte, reduceCtorEq, eq_self]; (repeat (first | refine x_seq rfl ?_ | refine go_ops ?_ | refine go_blk ?_ | refine x_skip rfl ?_ | refine x_blk rfl rfl ?_ | refine x_exit rfl rfl rfl ?_ | refine x_ift rfl rfl rfl ?_ | refine x_iff rfl rfl rfl ?_ | refine x_label rfl ?_ | ((first | refine x_reg rfl rfl ?_ | (refine go_newx hty hnt hmh rfl rfl ?_; intro _)); refine runo0 400 hty hnt hmh ?_; simp only [so, sq, zy, zz, tyE, zs1, zs2, zs3, zs4, zs5, ev, zs6, dOk, cv, zu1, zu2, zu3, eqB, Value.oneCell', zs7, zs8, zs9, zt1, zt2, isC, TK.agg, rv, rv1, ldV, zt3, zt4, zn1, zn2, zn3, zn4, zn5, zn6, zn7, reduceIte, reduceCtorEq, eq_self]))))
  refine go_keep [0, 1, 2, 3, 90] [0, 3, 5, 7, 90, 91] ?_
  simp only [so, sq, zy, zz, tyE, zs1, zs2, zs3, zs4, zs5, ev, zs6, dOk, cv, zu1, zu2, zu3, eqB, Value.oneCell', zs7, zs8, zs9, zt1, zt2, isC, TK.agg, rv, rv1, ldV, zt3, zt4, zn1, zn2, zn3, zn4, zn5, zn6, zn7, reduceIte, reduceCtorEq, eq_self]
  rename_i bq
  refine go_pub 91 rfl (by omega) ?_
  rintro G11 (hle11 : Le G10 G11) hGq
  refine go_slot 90 (.v (.slice (some ⟨bq, 0, none⟩) 3 3)) rfl (by simp [SV.den]) ?_
  simp only [so, sq, zy, zz, tyE, zs1, zs2, zs3, zs4, zs5, ev, zs6, dOk, cv, zu1, zu2, zu3, eqB, Value.oneCell', zs7, zs8, zs9, zt1, zt2, isC, TK.agg, rv, rv1, ldV, zt3, zt4, zn1, zn2, zn3, zn4, zn5, zn6, zn7, reduceIte, reduceCtorEq, eq_self]
  replace hSA := Rp.S_mono hle11 hSA
  replace hSB := Rp.S_mono hle11 hSB
  replace hSC := Rp.S_mono hle11 hSC
  have hPq : rF.S G11 [fA, fB, fC] (.slice (some ⟨bq, 0, none⟩) 3 3) := rF_S (at_cells hGq) (rF_cons hi0 hSA (rF_cons hi1 hSB (rF_cons hi0 hSC rfl))) rfl (by omega)
  (refine go_callf (by rw [hnt]; rfl) (by rw [hP]; kernel_rfl) rfl (by rw [hP]; exact of_ok _ _ _ _) ?_; (try (refine runo0 400 hty hnt hmh ?_; simp only [so, sq, zy, zz, tyE, zs1, zs2, zs3, zs4, zs5, ev, zs6, dOk, cv, zu1, zu2, zu3, eqB, Value.oneCell', zs7, zs8, zs9, zt1, zt2, isC, TK.agg, rv, rv1, ldV, zt3, zt4, zn1, zn2, zn3, zn4, zn5, zn6, zn7, reduceIte, reduceCtorEq, eq_self])); (repeat (first | refine x_seq rfl ?_ | refine go_ops ?_ | refine go_blk ?_ | refine x_skip rfl ?_ | refine x_blk rfl rfl ?_ | refine x_exit rfl rfl rfl ?_ | refine x_ift rfl rfl rfl ?_ | refine x_iff rfl rfl rfl ?_ | refine x_label rfl ?_ | ((first | refine x_reg rfl rfl ?_ | (refine go_newx hty hnt hmh rfl rfl ?_; intro _)); refine runo0 400 hty hnt hmh ?_; simp only [so, sq, zy, zz, tyE, zs1, zs2, zs3, zs4, zs5, ev, zs6, dOk, cv, zu1, zu2, zu3, eqB, Value.oneCell', zs7, zs8, zs9, zt1, zt2, isC, TK.agg, rv, rv1, ldV, zt3, zt4, zn1, zn2, zn3, zn4, zn5, zn6, zn7, reduceIte, reduceCtorEq, eq_self]))))
  refine go_call (by rw [hnt]; rfl) (by rw [hP]; kernel_rfl) rfl (hP ▸ reach_ok [fA, fB, fC] _ G11 hPq) ?_
  rintro v G12 (hle12 : Le G11 G12) ⟨fn, cp, rfl, hfc, hit⟩
  replace hit := hit.mono (diff_le G12 G11)
  have hrl : rL [fA, fB, fC] = [(0, 0), (1, 1)] := by kernel_rfl
  rw [hrl] at hit
  replace hSA := Rp.S_mono hle12 hSA
  replace hSB := Rp.S_mono hle12 hSB
  replace hSC := Rp.S_mono hle12 hSC
  (try (refine runo0 400 hty hnt hmh ?_; simp only [so, sq, zy, zz, tyE, zs1, zs2, zs3, zs4, zs5, ev, zs6, dOk, cv, zu1, zu2, zu3, eqB, Value.oneCell', zs7, zs8, zs9, zt1, zt2, isC, TK.agg, rv, rv1, ldV, zt3, zt4, zn1, zn2, zn3, zn4, zn5, zn6, zn7, reduceIte, reduceCtorEq, eq_self])); (repeat (first | refine x_seq rfl ?_ | refine go_ops ?_ | refine go_blk ?_ | refine x_skip rfl ?_ | refine x_blk rfl rfl ?_ | refine x_exit rfl rfl rfl ?_ | refine x_ift rfl rfl rfl ?_ | refine x_iff rfl rfl rfl ?_ | refine x_label rfl ?_ | ((first | refine x_reg rfl rfl ?_ | (refine go_newx hty hnt hmh rfl rfl ?_; intro _)); refine runo0 400 hty hnt hmh ?_; simp only [so, sq, zy, zz, tyE, zs1, zs2, zs3, zs4, zs5, ev, zs6, dOk, cv, zu1, zu2, zu3, eqB, Value.oneCell', zs7, zs8, zs9, zt1, zt2, isC, TK.agg, rv, rv1, ldV, zt3, zt4, zn1, zn2, zn3, zn4, zn5, zn6, zn7, reduceIte, reduceCtorEq, eq_self])))
  refine go_q (by rw [hnt]; rfl) (quiet_feq (by rw [hty]; rfl) rfl rfl) ?_
  (try (refine runo0 400 hty hnt hmh ?_; simp only [so, sq, zy, zz, tyE, zs1, zs2, zs3, zs4, zs5, ev, zs6, dOk, cv, zu1, zu2, zu3, eqB, Value.oneCell', zs7, zs8, zs9, zt1, zt2, isC, TK.agg, rv, rv1, ldV, zt3, zt4, zn1, zn2, zn3, zn4, zn5, zn6, zn7, reduceIte, reduceCtorEq, eq_self])); (repeat (first | refine x_seq rfl ?_ | refine go_ops ?_ | refine go_blk ?_ | refine x_skip rfl ?_ | refine x_blk rfl rfl ?_ | refine x_exit rfl rfl rfl ?_ | refine x_ift rfl rfl rfl ?_ | refine x_iff rfl rfl rfl ?_ | refine x_label rfl ?_ | ((first | refine x_reg rfl rfl ?_ | (refine go_newx hty hnt hmh rfl rfl ?_; intro _)); refine runo0 400 hty hnt hmh ?_; simp only [so, sq, zy, zz, tyE, zs1, zs2, zs3, zs4, zs5, ev, zs6, dOk, cv, zu1, zu2, zu3, eqB, Value.oneCell', zs7, zs8, zs9, zt1, zt2, isC, TK.agg, rv, rv1, ldV, zt3, zt4, zn1, zn2, zn3, zn4, zn5, zn6, zn7, reduceIte, reduceCtorEq, eq_self])))
  (refine x_split rfl rfl rfl (fun hc => absurd hc (by first | decide +kernel | simp)) (fun _ => ?_); simp only [so, sq, zy, zz, tyE, zs1, zs2, zs3, zs4, zs5, ev, zs6, dOk, cv, zu1, zu2, zu3, eqB, Value.oneCell', zs7, zs8, zs9, zt1, zt2, isC, TK.agg, rv, rv1, ldV, zt3, zt4, zn1, zn2, zn3, zn4, zn5, zn6, zn7, reduceIte, reduceCtorEq, eq_self]; (repeat (first | refine x_seq rfl ?_ | refine go_ops ?_ | refine go_blk ?_ | refine x_skip rfl ?_ | refine x_blk rfl rfl ?_ | refine x_exit rfl rfl rfl ?_ | refine x_ift rfl rfl rfl ?_ | refine x_iff rfl rfl rfl ?_ | refine x_label rfl ?_ | ((first | refine x_reg rfl rfl ?_ | (refine go_newx hty hnt hmh rfl rfl ?_; intro _)); refine runo0 400 hty hnt hmh ?_; simp only [so, sq, zy, zz, tyE, zs1, zs2, zs3, zs4, zs5, ev, zs6, dOk, cv, zu1, zu2, zu3, eqB, Value.oneCell', zs7, zs8, zs9, zt1, zt2, isC, TK.agg, rv, rv1, ldV, zt3, zt4, zn1, zn2, zn3, zn4, zn5, zn6, zn7, reduceIte, reduceCtorEq, eq_self]))))
  rename_i b8
  refine go_keep [0, 1, 2, 8, 95] [0, 3, 5, 90, 91] ?_
  simp only [so, sq, zy, zz, tyE, zs1, zs2, zs3, zs4, zs5, ev, zs6, dOk, cv, zu1, zu2, zu3, eqB, Value.oneCell', zs7, zs8, zs9, zt1, zt2, isC, TK.agg, rv, rv1, ldV, zt3, zt4, zn1, zn2, zn3, zn4, zn5, zn6, zn7, reduceIte, reduceCtorEq, eq_self]
  refine x_range 90 rfl rfl (ps := #[96, 97]) rfl hro hmh rfl rfl hfc (by rw [hnt]; decide) hit (encII_mono _) (fun _ _ _ h => by obtain ⟨_, _, rfl⟩ := h; rfl)
    (fun i own => own = [(0, b0, .c 4 [.v (.bool false)]), (3, b1, .c 46 [.v (.int .i64 0), .v (.slice (some ⟨bA, 0, none⟩) 2 2)]), (5, b2, .c 46 [.v (.int .i64 1), .v (.slice (some ⟨bB, 0, none⟩) 1 1)]), (90, 0, dzO []), (91, b8, .c 3 [.v (.int .i64 i)])]) (fun _ _ => False)
    (fun i own h => by subst h; exact ⟨keys_lt rfl, (by repeat (first | exact plain_nil | refine plain_cons (fun _ h => h) ?_)), rfl⟩) (fun _ _ h => h.elim) rfl ?_ ?_ (fun _ _ _ _ h => h.elim)
  · rintro C' C0 i own vs G13 lp D r hiN rfl (hle13 : Le G12 G13) ⟨x, hLi, rfl⟩ hR
    have hnt2 := hR.nt.trans hnt; have hty2 := hR.ty.trans hty; have hP2 := hR.P.trans hP; clear hQ hQp hnt hty hP hmh hmb hro; have hnt := hnt2; have hty := hty2; have hP := hP2; have hmh := hR.mh; have hQp := hR.qp; simp only [putsS, List.toList_toArray]; simp only [so, sq, zy, zz, tyE, zs1, zs2, zs3, zs4, zs5, ev, zs6, dOk, cv, zu1, zu2, zu3, eqB, Value.oneCell', zs7, zs8, zs9, zt1, zt2, isC, TK.agg, rv, rv1, ldV, zt3, zt4, zn1, zn2, zn3, zn4, zn5, zn6, zn7, reduceIte, reduceCtorEq, eq_self]
    (try (refine runo0 400 hty hnt hmh ?_; simp only [so, sq, zy, zz, tyE, zs1, zs2, zs3, zs4, zs5, ev, zs6, dOk, cv, zu1, zu2, zu3, eqB, Value.oneCell', zs7, zs8, zs9, zt1, zt2, isC, TK.agg, rv, rv1, ldV, zt3, zt4, zn1, zn2, zn3, zn4, zn5, zn6, zn7, reduceIte, reduceCtorEq, eq_self])); (repeat (first | refine x_seq rfl ?_ | refine go_ops ?_ | refine go_blk ?_ | refine x_skip rfl ?_ | refine x_blk rfl rfl ?_ | refine x_exit rfl rfl rfl ?_ | refine x_ift rfl rfl rfl ?_ | refine x_iff rfl rfl rfl ?_ | refine x_label rfl ?_ | ((first | refine x_reg rfl rfl ?_ | (refine go_newx hty hnt hmh rfl rfl ?_; intro _)); refine runo0 400 hty hnt hmh ?_; simp only [so, sq, zy, zz, tyE, zs1, zs2, zs3, zs4, zs5, ev, zs6, dOk, cv, zu1, zu2, zu3, eqB, Value.oneCell', zs7, zs8, zs9, zt1, zt2, isC, TK.agg, rv, rv1, ldV, zt3, zt4, zn1, zn2, zn3, zn4, zn5, zn6, zn7, reduceIte, reduceCtorEq, eq_self])))
    refine go_br rfl hR.ready ?_
    simp only [so, sq, zy, zz, tyE, zs1, zs2, zs3, zs4, zs5, ev, zs6, dOk, cv, zu1, zu2, zu3, eqB, Value.oneCell', zs7, zs8, zs9, zt1, zt2, isC, TK.agg, rv, rv1, ldV, zt3, zt4, zn1, zn2, zn3, zn4, zn5, zn6, zn7, reduceIte, reduceCtorEq, eq_self]
    rcases (show i = 0 ∨ i = 1 by simp at hiN; omega) with rfl | rfl
    · simp at hLi
      subst hLi
      (try (refine runo0 400 hty hnt hmh ?_; simp only [so, sq, zy, zz, tyE, zs1, zs2, zs3, zs4, zs5, ev, zs6, dOk, cv, zu1, zu2, zu3, eqB, Value.oneCell', zs7, zs8, zs9, zt1, zt2, isC, TK.agg, rv, rv1, ldV, zt3, zt4, zn1, zn2, zn3, zn4, zn5, zn6, zn7, reduceIte, reduceCtorEq, eq_self])); (repeat (first | refine x_seq rfl ?_ | refine go_ops ?_ | refine go_blk ?_ | refine x_skip rfl ?_ | refine x_blk rfl rfl ?_ | refine x_exit rfl rfl rfl ?_ | refine x_ift rfl rfl rfl ?_ | refine x_iff rfl rfl rfl ?_ | refine x_label rfl ?_ | ((first | refine x_reg rfl rfl ?_ | (refine go_newx hty hnt hmh rfl rfl ?_; intro _)); refine runo0 400 hty hnt hmh ?_; simp only [so, sq, zy, zz, tyE, zs1, zs2, zs3, zs4, zs5, ev, zs6, dOk, cv, zu1, zu2, zu3, eqB, Value.oneCell', zs7, zs8, zs9, zt1, zt2, isC, TK.agg, rv, rv1, ldV, zt3, zt4, zn1, zn2, zn3, zn4, zn5, zn6, zn7, reduceIte, reduceCtorEq, eq_self])))
      (refine go_gsplit rfl rfl (fun hc => absurd hc (by first | decide +kernel | simp)) (fun _ => ?_); simp only [so, sq, zy, zz, tyE, zs1, zs2, zs3, zs4, zs5, ev, zs6, dOk, cv, zu1, zu2, zu3, eqB, Value.oneCell', zs7, zs8, zs9, zt1, zt2, isC, TK.agg, rv, rv1, ldV, zt3, zt4, zn1, zn2, zn3, zn4, zn5, zn6, zn7, reduceIte, reduceCtorEq, eq_self]; ((try (refine runo0 400 hty hnt hmh ?_; simp only [so, sq, zy, zz, tyE, zs1, zs2, zs3, zs4, zs5, ev, zs6, dOk, cv, zu1, zu2, zu3, eqB, Value.oneCell', zs7, zs8, zs9, zt1, zt2, isC, TK.agg, rv, rv1, ldV, zt3, zt4, zn1, zn2, zn3, zn4, zn5, zn6, zn7, reduceIte, reduceCtorEq, eq_self])); (repeat (first | refine x_seq rfl ?_ | refine go_ops ?_ | refine go_blk ?_ | refine x_skip rfl ?_ | refine x_blk rfl rfl ?_ | refine x_exit rfl rfl rfl ?_ | refine x_ift rfl rfl rfl ?_ | refine x_iff rfl rfl rfl ?_ | refine x_label rfl ?_ | ((first | refine x_reg rfl rfl ?_ | (refine go_newx hty hnt hmh rfl rfl ?_; intro _)); refine runo0 400 hty hnt hmh ?_; simp only [so, sq, zy, zz, tyE, zs1, zs2, zs3, zs4, zs5, ev, zs6, dOk, cv, zu1, zu2, zu3, eqB, Value.oneCell', zs7, zs8, zs9, zt1, zt2, isC, TK.agg, rv, rv1, ldV, zt3, zt4, zn1, zn2, zn3, zn4, zn5, zn6, zn7, reduceIte, reduceCtorEq, eq_self])))))
      (refine x_split rfl rfl rfl (fun hc => absurd hc (by first | decide +kernel | simp)) (fun _ => ?_); simp only [so, sq, zy, zz, tyE, zs1, zs2, zs3, zs4, zs5, ev, zs6, dOk, cv, zu1, zu2, zu3, eqB, Value.oneCell', zs7, zs8, zs9, zt1, zt2, isC, TK.agg, rv, rv1, ldV, zt3, zt4, zn1, zn2, zn3, zn4, zn5, zn6, zn7, reduceIte, reduceCtorEq, eq_self]; (repeat (first | refine x_seq rfl ?_ | refine go_ops ?_ | refine go_blk ?_ | refine x_skip rfl ?_ | refine x_blk rfl rfl ?_ | refine x_exit rfl rfl rfl ?_ | refine x_ift rfl rfl rfl ?_ | refine x_iff rfl rfl rfl ?_ | refine x_label rfl ?_ | ((first | refine x_reg rfl rfl ?_ | (refine go_newx hty hnt hmh rfl rfl ?_; intro _)); refine runo0 400 hty hnt hmh ?_; simp only [so, sq, zy, zz, tyE, zs1, zs2, zs3, zs4, zs5, ev, zs6, dOk, cv, zu1, zu2, zu3, eqB, Value.oneCell', zs7, zs8, zs9, zt1, zt2, isC, TK.agg, rv, rv1, ldV, zt3, zt4, zn1, zn2, zn3, zn4, zn5, zn6, zn7, reduceIte, reduceCtorEq, eq_self]))))
      rw [wr (n := _ + 1) (by omega) (by omega)]
      exact go_rend hR rfl rfl (by simp only [rmk]; rfl)
    · simp at hLi
      subst hLi
      (try (refine runo0 400 hty hnt hmh ?_; simp only [so, sq, zy, zz, tyE, zs1, zs2, zs3, zs4, zs5, ev, zs6, dOk, cv, zu1, zu2, zu3, eqB, Value.oneCell', zs7, zs8, zs9, zt1, zt2, isC, TK.agg, rv, rv1, ldV, zt3, zt4, zn1, zn2, zn3, zn4, zn5, zn6, zn7, reduceIte, reduceCtorEq, eq_self])); (repeat (first | refine x_seq rfl ?_ | refine go_ops ?_ | refine go_blk ?_ | refine x_skip rfl ?_ | refine x_blk rfl rfl ?_ | refine x_exit rfl rfl rfl ?_ | refine x_ift rfl rfl rfl ?_ | refine x_iff rfl rfl rfl ?_ | refine x_label rfl ?_ | ((first | refine x_reg rfl rfl ?_ | (refine go_newx hty hnt hmh rfl rfl ?_; intro _)); refine runo0 400 hty hnt hmh ?_; simp only [so, sq, zy, zz, tyE, zs1, zs2, zs3, zs4, zs5, ev, zs6, dOk, cv, zu1, zu2, zu3, eqB, Value.oneCell', zs7, zs8, zs9, zt1, zt2, isC, TK.agg, rv, rv1, ldV, zt3, zt4, zn1, zn2, zn3, zn4, zn5, zn6, zn7, reduceIte, reduceCtorEq, eq_self])))
      (refine go_gsplit rfl rfl (fun hc => absurd hc (by first | decide +kernel | simp)) (fun _ => ?_); simp only [so, sq, zy, zz, tyE, zs1, zs2, zs3, zs4, zs5, ev, zs6, dOk, cv, zu1, zu2, zu3, eqB, Value.oneCell', zs7, zs8, zs9, zt1, zt2, isC, TK.agg, rv, rv1, ldV, zt3, zt4, zn1, zn2, zn3, zn4, zn5, zn6, zn7, reduceIte, reduceCtorEq, eq_self]; ((try (refine runo0 400 hty hnt hmh ?_; simp only [so, sq, zy, zz, tyE, zs1, zs2, zs3, zs4, zs5, ev, zs6, dOk, cv, zu1, zu2, zu3, eqB, Value.oneCell', zs7, zs8, zs9, zt1, zt2, isC, TK.agg, rv, rv1, ldV, zt3, zt4, zn1, zn2, zn3, zn4, zn5, zn6, zn7, reduceIte, reduceCtorEq, eq_self])); (repeat (first | refine x_seq rfl ?_ | refine go_ops ?_ | refine go_blk ?_ | refine x_skip rfl ?_ | refine x_blk rfl rfl ?_ | refine x_exit rfl rfl rfl ?_ | refine x_ift rfl rfl rfl ?_ | refine x_iff rfl rfl rfl ?_ | refine x_label rfl ?_ | ((first | refine x_reg rfl rfl ?_ | (refine go_newx hty hnt hmh rfl rfl ?_; intro _)); refine runo0 400 hty hnt hmh ?_; simp only [so, sq, zy, zz, tyE, zs1, zs2, zs3, zs4, zs5, ev, zs6, dOk, cv, zu1, zu2, zu3, eqB, Value.oneCell', zs7, zs8, zs9, zt1, zt2, isC, TK.agg, rv, rv1, ldV, zt3, zt4, zn1, zn2, zn3, zn4, zn5, zn6, zn7, reduceIte, reduceCtorEq, eq_self])))))
      (refine x_split rfl rfl rfl (fun hc => absurd hc (by first | decide +kernel | simp)) (fun _ => ?_); simp only [so, sq, zy, zz, tyE, zs1, zs2, zs3, zs4, zs5, ev, zs6, dOk, cv, zu1, zu2, zu3, eqB, Value.oneCell', zs7, zs8, zs9, zt1, zt2, isC, TK.agg, rv, rv1, ldV, zt3, zt4, zn1, zn2, zn3, zn4, zn5, zn6, zn7, reduceIte, reduceCtorEq, eq_self]; (repeat (first | refine x_seq rfl ?_ | refine go_ops ?_ | refine go_blk ?_ | refine x_skip rfl ?_ | refine x_blk rfl rfl ?_ | refine x_exit rfl rfl rfl ?_ | refine x_ift rfl rfl rfl ?_ | refine x_iff rfl rfl rfl ?_ | refine x_label rfl ?_ | ((first | refine x_reg rfl rfl ?_ | (refine go_newx hty hnt hmh rfl rfl ?_; intro _)); refine runo0 400 hty hnt hmh ?_; simp only [so, sq, zy, zz, tyE, zs1, zs2, zs3, zs4, zs5, ev, zs6, dOk, cv, zu1, zu2, zu3, eqB, Value.oneCell', zs7, zs8, zs9, zt1, zt2, isC, TK.agg, rv, rv1, ldV, zt3, zt4, zn1, zn2, zn3, zn4, zn5, zn6, zn7, reduceIte, reduceCtorEq, eq_self]))))
      rw [wr (n := _ + 1) (by omega) (by omega)]
      exact go_rend hR rfl rfl (by simp only [rmk]; rfl)
  · rintro D own G13 rfl (hle13 : Le G12 G13)
    replace hSA := Rp.S_mono hle13 hSA
    replace hSB := Rp.S_mono hle13 hSB
    replace hSC := Rp.S_mono hle13 hSC
    simp only [so, sq, zy, zz, tyE, zs1, zs2, zs3, zs4, zs5, ev, zs6, dOk, cv, zu1, zu2, zu3, eqB, Value.oneCell', zs7, zs8, zs9, zt1, zt2, isC, TK.agg, rv, rv1, ldV, zt3, zt4, zn1, zn2, zn3, zn4, zn5, zn6, zn7, reduceIte, reduceCtorEq, eq_self]
    (try (refine runo0 400 hty hnt hmh ?_; simp only [so, sq, zy, zz, tyE, zs1, zs2, zs3, zs4, zs5, ev, zs6, dOk, cv, zu1, zu2, zu3, eqB, Value.oneCell', zs7, zs8, zs9, zt1, zt2, isC, TK.agg, rv, rv1, ldV, zt3, zt4, zn1, zn2, zn3, zn4, zn5, zn6, zn7, reduceIte, reduceCtorEq, eq_self])); (repeat (first | refine x_seq rfl ?_ | refine go_ops ?_ | refine go_blk ?_ | refine x_skip rfl ?_ | refine x_blk rfl rfl ?_ | refine x_exit rfl rfl rfl ?_ | refine x_ift rfl rfl rfl ?_ | refine x_iff rfl rfl rfl ?_ | refine x_label rfl ?_ | ((first | refine x_reg rfl rfl ?_ | (refine go_newx hty hnt hmh rfl rfl ?_; intro _)); refine runo0 400 hty hnt hmh ?_; simp only [so, sq, zy, zz, tyE, zs1, zs2, zs3, zs4, zs5, ev, zs6, dOk, cv, zu1, zu2, zu3, eqB, Value.oneCell', zs7, zs8, zs9, zt1, zt2, isC, TK.agg, rv, rv1, ldV, zt3, zt4, zn1, zn2, zn3, zn4, zn5, zn6, zn7, reduceIte, reduceCtorEq, eq_self])))
    refine go_see 91 [.v (.int .i64 2)] rfl rfl ?_
    refine go_keep [0, 1, 2, 8, 110] [0, 3, 5, 90, 91, 92] ?_
    simp only [so, sq, zy, zz, tyE, zs1, zs2, zs3, zs4, zs5, ev, zs6, dOk, cv, zu1, zu2, zu3, eqB, Value.oneCell', zs7, zs8, zs9, zt1, zt2, isC, TK.agg, rv, rv1, ldV, zt3, zt4, zn1, zn2, zn3, zn4, zn5, zn6, zn7, reduceIte, reduceCtorEq, eq_self]
    rename_i bq
    refine go_pub 92 rfl (by omega) ?_
    rintro G14 (hle14 : Le G13 G14) hGq
    refine go_slot 110 (.v (.slice (some ⟨bq, 0, none⟩) 1 1)) rfl (by simp [SV.den]) ?_
    simp only [so, sq, zy, zz, tyE, zs1, zs2, zs3, zs4, zs5, ev, zs6, dOk, cv, zu1, zu2, zu3, eqB, Value.oneCell', zs7, zs8, zs9, zt1, zt2, isC, TK.agg, rv, rv1, ldV, zt3, zt4, zn1, zn2, zn3, zn4, zn5, zn6, zn7, reduceIte, reduceCtorEq, eq_self]
    replace hSA := Rp.S_mono hle14 hSA
    replace hSB := Rp.S_mono hle14 hSB
    replace hSC := Rp.S_mono hle14 hSC
    have hPq : rF.S G14 [fA] (.slice (some ⟨bq, 0, none⟩) 1 1) := rF_S (at_cells hGq) (rF_cons hi0 hSA rfl) rfl (by omega)
    refine go_call (by rw [hnt]; rfl) (by rw [hP]; kernel_rfl) rfl (hP ▸ shift_ok [fA] _ 2 G14 hPq (by simp [isI64]) (by simp)) ?_
    rintro v G15 (hle15 : Le G14 G15) ⟨sl, rfl, hsl⟩
    have hsh : shR [fA] 2 = ([⟨0, [⟨13, 3, [1]⟩, ⟨1, 5, []⟩]⟩], 0) := by kernel_rfl
    rw [hsh] at hsl ⊢
    have hsl0 := hsl
    obtain ⟨ads, caps, rfl⟩ := Rp.S_slice hsl
    replace hSA := Rp.S_mono hle15 hSA
    replace hSB := Rp.S_mono hle15 hSB
    replace hSC := Rp.S_mono hle15 hSC
    clear hPq
    (try (refine runo0 400 hty hnt hmh ?_; simp only [so, sq, zy, zz, tyE, zs1, zs2, zs3, zs4, zs5, ev, zs6, dOk, cv, zu1, zu2, zu3, eqB, Value.oneCell', zs7, zs8, zs9, zt1, zt2, isC, TK.agg, rv, rv1, ldV, zt3, zt4, zn1, zn2, zn3, zn4, zn5, zn6, zn7, reduceIte, reduceCtorEq, eq_self])); (repeat (first | refine x_seq rfl ?_ | refine go_ops ?_ | refine go_blk ?_ | refine x_skip rfl ?_ | refine x_blk rfl rfl ?_ | refine x_exit rfl rfl rfl ?_ | refine x_ift rfl rfl rfl ?_ | refine x_iff rfl rfl rfl ?_ | refine x_label rfl ?_ | ((first | refine x_reg rfl rfl ?_ | (refine go_newx hty hnt hmh rfl rfl ?_; intro _)); refine runo0 400 hty hnt hmh ?_; simp only [so, sq, zy, zz, tyE, zs1, zs2, zs3, zs4, zs5, ev, zs6, dOk, cv, zu1, zu2, zu3, eqB, Value.oneCell', zs7, zs8, zs9, zt1, zt2, isC, TK.agg, rv, rv1, ldV, zt3, zt4, zn1, zn2, zn3, zn4, zn5, zn6, zn7, reduceIte, reduceCtorEq, eq_self])))
    refine go_keep [0, 1, 2, 8, 11, 12, 116] [0, 3, 5, 90, 91, 92] ?_
    simp only [so, sq, zy, zz, tyE, zs1, zs2, zs3, zs4, zs5, ev, zs6, dOk, cv, zu1, zu2, zu3, eqB, Value.oneCell', zs7, zs8, zs9, zt1, zt2, isC, TK.agg, rv, rv1, ldV, zt3, zt4, zn1, zn2, zn3, zn4, zn5, zn6, zn7, reduceIte, reduceCtorEq, eq_self]
    rename_i bq
    refine go_pub 92 rfl (by omega) ?_
    rintro G16 (hle16 : Le G15 G16) hGq
    refine go_slot 116 (.v (.slice (some ⟨bq, 0, none⟩) 1 1)) rfl (by simp [SV.den]) ?_
    simp only [so, sq, zy, zz, tyE, zs1, zs2, zs3, zs4, zs5, ev, zs6, dOk, cv, zu1, zu2, zu3, eqB, Value.oneCell', zs7, zs8, zs9, zt1, zt2, isC, TK.agg, rv, rv1, ldV, zt3, zt4, zn1, zn2, zn3, zn4, zn5, zn6, zn7, reduceIte, reduceCtorEq, eq_self]
    replace hSA := Rp.S_mono hle16 hSA
    replace hSB := Rp.S_mono hle16 hSB
    replace hSC := Rp.S_mono hle16 hSC
    have hPq : rF.S G16 [fA] (.slice (some ⟨bq, 0, none⟩) 1 1) := rF_S (at_cells hGq) (rF_cons hi0 hSA rfl) rfl (by omega)
    refine go_call (by rw [hnt]; rfl) (by rw [hP]; kernel_rfl) rfl (hP ▸ shift_ok [fA] _ 63 G16 hPq (by simp [isI64]) (by simp)) ?_
    rintro v G17 (hle17 : Le G16 G17) ⟨sl, rfl, hsl⟩
    have hsh : shR [fA] 63 = ([], 3) := by kernel_rfl
    rw [hsh] at hsl ⊢
    obtain ⟨ad3, cap3, rfl⟩ := Rp.S_slice hsl
    replace hSA := Rp.S_mono hle17 hSA
    replace hSB := Rp.S_mono hle17 hSB
    replace hSC := Rp.S_mono hle17 hSC
    clear hPq
    (try (refine runo0 400 hty hnt hmh ?_; simp only [so, sq, zy, zz, tyE, zs1, zs2, zs3, zs4, zs5, ev, zs6, dOk, cv, zu1, zu2, zu3, eqB, Value.oneCell', zs7, zs8, zs9, zt1, zt2, isC, TK.agg, rv, rv1, ldV, zt3, zt4, zn1, zn2, zn3, zn4, zn5, zn6, zn7, reduceIte, reduceCtorEq, eq_self])); (repeat (first | refine x_seq rfl ?_ | refine go_ops ?_ | refine go_blk ?_ | refine x_skip rfl ?_ | refine x_blk rfl rfl ?_ | refine x_exit rfl rfl rfl ?_ | refine x_ift rfl rfl rfl ?_ | refine x_iff rfl rfl rfl ?_ | refine x_label rfl ?_ | ((first | refine x_reg rfl rfl ?_ | (refine go_newx hty hnt hmh rfl rfl ?_; intro _)); refine runo0 400 hty hnt hmh ?_; simp only [so, sq, zy, zz, tyE, zs1, zs2, zs3, zs4, zs5, ev, zs6, dOk, cv, zu1, zu2, zu3, eqB, Value.oneCell', zs7, zs8, zs9, zt1, zt2, isC, TK.agg, rv, rv1, ldV, zt3, zt4, zn1, zn2, zn3, zn4, zn5, zn6, zn7, reduceIte, reduceCtorEq, eq_self])))
    refine go_keep [0, 1, 2, 8, 11, 12, 14, 122] [0, 3, 5, 90, 91, 92] ?_
    simp only [so, sq, zy, zz, tyE, zs1, zs2, zs3, zs4, zs5, ev, zs6, dOk, cv, zu1, zu2, zu3, eqB, Value.oneCell', zs7, zs8, zs9, zt1, zt2, isC, TK.agg, rv, rv1, ldV, zt3, zt4, zn1, zn2, zn3, zn4, zn5, zn6, zn7, reduceIte, reduceCtorEq, eq_self]
    rename_i bq
    refine go_pub 92 rfl (by omega) ?_
    rintro G18 (hle18 : Le G17 G18) hGq
    refine go_slot 122 (.v (.slice (some ⟨bq, 0, none⟩) 1 1)) rfl (by simp [SV.den]) ?_
    simp only [so, sq, zy, zz, tyE, zs1, zs2, zs3, zs4, zs5, ev, zs6, dOk, cv, zu1, zu2, zu3, eqB, Value.oneCell', zs7, zs8, zs9, zt1, zt2, isC, TK.agg, rv, rv1, ldV, zt3, zt4, zn1, zn2, zn3, zn4, zn5, zn6, zn7, reduceIte, reduceCtorEq, eq_self]
    replace hSA := Rp.S_mono hle18 hSA
    replace hSB := Rp.S_mono hle18 hSB
    replace hSC := Rp.S_mono hle18 hSC
    have hPq : rF.S G18 [fA] (.slice (some ⟨bq, 0, none⟩) 1 1) := rF_S (at_cells hGq) (rF_cons hi0 hSA rfl) rfl (by omega)
    refine go_call (by rw [hnt]; rfl) (by rw [hP]; kernel_rfl) rfl (hP ▸ shift_ok [fA] _ (-1) G18 hPq (by simp [isI64]) (by simp)) ?_
    rintro v G19 (hle19 : Le G18 G19) ⟨sl, rfl, hsl⟩
    have hsh : shR [fA] (-1) = ([], 2) := by kernel_rfl
    rw [hsh] at hsl ⊢
    obtain ⟨ad5, cap5, rfl⟩ := Rp.S_slice hsl
    replace hSA := Rp.S_mono hle19 hSA
    replace hSB := Rp.S_mono hle19 hSB
    clear hPq
    (try (refine runo0 400 hty hnt hmh ?_; simp only [so, sq, zy, zz, tyE, zs1, zs2, zs3, zs4, zs5, ev, zs6, dOk, cv, zu1, zu2, zu3, eqB, Value.oneCell', zs7, zs8, zs9, zt1, zt2, isC, TK.agg, rv, rv1, ldV, zt3, zt4, zn1, zn2, zn3, zn4, zn5, zn6, zn7, reduceIte, reduceCtorEq, eq_self])); (repeat (first | refine x_seq rfl ?_ | refine go_ops ?_ | refine go_blk ?_ | refine x_skip rfl ?_ | refine x_blk rfl rfl ?_ | refine x_exit rfl rfl rfl ?_ | refine x_ift rfl rfl rfl ?_ | refine x_iff rfl rfl rfl ?_ | refine x_label rfl ?_ | ((first | refine x_reg rfl rfl ?_ | (refine go_newx hty hnt hmh rfl rfl ?_; intro _)); refine runo0 400 hty hnt hmh ?_; simp only [so, sq, zy, zz, tyE, zs1, zs2, zs3, zs4, zs5, ev, zs6, dOk, cv, zu1, zu2, zu3, eqB, Value.oneCell', zs7, zs8, zs9, zt1, zt2, isC, TK.agg, rv, rv1, ldV, zt3, zt4, zn1, zn2, zn3, zn4, zn5, zn6, zn7, reduceIte, reduceCtorEq, eq_self])))
    refine go_keep [0, 1, 2, 8, 11, 12, 14, 16] [0, 3, 5, 90, 91] ?_
    simp only [so, sq, zy, zz, tyE, zs1, zs2, zs3, zs4, zs5, ev, zs6, dOk, cv, zu1, zu2, zu3, eqB, Value.oneCell', zs7, zs8, zs9, zt1, zt2, isC, TK.agg, rv, rv1, ldV, zt3, zt4, zn1, zn2, zn3, zn4, zn5, zn6, zn7, reduceIte, reduceCtorEq, eq_self]
    refine w20 hP hnt hty hmh hQp hSA hSB hi0 hi1 ?_
    rintro s' ⟨G20, adj, capj, b17, hleG2, hj, rfl⟩
    replace hSA := Rp.S_mono hleG2 hSA
    replace hSB := Rp.S_mono hleG2 hSB
    have hsl20 := Rp.S_mono ((hle16.trans (hle17.trans (hle18.trans hle19))).trans hleG2) hsl0
    have hSC := hSB
    (try (refine runo0 400 hty hnt hmh ?_; simp only [so, sq, zy, zz, tyE, zs1, zs2, zs3, zs4, zs5, ev, zs6, dOk, cv, zu1, zu2, zu3, eqB, Value.oneCell', zs7, zs8, zs9, zt1, zt2, isC, TK.agg, rv, rv1, ldV, zt3, zt4, zn1, zn2, zn3, zn4, zn5, zn6, zn7, reduceIte, reduceCtorEq, eq_self])); (repeat (first | refine x_seq rfl ?_ | refine go_ops ?_ | refine go_blk ?_ | refine x_skip rfl ?_ | refine x_blk rfl rfl ?_ | refine x_exit rfl rfl rfl ?_ | refine x_ift rfl rfl rfl ?_ | refine x_iff rfl rfl rfl ?_ | refine x_label rfl ?_ | ((first | refine x_reg rfl rfl ?_ | (refine go_newx hty hnt hmh rfl rfl ?_; intro _)); refine runo0 400 hty hnt hmh ?_; simp only [so, sq, zy, zz, tyE, zs1, zs2, zs3, zs4, zs5, ev, zs6, dOk, cv, zu1, zu2, zu3, eqB, Value.oneCell', zs7, zs8, zs9, zt1, zt2, isC, TK.agg, rv, rv1, ldV, zt3, zt4, zn1, zn2, zn3, zn4, zn5, zn6, zn7, reduceIte, reduceCtorEq, eq_self])))
    (refine go_gsplit rfl rfl (fun _ => ?_) (fun hc => absurd hc (by first | decide +kernel | simp)); simp only [so, sq, zy, zz, tyE, zs1, zs2, zs3, zs4, zs5, ev, zs6, dOk, cv, zu1, zu2, zu3, eqB, Value.oneCell', zs7, zs8, zs9, zt1, zt2, isC, TK.agg, rv, rv1, ldV, zt3, zt4, zn1, zn2, zn3, zn4, zn5, zn6, zn7, reduceIte, reduceCtorEq, eq_self]; ((try (refine runo0 400 hty hnt hmh ?_; simp only [so, sq, zy, zz, tyE, zs1, zs2, zs3, zs4, zs5, ev, zs6, dOk, cv, zu1, zu2, zu3, eqB, Value.oneCell', zs7, zs8, zs9, zt1, zt2, isC, TK.agg, rv, rv1, ldV, zt3, zt4, zn1, zn2, zn3, zn4, zn5, zn6, zn7, reduceIte, reduceCtorEq, eq_self])); (repeat (first | refine x_seq rfl ?_ | refine go_ops ?_ | refine go_blk ?_ | refine x_skip rfl ?_ | refine x_blk rfl rfl ?_ | refine x_exit rfl rfl rfl ?_ | refine x_ift rfl rfl rfl ?_ | refine x_iff rfl rfl rfl ?_ | refine x_label rfl ?_ | ((first | refine x_reg rfl rfl ?_ | (refine go_newx hty hnt hmh rfl rfl ?_; intro _)); refine runo0 400 hty hnt hmh ?_; simp only [so, sq, zy, zz, tyE, zs1, zs2, zs3, zs4, zs5, ev, zs6, dOk, cv, zu1, zu2, zu3, eqB, Value.oneCell', zs7, zs8, zs9, zt1, zt2, isC, TK.agg, rv, rv1, ldV, zt3, zt4, zn1, zn2, zn3, zn4, zn5, zn6, zn7, reduceIte, reduceCtorEq, eq_self])))))
    rename_i bq
    refine go_pub 93 rfl (by omega) ?_
    rintro G21 (hle21 : Le G20 G21) hGq
    refine go_slot 142 (.v (.slice (some ⟨bq, 0, none⟩) 2 2)) rfl (by simp [SV.den]) ?_
    simp only [so, sq, zy, zz, tyE, zs1, zs2, zs3, zs4, zs5, ev, zs6, dOk, cv, zu1, zu2, zu3, eqB, Value.oneCell', zs7, zs8, zs9, zt1, zt2, isC, TK.agg, rv, rv1, ldV, zt3, zt4, zn1, zn2, zn3, zn4, zn5, zn6, zn7, reduceIte, reduceCtorEq, eq_self]
    replace hSA := Rp.S_mono hle21 hSA
    replace hSB := Rp.S_mono hle21 hSB
    replace hSC := Rp.S_mono hle21 hSC
    have hPq : rF.S G21 [fA, fB] (.slice (some ⟨bq, 0, none⟩) 2 2) := rF_S (at_cells hGq) (rF_cons hi0 hSA (rF_cons hi1 hSB rfl)) rfl (by omega)
    (refine go_callf (by rw [hnt]; rfl) (by rw [hP]; kernel_rfl) rfl (by rw [hP]; exact of_ok _ _ _ _) ?_; (try (refine runo0 400 hty hnt hmh ?_; simp only [so, sq, zy, zz, tyE, zs1, zs2, zs3, zs4, zs5, ev, zs6, dOk, cv, zu1, zu2, zu3, eqB, Value.oneCell', zs7, zs8, zs9, zt1, zt2, isC, TK.agg, rv, rv1, ldV, zt3, zt4, zn1, zn2, zn3, zn4, zn5, zn6, zn7, reduceIte, reduceCtorEq, eq_self])); (repeat (first | refine x_seq rfl ?_ | refine go_ops ?_ | refine go_blk ?_ | refine x_skip rfl ?_ | refine x_blk rfl rfl ?_ | refine x_exit rfl rfl rfl ?_ | refine x_ift rfl rfl rfl ?_ | refine x_iff rfl rfl rfl ?_ | refine x_label rfl ?_ | ((first | refine x_reg rfl rfl ?_ | (refine go_newx hty hnt hmh rfl rfl ?_; intro _)); refine runo0 400 hty hnt hmh ?_; simp only [so, sq, zy, zz, tyE, zs1, zs2, zs3, zs4, zs5, ev, zs6, dOk, cv, zu1, zu2, zu3, eqB, Value.oneCell', zs7, zs8, zs9, zt1, zt2, isC, TK.agg, rv, rv1, ldV, zt3, zt4, zn1, zn2, zn3, zn4, zn5, zn6, zn7, reduceIte, reduceCtorEq, eq_self]))))
    refine go_callf (by rw [hnt]; rfl) (by rw [hP]; kernel_rfl) rfl (hP ▸ (sizep_ok [fA, fB] _ G21 hPq (by decide)).val (v' := .int .i64 3) (by kernel_rfl)) ?_; (try (refine runo0 400 hty hnt hmh ?_; simp only [so, sq, zy, zz, tyE, zs1, zs2, zs3, zs4, zs5, ev, zs6, dOk, cv, zu1, zu2, zu3, eqB, Value.oneCell', zs7, zs8, zs9, zt1, zt2, isC, TK.agg, rv, rv1, ldV, zt3, zt4, zn1, zn2, zn3, zn4, zn5, zn6, zn7, reduceIte, reduceCtorEq, eq_self])); (repeat (first | refine x_seq rfl ?_ | refine go_ops ?_ | refine go_blk ?_ | refine x_skip rfl ?_ | refine x_blk rfl rfl ?_ | refine x_exit rfl rfl rfl ?_ | refine x_ift rfl rfl rfl ?_ | refine x_iff rfl rfl rfl ?_ | refine x_label rfl ?_ | ((first | refine x_reg rfl rfl ?_ | (refine go_newx hty hnt hmh rfl rfl ?_; intro _)); refine runo0 400 hty hnt hmh ?_; simp only [so, sq, zy, zz, tyE, zs1, zs2, zs3, zs4, zs5, ev, zs6, dOk, cv, zu1, zu2, zu3, eqB, Value.oneCell', zs7, zs8, zs9, zt1, zt2, isC, TK.agg, rv, rv1, ldV, zt3, zt4, zn1, zn2, zn3, zn4, zn5, zn6, zn7, reduceIte, reduceCtorEq, eq_self])))
    (refine go_gsplit rfl rfl (fun _ => ?_) (fun hc => absurd hc (by first | decide +kernel | simp)); simp only [so, sq, zy, zz, tyE, zs1, zs2, zs3, zs4, zs5, ev, zs6, dOk, cv, zu1, zu2, zu3, eqB, Value.oneCell', zs7, zs8, zs9, zt1, zt2, isC, TK.agg, rv, rv1, ldV, zt3, zt4, zn1, zn2, zn3, zn4, zn5, zn6, zn7, reduceIte, reduceCtorEq, eq_self]; ((try (refine runo0 400 hty hnt hmh ?_; simp only [so, sq, zy, zz, tyE, zs1, zs2, zs3, zs4, zs5, ev, zs6, dOk, cv, zu1, zu2, zu3, eqB, Value.oneCell', zs7, zs8, zs9, zt1, zt2, isC, TK.agg, rv, rv1, ldV, zt3, zt4, zn1, zn2, zn3, zn4, zn5, zn6, zn7, reduceIte, reduceCtorEq, eq_self])); (repeat (first | refine x_seq rfl ?_ | refine go_ops ?_ | refine go_blk ?_ | refine x_skip rfl ?_ | refine x_blk rfl rfl ?_ | refine x_exit rfl rfl rfl ?_ | refine x_ift rfl rfl rfl ?_ | refine x_iff rfl rfl rfl ?_ | refine x_label rfl ?_ | ((first | refine x_reg rfl rfl ?_ | (refine go_newx hty hnt hmh rfl rfl ?_; intro _)); refine runo0 400 hty hnt hmh ?_; simp only [so, sq, zy, zz, tyE, zs1, zs2, zs3, zs4, zs5, ev, zs6, dOk, cv, zu1, zu2, zu3, eqB, Value.oneCell', zs7, zs8, zs9, zt1, zt2, isC, TK.agg, rv, rv1, ldV, zt3, zt4, zn1, zn2, zn3, zn4, zn5, zn6, zn7, reduceIte, reduceCtorEq, eq_self])))))
    (refine go_callf (by rw [hnt]; rfl) (by rw [hP]; kernel_rfl) rfl (by rw [hP]; exact num_ok _ _) ?_; (try (refine runo0 400 hty hnt hmh ?_; simp only [so, sq, zy, zz, tyE, zs1, zs2, zs3, zs4, zs5, ev, zs6, dOk, cv, zu1, zu2, zu3, eqB, Value.oneCell', zs7, zs8, zs9, zt1, zt2, isC, TK.agg, rv, rv1, ldV, zt3, zt4, zn1, zn2, zn3, zn4, zn5, zn6, zn7, reduceIte, reduceCtorEq, eq_self])); (repeat (first | refine x_seq rfl ?_ | refine go_ops ?_ | refine go_blk ?_ | refine x_skip rfl ?_ | refine x_blk rfl rfl ?_ | refine x_exit rfl rfl rfl ?_ | refine x_ift rfl rfl rfl ?_ | refine x_iff rfl rfl rfl ?_ | refine x_label rfl ?_ | ((first | refine x_reg rfl rfl ?_ | (refine go_newx hty hnt hmh rfl rfl ?_; intro _)); refine runo0 400 hty hnt hmh ?_; simp only [so, sq, zy, zz, tyE, zs1, zs2, zs3, zs4, zs5, ev, zs6, dOk, cv, zu1, zu2, zu3, eqB, Value.oneCell', zs7, zs8, zs9, zt1, zt2, isC, TK.agg, rv, rv1, ldV, zt3, zt4, zn1, zn2, zn3, zn4, zn5, zn6, zn7, reduceIte, reduceCtorEq, eq_self]))))
    (refine go_gsplit rfl rfl (fun _ => ?_) (fun hc => absurd hc (by first | decide +kernel | simp)); simp only [so, sq, zy, zz, tyE, zs1, zs2, zs3, zs4, zs5, ev, zs6, dOk, cv, zu1, zu2, zu3, eqB, Value.oneCell', zs7, zs8, zs9, zt1, zt2, isC, TK.agg, rv, rv1, ldV, zt3, zt4, zn1, zn2, zn3, zn4, zn5, zn6, zn7, reduceIte, reduceCtorEq, eq_self]; ((try (refine runo0 400 hty hnt hmh ?_; simp only [so, sq, zy, zz, tyE, zs1, zs2, zs3, zs4, zs5, ev, zs6, dOk, cv, zu1, zu2, zu3, eqB, Value.oneCell', zs7, zs8, zs9, zt1, zt2, isC, TK.agg, rv, rv1, ldV, zt3, zt4, zn1, zn2, zn3, zn4, zn5, zn6, zn7, reduceIte, reduceCtorEq, eq_self])); (repeat (first | refine x_seq rfl ?_ | refine go_ops ?_ | refine go_blk ?_ | refine x_skip rfl ?_ | refine x_blk rfl rfl ?_ | refine x_exit rfl rfl rfl ?_ | refine x_ift rfl rfl rfl ?_ | refine x_iff rfl rfl rfl ?_ | refine x_label rfl ?_ | ((first | refine x_reg rfl rfl ?_ | (refine go_newx hty hnt hmh rfl rfl ?_; intro _)); refine runo0 400 hty hnt hmh ?_; simp only [so, sq, zy, zz, tyE, zs1, zs2, zs3, zs4, zs5, ev, zs6, dOk, cv, zu1, zu2, zu3, eqB, Value.oneCell', zs7, zs8, zs9, zt1, zt2, isC, TK.agg, rv, rv1, ldV, zt3, zt4, zn1, zn2, zn3, zn4, zn5, zn6, zn7, reduceIte, reduceCtorEq, eq_self])))))
    (refine go_gsplit rfl rfl (fun _ => ?_) (fun hc => absurd hc (by first | decide +kernel | simp)); simp only [so, sq, zy, zz, tyE, zs1, zs2, zs3, zs4, zs5, ev, zs6, dOk, cv, zu1, zu2, zu3, eqB, Value.oneCell', zs7, zs8, zs9, zt1, zt2, isC, TK.agg, rv, rv1, ldV, zt3, zt4, zn1, zn2, zn3, zn4, zn5, zn6, zn7, reduceIte, reduceCtorEq, eq_self]; ((try (refine runo0 400 hty hnt hmh ?_; simp only [so, sq, zy, zz, tyE, zs1, zs2, zs3, zs4, zs5, ev, zs6, dOk, cv, zu1, zu2, zu3, eqB, Value.oneCell', zs7, zs8, zs9, zt1, zt2, isC, TK.agg, rv, rv1, ldV, zt3, zt4, zn1, zn2, zn3, zn4, zn5, zn6, zn7, reduceIte, reduceCtorEq, eq_self])); (repeat (first | refine x_seq rfl ?_ | refine go_ops ?_ | refine go_blk ?_ | refine x_skip rfl ?_ | refine x_blk rfl rfl ?_ | refine x_exit rfl rfl rfl ?_ | refine x_ift rfl rfl rfl ?_ | refine x_iff rfl rfl rfl ?_ | refine x_label rfl ?_ | ((first | refine x_reg rfl rfl ?_ | (refine go_newx hty hnt hmh rfl rfl ?_; intro _)); refine runo0 400 hty hnt hmh ?_; simp only [so, sq, zy, zz, tyE, zs1, zs2, zs3, zs4, zs5, ev, zs6, dOk, cv, zu1, zu2, zu3, eqB, Value.oneCell', zs7, zs8, zs9, zt1, zt2, isC, TK.agg, rv, rv1, ldV, zt3, zt4, zn1, zn2, zn3, zn4, zn5, zn6, zn7, reduceIte, reduceCtorEq, eq_self])))))
    replace hsl20 := Rp.S_mono hle21 hsl20
    replace hj := Rp.S_mono hle21 hj
    refine go_keep [0, 11, 14, 16, 17, 18, 157, 158] [0, 90, 92] ?_
    simp only [so, sq, zy, zz, tyE, zs1, zs2, zs3, zs4, zs5, ev, zs6, dOk, cv, zu1, zu2, zu3, eqB, Value.oneCell', zs7, zs8, zs9, zt1, zt2, isC, TK.agg, rv, rv1, ldV, zt3, zt4, zn1, zn2, zn3, zn4, zn5, zn6, zn7, reduceIte, reduceCtorEq, eq_self]
    obtain ⟨bp1, op1, np1, rfl, hatp1, _, hnp1⟩ := rF_at hsl20 (i := 0) (by simp)
    obtain ⟨bn1, on1, cn1, cs1, hse1, hatn1, sl1, rfl, _, _, _⟩ := Rp.S_get hnp1 (i := 0) (by simp [fu, fA3])
    subst hse1
    have hq1 : At G21 bp1 (op1 + 0 * 2 + 1) [.slice (some ⟨bn1, on1, none⟩) 2 cn1] := by simpa [fu, fA3] using hatp1.sub 1 1 (by simp)
    have hr1 : At G21 bn1 (on1 + 0 * 3 + 1) [.int .i64 3] := by simpa [rN, fu, fA3] using hatn1.sub 1 1 (by simp [rN])
    refine go_q (by rw [hnt]; rfl) (quiet_index (by rw [hty]; rfl) (by rw [hty]; rfl) rfl rfl rfl (by omega) (by omega)) ?_
    (try (refine runo0 400 hty hnt hmh ?_; simp only [so, sq, zy, zz, tyE, zs1, zs2, zs3, zs4, zs5, ev, zs6, dOk, cv, zu1, zu2, zu3, eqB, Value.oneCell', zs7, zs8, zs9, zt1, zt2, isC, TK.agg, rv, rv1, ldV, zt3, zt4, zn1, zn2, zn3, zn4, zn5, zn6, zn7, reduceIte, reduceCtorEq, eq_self])); (repeat (first | refine x_seq rfl ?_ | refine go_ops ?_ | refine go_blk ?_ | refine x_skip rfl ?_ | refine x_blk rfl rfl ?_ | refine x_exit rfl rfl rfl ?_ | refine x_ift rfl rfl rfl ?_ | refine x_iff rfl rfl rfl ?_ | refine x_label rfl ?_ | ((first | refine x_reg rfl rfl ?_ | (refine go_newx hty hnt hmh rfl rfl ?_; intro _)); refine runo0 400 hty hnt hmh ?_; simp only [so, sq, zy, zz, tyE, zs1, zs2, zs3, zs4, zs5, ev, zs6, dOk, cv, zu1, zu2, zu3, eqB, Value.oneCell', zs7, zs8, zs9, zt1, zt2, isC, TK.agg, rv, rv1, ldV, zt3, zt4, zn1, zn2, zn3, zn4, zn5, zn6, zn7, reduceIte, reduceCtorEq, eq_self])))
    refine go_q (by rw [hnt]; rfl) (quiet_load (by rw [hty]; rfl) rfl (by simp [TK.agg]) hq1 rfl) ?_
    (try (refine runo0 400 hty hnt hmh ?_; simp only [so, sq, zy, zz, tyE, zs1, zs2, zs3, zs4, zs5, ev, zs6, dOk, cv, zu1, zu2, zu3, eqB, Value.oneCell', zs7, zs8, zs9, zt1, zt2, isC, TK.agg, rv, rv1, ldV, zt3, zt4, zn1, zn2, zn3, zn4, zn5, zn6, zn7, reduceIte, reduceCtorEq, eq_self])); (repeat (first | refine x_seq rfl ?_ | refine go_ops ?_ | refine go_blk ?_ | refine x_skip rfl ?_ | refine x_blk rfl rfl ?_ | refine x_exit rfl rfl rfl ?_ | refine x_ift rfl rfl rfl ?_ | refine x_iff rfl rfl rfl ?_ | refine x_label rfl ?_ | ((first | refine x_reg rfl rfl ?_ | (refine go_newx hty hnt hmh rfl rfl ?_; intro _)); refine runo0 400 hty hnt hmh ?_; simp only [so, sq, zy, zz, tyE, zs1, zs2, zs3, zs4, zs5, ev, zs6, dOk, cv, zu1, zu2, zu3, eqB, Value.oneCell', zs7, zs8, zs9, zt1, zt2, isC, TK.agg, rv, rv1, ldV, zt3, zt4, zn1, zn2, zn3, zn4, zn5, zn6, zn7, reduceIte, reduceCtorEq, eq_self])))
    refine go_q (by rw [hnt]; rfl) (quiet_index (by rw [hty]; rfl) (by rw [hty]; rfl) rfl rfl rfl (by omega) (by omega)) ?_
    (try (refine runo0 400 hty hnt hmh ?_; simp only [so, sq, zy, zz, tyE, zs1, zs2, zs3, zs4, zs5, ev, zs6, dOk, cv, zu1, zu2, zu3, eqB, Value.oneCell', zs7, zs8, zs9, zt1, zt2, isC, TK.agg, rv, rv1, ldV, zt3, zt4, zn1, zn2, zn3, zn4, zn5, zn6, zn7, reduceIte, reduceCtorEq, eq_self])); (repeat (first | refine x_seq rfl ?_ | refine go_ops ?_ | refine go_blk ?_ | refine x_skip rfl ?_ | refine x_blk rfl rfl ?_ | refine x_exit rfl rfl rfl ?_ | refine x_ift rfl rfl rfl ?_ | refine x_iff rfl rfl rfl ?_ | refine x_label rfl ?_ | ((first | refine x_reg rfl rfl ?_ | (refine go_newx hty hnt hmh rfl rfl ?_; intro _)); refine runo0 400 hty hnt hmh ?_; simp only [so, sq, zy, zz, tyE, zs1, zs2, zs3, zs4, zs5, ev, zs6, dOk, cv, zu1, zu2, zu3, eqB, Value.oneCell', zs7, zs8, zs9, zt1, zt2, isC, TK.agg, rv, rv1, ldV, zt3, zt4, zn1, zn2, zn3, zn4, zn5, zn6, zn7, reduceIte, reduceCtorEq, eq_self])))
    refine go_q (by rw [hnt]; rfl) (quiet_load (vs := [.int .i64 3]) (by rw [hty]; rfl) rfl (by simp [TK.agg]) hr1 rfl) ?_
    (try (refine runo0 400 hty hnt hmh ?_; simp only [so, sq, zy, zz, tyE, zs1, zs2, zs3, zs4, zs5, ev, zs6, dOk, cv, zu1, zu2, zu3, eqB, Value.oneCell', zs7, zs8, zs9, zt1, zt2, isC, TK.agg, rv, rv1, ldV, zt3, zt4, zn1, zn2, zn3, zn4, zn5, zn6, zn7, reduceIte, reduceCtorEq, eq_self])); (repeat (first | refine x_seq rfl ?_ | refine go_ops ?_ | refine go_blk ?_ | refine x_skip rfl ?_ | refine x_blk rfl rfl ?_ | refine x_exit rfl rfl rfl ?_ | refine x_ift rfl rfl rfl ?_ | refine x_iff rfl rfl rfl ?_ | refine x_label rfl ?_ | ((first | refine x_reg rfl rfl ?_ | (refine go_newx hty hnt hmh rfl rfl ?_; intro _)); refine runo0 400 hty hnt hmh ?_; simp only [so, sq, zy, zz, tyE, zs1, zs2, zs3, zs4, zs5, ev, zs6, dOk, cv, zu1, zu2, zu3, eqB, Value.oneCell', zs7, zs8, zs9, zt1, zt2, isC, TK.agg, rv, rv1, ldV, zt3, zt4, zn1, zn2, zn3, zn4, zn5, zn6, zn7, reduceIte, reduceCtorEq, eq_self])))
    (refine go_gsplit rfl rfl (fun _ => ?_) (fun hc => absurd hc (by first | decide +kernel | simp)); simp only [so, sq, zy, zz, tyE, zs1, zs2, zs3, zs4, zs5, ev, zs6, dOk, cv, zu1, zu2, zu3, eqB, Value.oneCell', zs7, zs8, zs9, zt1, zt2, isC, TK.agg, rv, rv1, ldV, zt3, zt4, zn1, zn2, zn3, zn4, zn5, zn6, zn7, reduceIte, reduceCtorEq, eq_self]; ((try (refine runo0 400 hty hnt hmh ?_; simp only [so, sq, zy, zz, tyE, zs1, zs2, zs3, zs4, zs5, ev, zs6, dOk, cv, zu1, zu2, zu3, eqB, Value.oneCell', zs7, zs8, zs9, zt1, zt2, isC, TK.agg, rv, rv1, ldV, zt3, zt4, zn1, zn2, zn3, zn4, zn5, zn6, zn7, reduceIte, reduceCtorEq, eq_self])); (repeat (first | refine x_seq rfl ?_ | refine go_ops ?_ | refine go_blk ?_ | refine x_skip rfl ?_ | refine x_blk rfl rfl ?_ | refine x_exit rfl rfl rfl ?_ | refine x_ift rfl rfl rfl ?_ | refine x_iff rfl rfl rfl ?_ | refine x_label rfl ?_ | ((first | refine x_reg rfl rfl ?_ | (refine go_newx hty hnt hmh rfl rfl ?_; intro _)); refine runo0 400 hty hnt hmh ?_; simp only [so, sq, zy, zz, tyE, zs1, zs2, zs3, zs4, zs5, ev, zs6, dOk, cv, zu1, zu2, zu3, eqB, Value.oneCell', zs7, zs8, zs9, zt1, zt2, isC, TK.agg, rv, rv1, ldV, zt3, zt4, zn1, zn2, zn3, zn4, zn5, zn6, zn7, reduceIte, reduceCtorEq, eq_self])))))
    (refine go_callf (by rw [hnt]; rfl) (by rw [hP]; kernel_rfl) rfl (by rw [hP]; exact num_ok _ _) ?_; (try (refine runo0 400 hty hnt hmh ?_; simp only [so, sq, zy, zz, tyE, zs1, zs2, zs3, zs4, zs5, ev, zs6, dOk, cv, zu1, zu2, zu3, eqB, Value.oneCell', zs7, zs8, zs9, zt1, zt2, isC, TK.agg, rv, rv1, ldV, zt3, zt4, zn1, zn2, zn3, zn4, zn5, zn6, zn7, reduceIte, reduceCtorEq, eq_self])); (repeat (first | refine x_seq rfl ?_ | refine go_ops ?_ | refine go_blk ?_ | refine x_skip rfl ?_ | refine x_blk rfl rfl ?_ | refine x_exit rfl rfl rfl ?_ | refine x_ift rfl rfl rfl ?_ | refine x_iff rfl rfl rfl ?_ | refine x_label rfl ?_ | ((first | refine x_reg rfl rfl ?_ | (refine go_newx hty hnt hmh rfl rfl ?_; intro _)); refine runo0 400 hty hnt hmh ?_; simp only [so, sq, zy, zz, tyE, zs1, zs2, zs3, zs4, zs5, ev, zs6, dOk, cv, zu1, zu2, zu3, eqB, Value.oneCell', zs7, zs8, zs9, zt1, zt2, isC, TK.agg, rv, rv1, ldV, zt3, zt4, zn1, zn2, zn3, zn4, zn5, zn6, zn7, reduceIte, reduceCtorEq, eq_self]))))
    (refine go_gsplit rfl rfl (fun _ => ?_) (fun hc => absurd hc (by first | decide +kernel | simp)); simp only [so, sq, zy, zz, tyE, zs1, zs2, zs3, zs4, zs5, ev, zs6, dOk, cv, zu1, zu2, zu3, eqB, Value.oneCell', zs7, zs8, zs9, zt1, zt2, isC, TK.agg, rv, rv1, ldV, zt3, zt4, zn1, zn2, zn3, zn4, zn5, zn6, zn7, reduceIte, reduceCtorEq, eq_self]; ((try (refine runo0 400 hty hnt hmh ?_; simp only [so, sq, zy, zz, tyE, zs1, zs2, zs3, zs4, zs5, ev, zs6, dOk, cv, zu1, zu2, zu3, eqB, Value.oneCell', zs7, zs8, zs9, zt1, zt2, isC, TK.agg, rv, rv1, ldV, zt3, zt4, zn1, zn2, zn3, zn4, zn5, zn6, zn7, reduceIte, reduceCtorEq, eq_self])); (repeat (first | refine x_seq rfl ?_ | refine go_ops ?_ | refine go_blk ?_ | refine x_skip rfl ?_ | refine x_blk rfl rfl ?_ | refine x_exit rfl rfl rfl ?_ | refine x_ift rfl rfl rfl ?_ | refine x_iff rfl rfl rfl ?_ | refine x_label rfl ?_ | ((first | refine x_reg rfl rfl ?_ | (refine go_newx hty hnt hmh rfl rfl ?_; intro _)); refine runo0 400 hty hnt hmh ?_; simp only [so, sq, zy, zz, tyE, zs1, zs2, zs3, zs4, zs5, ev, zs6, dOk, cv, zu1, zu2, zu3, eqB, Value.oneCell', zs7, zs8, zs9, zt1, zt2, isC, TK.agg, rv, rv1, ldV, zt3, zt4, zn1, zn2, zn3, zn4, zn5, zn6, zn7, reduceIte, reduceCtorEq, eq_self])))))
    (refine go_callf (by rw [hnt]; rfl) (by rw [hP]; kernel_rfl) rfl (by rw [hP]; exact num_ok _ _) ?_; (try (refine runo0 400 hty hnt hmh ?_; simp only [so, sq, zy, zz, tyE, zs1, zs2, zs3, zs4, zs5, ev, zs6, dOk, cv, zu1, zu2, zu3, eqB, Value.oneCell', zs7, zs8, zs9, zt1, zt2, isC, TK.agg, rv, rv1, ldV, zt3, zt4, zn1, zn2, zn3, zn4, zn5, zn6, zn7, reduceIte, reduceCtorEq, eq_self])); (repeat (first | refine x_seq rfl ?_ | refine go_ops ?_ | refine go_blk ?_ | refine x_skip rfl ?_ | refine x_blk rfl rfl ?_ | refine x_exit rfl rfl rfl ?_ | refine x_ift rfl rfl rfl ?_ | refine x_iff rfl rfl rfl ?_ | refine x_label rfl ?_ | ((first | refine x_reg rfl rfl ?_ | (refine go_newx hty hnt hmh rfl rfl ?_; intro _)); refine runo0 400 hty hnt hmh ?_; simp only [so, sq, zy, zz, tyE, zs1, zs2, zs3, zs4, zs5, ev, zs6, dOk, cv, zu1, zu2, zu3, eqB, Value.oneCell', zs7, zs8, zs9, zt1, zt2, isC, TK.agg, rv, rv1, ldV, zt3, zt4, zn1, zn2, zn3, zn4, zn5, zn6, zn7, reduceIte, reduceCtorEq, eq_self]))))
    (refine go_gsplit rfl rfl (fun _ => ?_) (fun hc => absurd hc (by first | decide +kernel | simp)); simp only [so, sq, zy, zz, tyE, zs1, zs2, zs3, zs4, zs5, ev, zs6, dOk, cv, zu1, zu2, zu3, eqB, Value.oneCell', zs7, zs8, zs9, zt1, zt2, isC, TK.agg, rv, rv1, ldV, zt3, zt4, zn1, zn2, zn3, zn4, zn5, zn6, zn7, reduceIte, reduceCtorEq, eq_self]; ((try (refine runo0 400 hty hnt hmh ?_; simp only [so, sq, zy, zz, tyE, zs1, zs2, zs3, zs4, zs5, ev, zs6, dOk, cv, zu1, zu2, zu3, eqB, Value.oneCell', zs7, zs8, zs9, zt1, zt2, isC, TK.agg, rv, rv1, ldV, zt3, zt4, zn1, zn2, zn3, zn4, zn5, zn6, zn7, reduceIte, reduceCtorEq, eq_self])); (repeat (first | refine x_seq rfl ?_ | refine go_ops ?_ | refine go_blk ?_ | refine x_skip rfl ?_ | refine x_blk rfl rfl ?_ | refine x_exit rfl rfl rfl ?_ | refine x_ift rfl rfl rfl ?_ | refine x_iff rfl rfl rfl ?_ | refine x_label rfl ?_ | ((first | refine x_reg rfl rfl ?_ | (refine go_newx hty hnt hmh rfl rfl ?_; intro _)); refine runo0 400 hty hnt hmh ?_; simp only [so, sq, zy, zz, tyE, zs1, zs2, zs3, zs4, zs5, ev, zs6, dOk, cv, zu1, zu2, zu3, eqB, Value.oneCell', zs7, zs8, zs9, zt1, zt2, isC, TK.agg, rv, rv1, ldV, zt3, zt4, zn1, zn2, zn3, zn4, zn5, zn6, zn7, reduceIte, reduceCtorEq, eq_self])))))
    (refine go_callf (by rw [hnt]; rfl) (by rw [hP]; kernel_rfl) rfl (by rw [hP]; exact num_ok _ _) ?_; (try (refine runo0 400 hty hnt hmh ?_; simp only [so, sq, zy, zz, tyE, zs1, zs2, zs3, zs4, zs5, ev, zs6, dOk, cv, zu1, zu2, zu3, eqB, Value.oneCell', zs7, zs8, zs9, zt1, zt2, isC, TK.agg, rv, rv1, ldV, zt3, zt4, zn1, zn2, zn3, zn4, zn5, zn6, zn7, reduceIte, reduceCtorEq, eq_self])); (repeat (first | refine x_seq rfl ?_ | refine go_ops ?_ | refine go_blk ?_ | refine x_skip rfl ?_ | refine x_blk rfl rfl ?_ | refine x_exit rfl rfl rfl ?_ | refine x_ift rfl rfl rfl ?_ | refine x_iff rfl rfl rfl ?_ | refine x_label rfl ?_ | ((first | refine x_reg rfl rfl ?_ | (refine go_newx hty hnt hmh rfl rfl ?_; intro _)); refine runo0 400 hty hnt hmh ?_; simp only [so, sq, zy, zz, tyE, zs1, zs2, zs3, zs4, zs5, ev, zs6, dOk, cv, zu1, zu2, zu3, eqB, Value.oneCell', zs7, zs8, zs9, zt1, zt2, isC, TK.agg, rv, rv1, ldV, zt3, zt4, zn1, zn2, zn3, zn4, zn5, zn6, zn7, reduceIte, reduceCtorEq, eq_self]))))
    (refine go_gsplit rfl rfl (fun _ => ?_) (fun hc => absurd hc (by first | decide +kernel | simp)); simp only [so, sq, zy, zz, tyE, zs1, zs2, zs3, zs4, zs5, ev, zs6, dOk, cv, zu1, zu2, zu3, eqB, Value.oneCell', zs7, zs8, zs9, zt1, zt2, isC, TK.agg, rv, rv1, ldV, zt3, zt4, zn1, zn2, zn3, zn4, zn5, zn6, zn7, reduceIte, reduceCtorEq, eq_self]; ((try (refine runo0 400 hty hnt hmh ?_; simp only [so, sq, zy, zz, tyE, zs1, zs2, zs3, zs4, zs5, ev, zs6, dOk, cv, zu1, zu2, zu3, eqB, Value.oneCell', zs7, zs8, zs9, zt1, zt2, isC, TK.agg, rv, rv1, ldV, zt3, zt4, zn1, zn2, zn3, zn4, zn5, zn6, zn7, reduceIte, reduceCtorEq, eq_self])); (repeat (first | refine x_seq rfl ?_ | refine go_ops ?_ | refine go_blk ?_ | refine x_skip rfl ?_ | refine x_blk rfl rfl ?_ | refine x_exit rfl rfl rfl ?_ | refine x_ift rfl rfl rfl ?_ | refine x_iff rfl rfl rfl ?_ | refine x_label rfl ?_ | ((first | refine x_reg rfl rfl ?_ | (refine go_newx hty hnt hmh rfl rfl ?_; intro _)); refine runo0 400 hty hnt hmh ?_; simp only [so, sq, zy, zz, tyE, zs1, zs2, zs3, zs4, zs5, ev, zs6, dOk, cv, zu1, zu2, zu3, eqB, Value.oneCell', zs7, zs8, zs9, zt1, zt2, isC, TK.agg, rv, rv1, ldV, zt3, zt4, zn1, zn2, zn3, zn4, zn5, zn6, zn7, reduceIte, reduceCtorEq, eq_self])))))
    (refine go_gsplit rfl rfl (fun _ => ?_) (fun hc => absurd hc (by first | decide +kernel | simp)); simp only [so, sq, zy, zz, tyE, zs1, zs2, zs3, zs4, zs5, ev, zs6, dOk, cv, zu1, zu2, zu3, eqB, Value.oneCell', zs7, zs8, zs9, zt1, zt2, isC, TK.agg, rv, rv1, ldV, zt3, zt4, zn1, zn2, zn3, zn4, zn5, zn6, zn7, reduceIte, reduceCtorEq, eq_self]; ((try (refine runo0 400 hty hnt hmh ?_; simp only [so, sq, zy, zz, tyE, zs1, zs2, zs3, zs4, zs5, ev, zs6, dOk, cv, zu1, zu2, zu3, eqB, Value.oneCell', zs7, zs8, zs9, zt1, zt2, isC, TK.agg, rv, rv1, ldV, zt3, zt4, zn1, zn2, zn3, zn4, zn5, zn6, zn7, reduceIte, reduceCtorEq, eq_self])); (repeat (first | refine x_seq rfl ?_ | refine go_ops ?_ | refine go_blk ?_ | refine x_skip rfl ?_ | refine x_blk rfl rfl ?_ | refine x_exit rfl rfl rfl ?_ | refine x_ift rfl rfl rfl ?_ | refine x_iff rfl rfl rfl ?_ | refine x_label rfl ?_ | ((first | refine x_reg rfl rfl ?_ | (refine go_newx hty hnt hmh rfl rfl ?_; intro _)); refine runo0 400 hty hnt hmh ?_; simp only [so, sq, zy, zz, tyE, zs1, zs2, zs3, zs4, zs5, ev, zs6, dOk, cv, zu1, zu2, zu3, eqB, Value.oneCell', zs7, zs8, zs9, zt1, zt2, isC, TK.agg, rv, rv1, ldV, zt3, zt4, zn1, zn2, zn3, zn4, zn5, zn6, zn7, reduceIte, reduceCtorEq, eq_self])))))
    obtain ⟨bp2, op2, np2, rfl, hatp2, _, hnp2⟩ := rF_at hj (i := 2) (by simp)
    obtain ⟨bn2, on2, cn2, cs2, hse2, hatn2, sl2, rfl, _, _, _⟩ := Rp.S_get hnp2 (i := 0) (by simp [fu, fA3])
    subst hse2
    have hq2 : At G21 bp2 (op2 + 2 * 2 + 1) [.slice (some ⟨bn2, on2, none⟩) 2 cn2] := by simpa [fu, fA3] using hatp2.sub 1 1 (by simp)
    have hr2 : At G21 bn2 (on2 + 0 * 3 + 1) [.int .i64 3] := by simpa [rN, fu, fA3] using hatn2.sub 1 1 (by simp [rN])
    (try (refine runo0 400 hty hnt hmh ?_; simp only [so, sq, zy, zz, tyE, zs1, zs2, zs3, zs4, zs5, ev, zs6, dOk, cv, zu1, zu2, zu3, eqB, Value.oneCell', zs7, zs8, zs9, zt1, zt2, isC, TK.agg, rv, rv1, ldV, zt3, zt4, zn1, zn2, zn3, zn4, zn5, zn6, zn7, reduceIte, reduceCtorEq, eq_self])); (repeat (first | refine x_seq rfl ?_ | refine go_ops ?_ | refine go_blk ?_ | refine x_skip rfl ?_ | refine x_blk rfl rfl ?_ | refine x_exit rfl rfl rfl ?_ | refine x_ift rfl rfl rfl ?_ | refine x_iff rfl rfl rfl ?_ | refine x_label rfl ?_ | ((first | refine x_reg rfl rfl ?_ | (refine go_newx hty hnt hmh rfl rfl ?_; intro _)); refine runo0 400 hty hnt hmh ?_; simp only [so, sq, zy, zz, tyE, zs1, zs2, zs3, zs4, zs5, ev, zs6, dOk, cv, zu1, zu2, zu3, eqB, Value.oneCell', zs7, zs8, zs9, zt1, zt2, isC, TK.agg, rv, rv1, ldV, zt3, zt4, zn1, zn2, zn3, zn4, zn5, zn6, zn7, reduceIte, reduceCtorEq, eq_self])))
    refine go_q (by rw [hnt]; rfl) (quiet_index (by rw [hty]; rfl) (by rw [hty]; rfl) rfl rfl rfl (by omega) (by omega)) ?_
    (try (refine runo0 400 hty hnt hmh ?_; simp only [so, sq, zy, zz, tyE, zs1, zs2, zs3, zs4, zs5, ev, zs6, dOk, cv, zu1, zu2, zu3, eqB, Value.oneCell', zs7, zs8, zs9, zt1, zt2, isC, TK.agg, rv, rv1, ldV, zt3, zt4, zn1, zn2, zn3, zn4, zn5, zn6, zn7, reduceIte, reduceCtorEq, eq_self])); (repeat (first | refine x_seq rfl ?_ | refine go_ops ?_ | refine go_blk ?_ | refine x_skip rfl ?_ | refine x_blk rfl rfl ?_ | refine x_exit rfl rfl rfl ?_ | refine x_ift rfl rfl rfl ?_ | refine x_iff rfl rfl rfl ?_ | refine x_label rfl ?_ | ((first | refine x_reg rfl rfl ?_ | (refine go_newx hty hnt hmh rfl rfl ?_; intro _)); refine runo0 400 hty hnt hmh ?_; simp only [so, sq, zy, zz, tyE, zs1, zs2, zs3, zs4, zs5, ev, zs6, dOk, cv, zu1, zu2, zu3, eqB, Value.oneCell', zs7, zs8, zs9, zt1, zt2, isC, TK.agg, rv, rv1, ldV, zt3, zt4, zn1, zn2, zn3, zn4, zn5, zn6, zn7, reduceIte, reduceCtorEq, eq_self])))
    refine go_q (by rw [hnt]; rfl) (quiet_load (by rw [hty]; rfl) rfl (by simp [TK.agg]) hq2 rfl) ?_
    (try (refine runo0 400 hty hnt hmh ?_; simp only [so, sq, zy, zz, tyE, zs1, zs2, zs3, zs4, zs5, ev, zs6, dOk, cv, zu1, zu2, zu3, eqB, Value.oneCell', zs7, zs8, zs9, zt1, zt2, isC, TK.agg, rv, rv1, ldV, zt3, zt4, zn1, zn2, zn3, zn4, zn5, zn6, zn7, reduceIte, reduceCtorEq, eq_self])); (repeat (first | refine x_seq rfl ?_ | refine go_ops ?_ | refine go_blk ?_ | refine x_skip rfl ?_ | refine x_blk rfl rfl ?_ | refine x_exit rfl rfl rfl ?_ | refine x_ift rfl rfl rfl ?_ | refine x_iff rfl rfl rfl ?_ | refine x_label rfl ?_ | ((first | refine x_reg rfl rfl ?_ | (refine go_newx hty hnt hmh rfl rfl ?_; intro _)); refine runo0 400 hty hnt hmh ?_; simp only [so, sq, zy, zz, tyE, zs1, zs2, zs3, zs4, zs5, ev, zs6, dOk, cv, zu1, zu2, zu3, eqB, Value.oneCell', zs7, zs8, zs9, zt1, zt2, isC, TK.agg, rv, rv1, ldV, zt3, zt4, zn1, zn2, zn3, zn4, zn5, zn6, zn7, reduceIte, reduceCtorEq, eq_self])))
    refine go_q (by rw [hnt]; rfl) (quiet_index (by rw [hty]; rfl) (by rw [hty]; rfl) rfl rfl rfl (by omega) (by omega)) ?_
    (try (refine runo0 400 hty hnt hmh ?_; simp only [so, sq, zy, zz, tyE, zs1, zs2, zs3, zs4, zs5, ev, zs6, dOk, cv, zu1, zu2, zu3, eqB, Value.oneCell', zs7, zs8, zs9, zt1, zt2, isC, TK.agg, rv, rv1, ldV, zt3, zt4, zn1, zn2, zn3, zn4, zn5, zn6, zn7, reduceIte, reduceCtorEq, eq_self])); (repeat (first | refine x_seq rfl ?_ | refine go_ops ?_ | refine go_blk ?_ | refine x_skip rfl ?_ | refine x_blk rfl rfl ?_ | refine x_exit rfl rfl rfl ?_ | refine x_ift rfl rfl rfl ?_ | refine x_iff rfl rfl rfl ?_ | refine x_label rfl ?_ | ((first | refine x_reg rfl rfl ?_ | (refine go_newx hty hnt hmh rfl rfl ?_; intro _)); refine runo0 400 hty hnt hmh ?_; simp only [so, sq, zy, zz, tyE, zs1, zs2, zs3, zs4, zs5, ev, zs6, dOk, cv, zu1, zu2, zu3, eqB, Value.oneCell', zs7, zs8, zs9, zt1, zt2, isC, TK.agg, rv, rv1, ldV, zt3, zt4, zn1, zn2, zn3, zn4, zn5, zn6, zn7, reduceIte, reduceCtorEq, eq_self])))
    refine go_q (by rw [hnt]; rfl) (quiet_load (vs := [.int .i64 3]) (by rw [hty]; rfl) rfl (by simp [TK.agg]) hr2 rfl) ?_
    (try (refine runo0 400 hty hnt hmh ?_; simp only [so, sq, zy, zz, tyE, zs1, zs2, zs3, zs4, zs5, ev, zs6, dOk, cv, zu1, zu2, zu3, eqB, Value.oneCell', zs7, zs8, zs9, zt1, zt2, isC, TK.agg, rv, rv1, ldV, zt3, zt4, zn1, zn2, zn3, zn4, zn5, zn6, zn7, reduceIte, reduceCtorEq, eq_self])); (repeat (first | refine x_seq rfl ?_ | refine go_ops ?_ | refine go_blk ?_ | refine x_skip rfl ?_ | refine x_blk rfl rfl ?_ | refine x_exit rfl rfl rfl ?_ | refine x_ift rfl rfl rfl ?_ | refine x_iff rfl rfl rfl ?_ | refine x_label rfl ?_ | ((first | refine x_reg rfl rfl ?_ | (refine go_newx hty hnt hmh rfl rfl ?_; intro _)); refine runo0 400 hty hnt hmh ?_; simp only [so, sq, zy, zz, tyE, zs1, zs2, zs3, zs4, zs5, ev, zs6, dOk, cv, zu1, zu2, zu3, eqB, Value.oneCell', zs7, zs8, zs9, zt1, zt2, isC, TK.agg, rv, rv1, ldV, zt3, zt4, zn1, zn2, zn3, zn4, zn5, zn6, zn7, reduceIte, reduceCtorEq, eq_self])))
    refine x_retM 90 rfl hQ hmb rfl rfl rfl (by rw [hty]; simp only [so, sq, zy, zz, tyE, zs1, zs2, zs3, zs4, zs5, ev, zs6, dOk, cv, zu1, zu2, zu3, eqB, Value.oneCell', zs7, zs8, zs9, zt1, zt2, isC, TK.agg, rv, rv1, ldV, zt3, zt4, zn1, zn2, zn3, zn4, zn5, zn6, zn7, reduceIte, reduceCtorEq, eq_self]; try rfl) ?_; simp only [SV.den, resV, dens]
end Go.Proofs.Ytmdkenpodcnnbaa
namespace Go.Proofs.Ytmdkenpodcnnbaa
open Go.Sx renaming SO' → zs1, SQ' → zs2, opQ → zs3, opStore → zs4, opAlloc → zs5, putS → zs6, ldOwn → zs7, binInt → zs8, binConst → zs9, binBool → zt1, binStr → zt2, resOne → zt3, resV → zt4
open Go.Sx.SV renaming cs → zu1, one → zu2, bool? → zu3
open Nat renaming reduceAdd → zn1, reduceMul → zn2, reduceSub → zn3, reduceLT → zn4, reduceLeDiff → zn5, reduceEqDiff → zn6, reduceBEq → zn7
set_option linter.unusedSimpArgs false
set_option linter.unusedVariables false
open Go.Sx
set_option maxHeartbeats 4000000
theorem programChecks_ok (p : Pr) (ps : Value) (G : Hp) (hps : rF.S G p ps) : Pure Try.prog 3 [.agg #[ps]] G (fun r _ => r = .bool true) := by
  have hps0 := hps
  obtain ⟨adp, capp, rfl⟩ := Rp.S_slice hps
  refine enterX ty tyok Try.func3 rfl Try.ntmps3 [.a [.v (.slice adp p.length capp)]] (by simp) ?_
  intro C hP hQ hnt hty hmb hmh hro; have hQp := qp_body hQ; simp only [so, sq, zy, zz, tyE, zs1, zs2, zs3, zs4, zs5, ev, zs6, dOk, cv, zu1, zu2, zu3, eqB, Value.oneCell', zs7, zs8, zs9, zt1, zt2, isC, TK.agg, rv, rv1, ldV, zt3, zt4, zn1, zn2, zn3, zn4, zn5, zn6, zn7, reduceIte, reduceCtorEq, eq_self]
  (try (refine runo0 400 hty hnt hmh ?_; simp only [so, sq, zy, zz, tyE, zs1, zs2, zs3, zs4, zs5, ev, zs6, dOk, cv, zu1, zu2, zu3, eqB, Value.oneCell', zs7, zs8, zs9, zt1, zt2, isC, TK.agg, rv, rv1, ldV, zt3, zt4, zn1, zn2, zn3, zn4, zn5, zn6, zn7, reduceIte, reduceCtorEq, eq_self])); (repeat (first | refine x_seq rfl ?_ | refine go_ops ?_ | refine go_blk ?_ | refine x_skip rfl ?_ | refine x_blk rfl rfl ?_ | refine x_exit rfl rfl rfl ?_ | refine x_ift rfl rfl rfl ?_ | refine x_iff rfl rfl rfl ?_ | refine x_label rfl ?_ | ((first | refine x_reg rfl rfl ?_ | (refine go_newx hty hnt hmh rfl rfl ?_; intro _)); refine runo0 400 hty hnt hmh ?_; simp only [so, sq, zy, zz, tyE, zs1, zs2, zs3, zs4, zs5, ev, zs6, dOk, cv, zu1, zu2, zu3, eqB, Value.oneCell', zs7, zs8, zs9, zt1, zt2, isC, TK.agg, rv, rv1, ldV, zt3, zt4, zn1, zn2, zn3, zn4, zn5, zn6, zn7, reduceIte, reduceCtorEq, eq_self])))
  refine go_callf (by rw [hnt]; rfl) (by rw [hP]; kernel_rfl) rfl (hP ▸ few_ok p _ G hps0) ?_; (try (refine runo0 400 hty hnt hmh ?_; simp only [so, sq, zy, zz, tyE, zs1, zs2, zs3, zs4, zs5, ev, zs6, dOk, cv, zu1, zu2, zu3, eqB, Value.oneCell', zs7, zs8, zs9, zt1, zt2, isC, TK.agg, rv, rv1, ldV, zt3, zt4, zn1, zn2, zn3, zn4, zn5, zn6, zn7, reduceIte, reduceCtorEq, eq_self])); (repeat (first | refine x_seq rfl ?_ | refine go_ops ?_ | refine go_blk ?_ | refine x_skip rfl ?_ | refine x_blk rfl rfl ?_ | refine x_exit rfl rfl rfl ?_ | refine x_ift rfl rfl rfl ?_ | refine x_iff rfl rfl rfl ?_ | refine x_label rfl ?_ | ((first | refine x_reg rfl rfl ?_ | (refine go_newx hty hnt hmh rfl rfl ?_; intro _)); refine runo0 400 hty hnt hmh ?_; simp only [so, sq, zy, zz, tyE, zs1, zs2, zs3, zs4, zs5, ev, zs6, dOk, cv, zu1, zu2, zu3, eqB, Value.oneCell', zs7, zs8, zs9, zt1, zt2, isC, TK.agg, rv, rv1, ldV, zt3, zt4, zn1, zn2, zn3, zn4, zn5, zn6, zn7, reduceIte, reduceCtorEq, eq_self])))
  refine x_split rfl rfl rfl (fun hf => ?_) (fun hf => ?_) <;> (simp only [so, sq, zy, zz, tyE, zs1, zs2, zs3, zs4, zs5, ev, zs6, dOk, cv, zu1, zu2, zu3, eqB, Value.oneCell', zs7, zs8, zs9, zt1, zt2, isC, TK.agg, rv, rv1, ldV, zt3, zt4, zn1, zn2, zn3, zn4, zn5, zn6, zn7, reduceIte, reduceCtorEq, eq_self]; (repeat (first | refine x_seq rfl ?_ | refine go_ops ?_ | refine go_blk ?_ | refine x_skip rfl ?_ | refine x_blk rfl rfl ?_ | refine x_exit rfl rfl rfl ?_ | refine x_ift rfl rfl rfl ?_ | refine x_iff rfl rfl rfl ?_ | refine x_label rfl ?_ | ((first | refine x_reg rfl rfl ?_ | (refine go_newx hty hnt hmh rfl rfl ?_; intro _)); refine runo0 400 hty hnt hmh ?_; simp only [so, sq, zy, zz, tyE, zs1, zs2, zs3, zs4, zs5, ev, zs6, dOk, cv, zu1, zu2, zu3, eqB, Value.oneCell', zs7, zs8, zs9, zt1, zt2, isC, TK.agg, rv, rv1, ldV, zt3, zt4, zn1, zn2, zn3, zn4, zn5, zn6, zn7, reduceIte, reduceCtorEq, eq_self]))))
  · refine go_callf (by rw [hnt]; rfl) (by rw [hP]; kernel_rfl) rfl (hP ▸ works_ok G) ?_; (try (refine runo0 400 hty hnt hmh ?_; simp only [so, sq, zy, zz, tyE, zs1, zs2, zs3, zs4, zs5, ev, zs6, dOk, cv, zu1, zu2, zu3, eqB, Value.oneCell', zs7, zs8, zs9, zt1, zt2, isC, TK.agg, rv, rv1, ldV, zt3, zt4, zn1, zn2, zn3, zn4, zn5, zn6, zn7, reduceIte, reduceCtorEq, eq_self])); (repeat (first | refine x_seq rfl ?_ | refine go_ops ?_ | refine go_blk ?_ | refine x_skip rfl ?_ | refine x_blk rfl rfl ?_ | refine x_exit rfl rfl rfl ?_ | refine x_ift rfl rfl rfl ?_ | refine x_iff rfl rfl rfl ?_ | refine x_label rfl ?_ | ((first | refine x_reg rfl rfl ?_ | (refine go_newx hty hnt hmh rfl rfl ?_; intro _)); refine runo0 400 hty hnt hmh ?_; simp only [so, sq, zy, zz, tyE, zs1, zs2, zs3, zs4, zs5, ev, zs6, dOk, cv, zu1, zu2, zu3, eqB, Value.oneCell', zs7, zs8, zs9, zt1, zt2, isC, TK.agg, rv, rv1, ldV, zt3, zt4, zn1, zn2, zn3, zn4, zn5, zn6, zn7, reduceIte, reduceCtorEq, eq_self])))
    refine x_retc rfl hQ hmb rfl (by rw [hty]; simp only [so, sq, zy, zz, tyE, zs1, zs2, zs3, zs4, zs5, ev, zs6, dOk, cv, zu1, zu2, zu3, eqB, Value.oneCell', zs7, zs8, zs9, zt1, zt2, isC, TK.agg, rv, rv1, ldV, zt3, zt4, zn1, zn2, zn3, zn4, zn5, zn6, zn7, reduceIte, reduceCtorEq, eq_self]; try rfl) rfl ?_; simp only [SV.den, resV, dens]
  have hfew := fewP_of (show fewP p = true by simpa using hf)
  have hsz : siz p ≤ 1000000000000 := by
    have := siz_bound (k := 220) (p := p) fun f hf => (hfew.2 f hf).1
    have h70 := hfew.1
    have : ((p.length * 220 : Nat) : Int) ≤ 15400 := by omega
    omega
  (try (refine runo0 400 hty hnt hmh ?_; simp only [so, sq, zy, zz, tyE, zs1, zs2, zs3, zs4, zs5, ev, zs6, dOk, cv, zu1, zu2, zu3, eqB, Value.oneCell', zs7, zs8, zs9, zt1, zt2, isC, TK.agg, rv, rv1, ldV, zt3, zt4, zn1, zn2, zn3, zn4, zn5, zn6, zn7, reduceIte, reduceCtorEq, eq_self])); (repeat (first | refine x_seq rfl ?_ | refine go_ops ?_ | refine go_blk ?_ | refine x_skip rfl ?_ | refine x_blk rfl rfl ?_ | refine x_exit rfl rfl rfl ?_ | refine x_ift rfl rfl rfl ?_ | refine x_iff rfl rfl rfl ?_ | refine x_label rfl ?_ | ((first | refine x_reg rfl rfl ?_ | (refine go_newx hty hnt hmh rfl rfl ?_; intro _)); refine runo0 400 hty hnt hmh ?_; simp only [so, sq, zy, zz, tyE, zs1, zs2, zs3, zs4, zs5, ev, zs6, dOk, cv, zu1, zu2, zu3, eqB, Value.oneCell', zs7, zs8, zs9, zt1, zt2, isC, TK.agg, rv, rv1, ldV, zt3, zt4, zn1, zn2, zn3, zn4, zn5, zn6, zn7, reduceIte, reduceCtorEq, eq_self])))
  refine go_callf (by rw [hnt]; rfl) (by rw [hP]; kernel_rfl) rfl (hP ▸ wherep_ok p _ G hps0) ?_; (try (refine runo0 400 hty hnt hmh ?_; simp only [so, sq, zy, zz, tyE, zs1, zs2, zs3, zs4, zs5, ev, zs6, dOk, cv, zu1, zu2, zu3, eqB, Value.oneCell', zs7, zs8, zs9, zt1, zt2, isC, TK.agg, rv, rv1, ldV, zt3, zt4, zn1, zn2, zn3, zn4, zn5, zn6, zn7, reduceIte, reduceCtorEq, eq_self])); (repeat (first | refine x_seq rfl ?_ | refine go_ops ?_ | refine go_blk ?_ | refine x_skip rfl ?_ | refine x_blk rfl rfl ?_ | refine x_exit rfl rfl rfl ?_ | refine x_ift rfl rfl rfl ?_ | refine x_iff rfl rfl rfl ?_ | refine x_label rfl ?_ | ((first | refine x_reg rfl rfl ?_ | (refine go_newx hty hnt hmh rfl rfl ?_; intro _)); refine runo0 400 hty hnt hmh ?_; simp only [so, sq, zy, zz, tyE, zs1, zs2, zs3, zs4, zs5, ev, zs6, dOk, cv, zu1, zu2, zu3, eqB, Value.oneCell', zs7, zs8, zs9, zt1, zt2, isC, TK.agg, rv, rv1, ldV, zt3, zt4, zn1, zn2, zn3, zn4, zn5, zn6, zn7, reduceIte, reduceCtorEq, eq_self])))
  refine go_callf (by rw [hnt]; rfl) (by rw [hP]; kernel_rfl) rfl (hP ▸ refwherep_ok p _ G hps0) ?_; (try (refine runo0 400 hty hnt hmh ?_; simp only [so, sq, zy, zz, tyE, zs1, zs2, zs3, zs4, zs5, ev, zs6, dOk, cv, zu1, zu2, zu3, eqB, Value.oneCell', zs7, zs8, zs9, zt1, zt2, isC, TK.agg, rv, rv1, ldV, zt3, zt4, zn1, zn2, zn3, zn4, zn5, zn6, zn7, reduceIte, reduceCtorEq, eq_self])); (repeat (first | refine x_seq rfl ?_ | refine go_ops ?_ | refine go_blk ?_ | refine x_skip rfl ?_ | refine x_blk rfl rfl ?_ | refine x_exit rfl rfl rfl ?_ | refine x_ift rfl rfl rfl ?_ | refine x_iff rfl rfl rfl ?_ | refine x_label rfl ?_ | ((first | refine x_reg rfl rfl ?_ | (refine go_newx hty hnt hmh rfl rfl ?_; intro _)); refine runo0 400 hty hnt hmh ?_; simp only [so, sq, zy, zz, tyE, zs1, zs2, zs3, zs4, zs5, ev, zs6, dOk, cv, zu1, zu2, zu3, eqB, Value.oneCell', zs7, zs8, zs9, zt1, zt2, isC, TK.agg, rv, rv1, ldV, zt3, zt4, zn1, zn2, zn3, zn4, zn5, zn6, zn7, reduceIte, reduceCtorEq, eq_self])))
  refine x_draw rfl (by rw [hP]; kernel_rfl) rfl (by kernel_rfl) ?_
  refine runq 400 hty hnt ?_; simp only [so, sq, zy, zz, tyE, zs1, zs2, zs3, zs4, zs5, ev, zs6, dOk, cv, zu1, zu2, zu3, eqB, Value.oneCell', zs7, zs8, zs9, zt1, zt2, isC, TK.agg, rv, rv1, ldV, zt3, zt4, zn1, zn2, zn3, zn4, zn5, zn6, zn7, reduceIte, reduceCtorEq, eq_self]
  (refine go_qsplit rfl rfl (fun _ => ?_) (fun hc => absurd hc (by simp)); simp only [so, sq, zy, zz, tyE, zs1, zs2, zs3, zs4, zs5, ev, zs6, dOk, cv, zu1, zu2, zu3, eqB, Value.oneCell', zs7, zs8, zs9, zt1, zt2, isC, TK.agg, rv, rv1, ldV, zt3, zt4, zn1, zn2, zn3, zn4, zn5, zn6, zn7, reduceIte, reduceCtorEq, eq_self]; (try (refine runq 400 hty hnt ?_; simp only [so, sq, zy, zz, tyE, zs1, zs2, zs3, zs4, zs5, ev, zs6, dOk, cv, zu1, zu2, zu3, eqB, Value.oneCell', zs7, zs8, zs9, zt1, zt2, isC, TK.agg, rv, rv1, ldV, zt3, zt4, zn1, zn2, zn3, zn4, zn5, zn6, zn7, reduceIte, reduceCtorEq, eq_self])))
  (refine go_qsplit rfl rfl (fun _ => ?_) (fun hc => absurd hc (by simp)); simp only [so, sq, zy, zz, tyE, zs1, zs2, zs3, zs4, zs5, ev, zs6, dOk, cv, zu1, zu2, zu3, eqB, Value.oneCell', zs7, zs8, zs9, zt1, zt2, isC, TK.agg, rv, rv1, ldV, zt3, zt4, zn1, zn2, zn3, zn4, zn5, zn6, zn7, reduceIte, reduceCtorEq, eq_self]; (try (refine runq 400 hty hnt ?_; simp only [so, sq, zy, zz, tyE, zs1, zs2, zs3, zs4, zs5, ev, zs6, dOk, cv, zu1, zu2, zu3, eqB, Value.oneCell', zs7, zs8, zs9, zt1, zt2, isC, TK.agg, rv, rv1, ldV, zt3, zt4, zn1, zn2, zn3, zn4, zn5, zn6, zn7, reduceIte, reduceCtorEq, eq_self])))
  refine q_callf (by rw [hnt]; rfl) (by rw [hP]; kernel_rfl) rfl (hP ▸ num_ok (whP p).2.2 G) ?_; refine runq 400 hty hnt ?_; simp only [so, sq, zy, zz, tyE, zs1, zs2, zs3, zs4, zs5, ev, zs6, dOk, cv, zu1, zu2, zu3, eqB, Value.oneCell', zs7, zs8, zs9, zt1, zt2, isC, TK.agg, rv, rv1, ldV, zt3, zt4, zn1, zn2, zn3, zn4, zn5, zn6, zn7, reduceIte, reduceCtorEq, eq_self]
  (refine go_qsplit rfl rfl (fun _ => ?_) (fun hc => absurd hc (by simp)); simp only [so, sq, zy, zz, tyE, zs1, zs2, zs3, zs4, zs5, ev, zs6, dOk, cv, zu1, zu2, zu3, eqB, Value.oneCell', zs7, zs8, zs9, zt1, zt2, isC, TK.agg, rv, rv1, ldV, zt3, zt4, zn1, zn2, zn3, zn4, zn5, zn6, zn7, reduceIte, reduceCtorEq, eq_self]; (try (refine runq 400 hty hnt ?_; simp only [so, sq, zy, zz, tyE, zs1, zs2, zs3, zs4, zs5, ev, zs6, dOk, cv, zu1, zu2, zu3, eqB, Value.oneCell', zs7, zs8, zs9, zt1, zt2, isC, TK.agg, rv, rv1, ldV, zt3, zt4, zn1, zn2, zn3, zn4, zn5, zn6, zn7, reduceIte, reduceCtorEq, eq_self])))
  refine q_callf (by rw [hnt]; rfl) (by rw [hP]; kernel_rfl) rfl (hP ▸ checkp_ok p _ G hps0) ?_; refine runq 400 hty hnt ?_; simp only [so, sq, zy, zz, tyE, zs1, zs2, zs3, zs4, zs5, ev, zs6, dOk, cv, zu1, zu2, zu3, eqB, Value.oneCell', zs7, zs8, zs9, zt1, zt2, isC, TK.agg, rv, rv1, ldV, zt3, zt4, zn1, zn2, zn3, zn4, zn5, zn6, zn7, reduceIte, reduceCtorEq, eq_self]
  refine q_callf (by rw [hnt]; rfl) (by rw [hP]; kernel_rfl) rfl (hP ▸ num_ok (whP p).2.2 G) ?_; refine runq 400 hty hnt ?_; simp only [so, sq, zy, zz, tyE, zs1, zs2, zs3, zs4, zs5, ev, zs6, dOk, cv, zu1, zu2, zu3, eqB, Value.oneCell', zs7, zs8, zs9, zt1, zt2, isC, TK.agg, rv, rv1, ldV, zt3, zt4, zn1, zn2, zn3, zn4, zn5, zn6, zn7, reduceIte, reduceCtorEq, eq_self]
  (refine go_qsplit rfl rfl (fun _ => ?_) (fun hc => absurd hc (by simp)); simp only [so, sq, zy, zz, tyE, zs1, zs2, zs3, zs4, zs5, ev, zs6, dOk, cv, zu1, zu2, zu3, eqB, Value.oneCell', zs7, zs8, zs9, zt1, zt2, isC, TK.agg, rv, rv1, ldV, zt3, zt4, zn1, zn2, zn3, zn4, zn5, zn6, zn7, reduceIte, reduceCtorEq, eq_self]; (try (refine runq 400 hty hnt ?_; simp only [so, sq, zy, zz, tyE, zs1, zs2, zs3, zs4, zs5, ev, zs6, dOk, cv, zu1, zu2, zu3, eqB, Value.oneCell', zs7, zs8, zs9, zt1, zt2, isC, TK.agg, rv, rv1, ldV, zt3, zt4, zn1, zn2, zn3, zn4, zn5, zn6, zn7, reduceIte, reduceCtorEq, eq_self])))
  refine q_callf (by rw [hnt]; rfl) (by rw [hP]; kernel_rfl) rfl (hP ▸ sizep_ok p _ G hps0 hsz) ?_; refine runq 400 hty hnt ?_; simp only [so, sq, zy, zz, tyE, zs1, zs2, zs3, zs4, zs5, ev, zs6, dOk, cv, zu1, zu2, zu3, eqB, Value.oneCell', zs7, zs8, zs9, zt1, zt2, isC, TK.agg, rv, rv1, ldV, zt3, zt4, zn1, zn2, zn3, zn4, zn5, zn6, zn7, reduceIte, reduceCtorEq, eq_self]
  refine q_callf (by rw [hnt]; rfl) (by rw [hP]; kernel_rfl) rfl (hP ▸ refsize_ok p _ G hps0 hsz) ?_; refine runq 400 hty hnt ?_; simp only [so, sq, zy, zz, tyE, zs1, zs2, zs3, zs4, zs5, ev, zs6, dOk, cv, zu1, zu2, zu3, eqB, Value.oneCell', zs7, zs8, zs9, zt1, zt2, isC, TK.agg, rv, rv1, ldV, zt3, zt4, zn1, zn2, zn3, zn4, zn5, zn6, zn7, reduceIte, reduceCtorEq, eq_self]
  (refine go_qsplit rfl rfl (fun _ => ?_) (fun hc => absurd hc (by simp)); simp only [so, sq, zy, zz, tyE, zs1, zs2, zs3, zs4, zs5, ev, zs6, dOk, cv, zu1, zu2, zu3, eqB, Value.oneCell', zs7, zs8, zs9, zt1, zt2, isC, TK.agg, rv, rv1, ldV, zt3, zt4, zn1, zn2, zn3, zn4, zn5, zn6, zn7, reduceIte, reduceCtorEq, eq_self]; (try (refine runq 400 hty hnt ?_; simp only [so, sq, zy, zz, tyE, zs1, zs2, zs3, zs4, zs5, ev, zs6, dOk, cv, zu1, zu2, zu3, eqB, Value.oneCell', zs7, zs8, zs9, zt1, zt2, isC, TK.agg, rv, rv1, ldV, zt3, zt4, zn1, zn2, zn3, zn4, zn5, zn6, zn7, reduceIte, reduceCtorEq, eq_self])))
  refine q_callf (by rw [hnt]; rfl) (by rw [hP]; kernel_rfl) rfl (hP ▸ works_ok G) ?_; refine runq 400 hty hnt ?_; simp only [so, sq, zy, zz, tyE, zs1, zs2, zs3, zs4, zs5, ev, zs6, dOk, cv, zu1, zu2, zu3, eqB, Value.oneCell', zs7, zs8, zs9, zt1, zt2, isC, TK.agg, rv, rv1, ldV, zt3, zt4, zn1, zn2, zn3, zn4, zn5, zn6, zn7, reduceIte, reduceCtorEq, eq_self]
  refine q_end ?_; (try (refine runo0 400 hty hnt hmh ?_; simp only [so, sq, zy, zz, tyE, zs1, zs2, zs3, zs4, zs5, ev, zs6, dOk, cv, zu1, zu2, zu3, eqB, Value.oneCell', zs7, zs8, zs9, zt1, zt2, isC, TK.agg, rv, rv1, ldV, zt3, zt4, zn1, zn2, zn3, zn4, zn5, zn6, zn7, reduceIte, reduceCtorEq, eq_self])); (repeat (first | refine x_seq rfl ?_ | refine go_ops ?_ | refine go_blk ?_ | refine x_skip rfl ?_ | refine x_blk rfl rfl ?_ | refine x_exit rfl rfl rfl ?_ | refine x_ift rfl rfl rfl ?_ | refine x_iff rfl rfl rfl ?_ | refine x_label rfl ?_ | ((first | refine x_reg rfl rfl ?_ | (refine go_newx hty hnt hmh rfl rfl ?_; intro _)); refine runo0 400 hty hnt hmh ?_; simp only [so, sq, zy, zz, tyE, zs1, zs2, zs3, zs4, zs5, ev, zs6, dOk, cv, zu1, zu2, zu3, eqB, Value.oneCell', zs7, zs8, zs9, zt1, zt2, isC, TK.agg, rv, rv1, ldV, zt3, zt4, zn1, zn2, zn3, zn4, zn5, zn6, zn7, reduceIte, reduceCtorEq, eq_self])))
  refine x_retc rfl hQ hmb rfl (by rw [hty]; simp only [so, sq, zy, zz, tyE, zs1, zs2, zs3, zs4, zs5, ev, zs6, dOk, cv, zu1, zu2, zu3, eqB, Value.oneCell', zs7, zs8, zs9, zt1, zt2, isC, TK.agg, rv, rv1, ldV, zt3, zt4, zn1, zn2, zn3, zn4, zn5, zn6, zn7, reduceIte, reduceCtorEq, eq_self]; try rfl) rfl ?_; simp only [SV.den, resV, dens]
end Go.Proofs.Ytmdkenpodcnnbaa
namespace Go.Sx
set_option linter.unusedSimpArgs false
set_option linter.unusedVariables false
open Go.RowKit

/-- The blocks of a world. -/
def hp (w : World) : Hp := fun b => w.heap[b]?
theorem has_hp (w : World) : Has w (hp w) := fun _ _ h => h
theorem at_of_cells {w : World} {b off : Nat} {cs : List Value} (h0 : 0 < cs.length) (h : ∀ i, i < cs.length → w.cell? ⟨b, off + i, none⟩ = cs[i]?) : At (hp w) b off cs := by
  have h1 := h 0 h0
  rw [List.getElem?_eq_getElem h0] at h1
  unfold World.cell? at h1 h
  cases hb : w.heap[b]? with
  | none => simp [hb] at h1
  | some o =>
    cases o with
    | cells arr e fz =>
      simp only [hb, Option.isSome_none, Bool.false_eq_true, if_false] at h
      refine ⟨arr, e, fz, hb, ?_, fun i hi => h i hi⟩
      have := h (cs.length - 1) (by omega)
      rw [List.getElem?_eq_getElem (show cs.length - 1 < cs.length by omega)] at this
      obtain ⟨hlt, _⟩ := Array.getElem?_eq_some_iff.1 this
      omega
    | _ => simp [hb] at h1
theorem wf_i64 {n : Int} (h : (Lit.int .i64 n).wf = true) : isI64 n := by
  simpa [Lit.wf, IntKind.min, IntKind.max, IntKind.signed, IntKind.bits, isI64] using h
theorem gatherL {α : Type} {r : Rp α} {w : World} {b : Nat} : ∀ (n off : Nat),
    (∀ i, i < n → ∃ x cs', r.e (hp w) x cs' ∧ ∀ j, j < r.size → w.cell? ⟨b, off + i * r.size + j, none⟩ = cs'[j]?) →
    ∃ (l : List α) (cs : List Value), l.length = n ∧ r.L (hp w) l cs ∧ ∀ i, i < cs.length → w.cell? ⟨b, off + i, none⟩ = cs[i]?
  | 0, off, _ => ⟨[], [], rfl, rfl, by simp⟩
  | n + 1, off, h => by
    obtain ⟨x, c0, hx, h0⟩ := h 0 (by omega)
    obtain ⟨l, cs, hl, hL, hcs⟩ := gatherL (r := r) (w := w) (b := b) n (off + r.size) (fun i hi => by
      obtain ⟨x, c, hx, hc⟩ := h (i + 1) (by omega)
      refine ⟨x, c, hx, fun j hj => ?_⟩
      rw [← hc j hj]
      congr 2
      rw [Nat.succ_mul]; omega)
    have hlen := r.len hx
    refine ⟨x :: l, c0 ++ cs, by simp [hl], ⟨c0, cs, rfl, hx, hL⟩, fun i hi => ?_⟩
    rcases Nat.lt_or_ge i r.size with q | q
    · rw [List.getElem?_append_left (by omega)]
      have := h0 i q
      simpa using this
    · rw [List.getElem?_append_right (by omega), ← hcs (i - c0.length) (by simp at hi; omega)]
      congr 2; omega
section
variable {H : Type} {enc : TypeId × Value → H} {P : Program} {w : World}
theorem add_eq (b off j : Nat) : (Addr.mk b off none).add j = ⟨b, off + j, none⟩ := by
  unfold Addr.add
  split
  · subst_vars; rfl
  · rfl
/-- A slice whose elements read as such reads as their list. -/
theorem open_list {α : Type} (r : Rp α) {t e : TypeId} (ht : P.underlying t = some (.slice e)) (hsz : P.cellsOf e = r.size) (hpos : 0 < r.size)
    (hel : ∀ n d ps cs, DataW.trod enc P w 0 (fun _ => true) true n e cs = some (d, ps) → cs.length = r.size → ∃ x, r.e (hp w) x cs)
    {n : Nat} {d : DataW H} {ps : List MemPlace} {cs : List Value} (h : DataW.trod enc P w 0 (fun _ => true) true n t cs = some (d, ps)) : ∃ (sl : Value) (l : List α), cs = [sl] ∧ r.S (hp w) l sl := by
  have hs := Deep.open_slice ht h
  rcases hs with ⟨hc, hy⟩ | ⟨a, len, cap, mm, n', D, Pl, hc, _, hle, hcap, hmm, hy, hel2⟩
  · exact ⟨_, [], hc, Rp.S_nil _ _⟩
  · simp only [if_true] at hmm
    subst hmm
    have hml : len ≤ 9223372036854775807 := Nat.le_trans (Nat.le_trans hle hcap) (by decide)
    by_cases hz : len = 0
    · subst hz
      exact ⟨_, [], hc, Rp.S_nil _ _⟩
    · obtain ⟨b, off, spot⟩ := a
      rw [hsz] at hel2
      have hspot : spot = none := by
        obtain ⟨cs', q1, _⟩ := hel2 0 (by omega)
        obtain ⟨_, q2, q3⟩ := World.cells?_some q1
        have q4 := q3 0 (by omega)
        rw [List.getElem?_eq_getElem (by omega)] at q4
        simpa [Addr.add] using World.cell?_spot q4
      subst hspot
      obtain ⟨l, cs2, hl, hL, hcs⟩ := gatherL (r := r) (w := w) (b := b) len off (fun i hi => by
        obtain ⟨cs', q1, q2⟩ := hel2 i (by omega)
        obtain ⟨_, q3, q4⟩ := World.cells?_some q1
        obtain ⟨x, hx⟩ := hel _ _ _ _ q2 (by omega)
        refine ⟨x, cs', hx, fun j hj => ?_⟩
        have := q4 j (by omega)
        rw [Deep.add_add, add_eq] at this
        rw [← this, Nat.add_assoc])
      have hlen := Rp.L_len hL
      have hcl : 0 < cs2.length := by rw [hlen, hl]; exact Nat.mul_pos (by omega) hpos
      exact ⟨_, l, hc, by rw [hl]; exact hml, _, _, by rw [hl], .inr ⟨_, _, _, rfl, at_of_cells hcl hcs, hL⟩⟩
theorem trod_struct2 {t : TypeId} {f0 f1 : Field} {fuel : Nat} {cs : List Value} {x : DataW H × List MemPlace} {base : Nat} {spare : Nat → Bool} {held : Bool} (ht : P.underlying t = some (.struct #[f0, f1])) (h : DataW.trod enc P w base spare held fuel t cs = some x) :
    ∃ y0 y1 n, x = (.agg [y0.1, y1.1], y0.2 ++ y1.2) ∧ cs.length = P.cellsOf t ∧ DataW.trod enc P w base spare held n f0.type ((cs.drop f0.offset).take (P.cellsOf f0.type)) = some y0 ∧
      DataW.trod enc P w base spare held n f1.type ((cs.drop f1.offset).take (P.cellsOf f1.type)) = some y1 := by
  obtain ⟨xs, n, _, rfl, hl, hlen, hf⟩ := DataW.trod_struct ht h
  match xs, hlen with
  | [y0, y1], _ => exact ⟨y0, y1, n, by simp, hl, by simpa using hf 0 f0 rfl, by simpa using hf 1 f1 rfl⟩
theorem open_int1 {T : TypeId} (hT : P.underlying T = some (.int .i64)) (hc : P.cellsOf T = 1) {n : Nat} {x : DataW H × List MemPlace} {cs : List Value} (h : DataW.trod enc P w 0 (fun _ => true) true n T cs = some x) : ∃ k, cs = [.int .i64 k] ∧ isI64 k := by
  obtain ⟨k, hk, _, hw⟩ := DataW.trod_int hT h
  exact ⟨k, hk, wf_i64 hw⟩
theorem open_ints {t e : TypeId} (ht : P.underlying t = some (.slice e)) (he : P.underlying e = some (.int .i64)) (hc : P.cellsOf e = 1) {n : Nat} {d : DataW H} {ps : List MemPlace} {cs : List Value} (h : DataW.trod enc P w 0 (fun _ => true) true n t cs = some (d, ps)) : ∃ (sl : Value) (l : List Int), cs = [sl] ∧ rI.S (hp w) l sl :=
  open_list rI ht hc (by decide) (fun n d ps cs h _ => by
    obtain ⟨k, rfl, hk⟩ := open_int1 he hc h
    exact ⟨k, rfl, hk⟩) h
end
end Go.Sx
namespace Go.Proofs.Ytmdkenpodcnnbaa
set_option linter.unusedSimpArgs false
set_option linter.unusedVariables false
open Go.Sx
set_option maxRecDepth 20000
section
variable {H : Type} {enc : TypeId × Value → H} {w : World}
theorem open_node {n : Nat} {d : DataW H} {ps : List MemPlace} {cs : List Value} (h : DataW.trod enc Try.prog w 0 (fun _ => true) true n 51 cs = some (d, ps)) : ∃ x : Nd, rN.e (hp w) x cs := by
  obtain ⟨y0, y1, y2, m, _, hlen, h0, h1, h2⟩ := Deep.trod_struct3 Try.underlying51 h
  rw [show Try.prog.cellsOf 51 = 3 by kernel_rfl] at hlen
  match cs, hlen with
  | [c0, c1, c2], _ =>
  have e1 : Try.prog.cellsOf 49 = 1 := by kernel_rfl
  have e2 : Try.prog.cellsOf 2 = 1 := by kernel_rfl
  have e3 : Try.prog.cellsOf 36 = 1 := by kernel_rfl
  simp only [e1, e2, e3, List.drop_zero, List.drop_succ_cons, List.take_succ_cons, List.take_zero] at h0 h1 h2
  obtain ⟨k, hk, wk⟩ := open_int1 Try.underlying49 e1 h0
  obtain ⟨m, hm, wm⟩ := open_int1 Try.underlying2 e2 h1
  obtain ⟨sl, l, hs, hS⟩ := open_ints Try.underlying36 Try.underlying3 (by kernel_rfl) h2
  cases hk; cases hm; cases hs
  exact ⟨⟨k, m, l⟩, _, rfl, wk, wm, hS⟩
theorem open_fun {n : Nat} {d : DataW H} {ps : List MemPlace} {cs : List Value} (h : DataW.trod enc Try.prog w 0 (fun _ => true) true n 46 cs = some (d, ps)) : ∃ (f : Fu) (ns : Value), cs = [.int .i64 f.params, ns] ∧ isI64 f.params ∧ rN.S (hp w) f.nodes ns := by
  obtain ⟨y0, y1, m, _, hlen, h0, h1⟩ := trod_struct2 Try.underlying46 h
  rw [show Try.prog.cellsOf 46 = 2 by kernel_rfl] at hlen
  match cs, hlen with
  | [c0, c1], _ =>
  have e1 : Try.prog.cellsOf 3 = 1 := by kernel_rfl
  have e2 : Try.prog.cellsOf 44 = 1 := by kernel_rfl
  simp only [e1, e2, List.drop_zero, List.drop_succ_cons, List.take_succ_cons, List.take_zero] at h0 h1
  obtain ⟨k, hk, wk⟩ := open_int1 Try.underlying3 e1 h0
  obtain ⟨sl, l, hs, hS⟩ := open_list rN Try.underlying44 (by kernel_rfl) (by decide) (fun n d ps cs h _ => open_node h) h1
  cases hk; cases hs
  exact ⟨⟨k, l⟩, _, rfl, wk, hS⟩
end
end Go.Proofs.Ytmdkenpodcnnbaa
namespace Go.Proofs.Ytmdkenpodcnnbaa
set_option linter.unusedSimpArgs false
set_option linter.unusedVariables false
open Go.Sx
set_option maxRecDepth 20000
section
variable {H : Type} {enc : TypeId × Value → H} {w : World}
theorem trod_struct1 {P : Program} {t : TypeId} {f0 : Field} {fuel : Nat} {cs : List Value} {x : DataW H × List MemPlace} {base : Nat} {spare : Nat → Bool} {held : Bool} (ht : P.underlying t = some (.struct #[f0])) (h : DataW.trod enc P w base spare held fuel t cs = some x) :
    ∃ y0 n, x = (.agg [y0.1], y0.2) ∧ cs.length = P.cellsOf t ∧ DataW.trod enc P w base spare held n f0.type ((cs.drop f0.offset).take (P.cellsOf f0.type)) = some y0 := by
  obtain ⟨xs, n, _, rfl, hl, hlen, hf⟩ := DataW.trod_struct ht h
  match xs, hlen with
  | [y0], _ => exact ⟨y0, n, by simp, hl, by simpa using hf 0 f0 rfl⟩
theorem open_funs {n : Nat} {d : DataW H} {ps : List MemPlace} {cs : List Value} (h : DataW.trod enc Try.prog w 0 (fun _ => true) true n 22 cs = some (d, ps)) : ∃ (sl : Value) (l : Pr), cs = [sl] ∧ rF.S (hp w) l sl :=
  open_list rF Try.underlying22 (by kernel_rfl) (by decide) (fun n d ps cs h _ => by
    obtain ⟨f, ns, rfl, h1, h2⟩ := open_fun h
    exact ⟨f, ns, rfl, h1, h2⟩) h
theorem open_prog {n : Nat} {d : DataW H} {ps : List MemPlace} {cs : List Value} (h : DataW.trod enc Try.prog w 0 (fun _ => true) true n 24 cs = some (d, ps)) : ∃ (p : Pr) (sl : Value), cs = [sl] ∧ rF.S (hp w) p sl := by
  obtain ⟨y0, m, _, hlen, h0⟩ := trod_struct1 Try.underlying24 h
  rw [show Try.prog.cellsOf 24 = 1 by kernel_rfl] at hlen
  match cs, hlen with
  | [c0], _ =>
  have e1 : Try.prog.cellsOf 22 = 1 := by kernel_rfl
  simp only [e1, List.drop_zero, List.take_succ_cons, List.take_zero] at h0
  obtain ⟨sl, l, hs, hS⟩ := open_funs h0
  exact ⟨l, sl, hs, hS⟩
end
end Go.Proofs.Ytmdkenpodcnnbaa
namespace Go.Proofs.Ytmdkenpodcnnbaa
set_option linter.unusedSimpArgs false
set_option linter.unusedVariables false
open Go.ChangeShapes Go.WideShapes Go.ChangeAt Go.RowKit

theorem own : ownKnob Try.prog.godebug = none := by kernel_rfl
theorem laidOut : laidOutB Try.prog = true := by kernel_rfl

/-- The condition behind the call, where below the heap's old size nothing has turned. -/
theorem post_below {H : Type} {enc : TypeId × Value → H} {P : Program} {f : Func} {s : ChangeSpec} {fresh handsOn again : Bool} {W W' : World} {args : Array Value} {v : Value} {ds : List (DataW H)} {pa : List MemPlace}
    (hvs : s.vars = []) (hfn : (s.fn H (ds ++ [])).vars = []) (hW : DataW.Whole enc P f.params.toList s.vars false W args.toList ds [] pa)
    (hres : ∀ (b : Nat) (sp : Nat → Bool) (hd : Bool), DataW.TrodAll enc P W' b sp hd f.resultTypes.toList (v.resultList f.resultTypes.size) (s.fn H (ds ++ [])).results [])
    (hargs : ∀ sp : Nat → Bool, (∀ p ∈ pa, sp p.block = true) → DataW.TrodAll enc P W' 0 sp true f.params.toList args.toList (s.fn H (ds ++ [])).args pa)
    (hb : Below W.heap.size W W')
    (hok : ∀ (j : Nat) (t : TypeId) (r : Value), f.resultTypes[j]? = some t → (v.resultList f.resultTypes.size)[j]? = some r → Value.okWide P W' .any 0 t r) :
    s.post enc P f false fresh handsOn again W args v W' := by
  have hlt := hW.lt
  have hvars : ∀ sp : Nat → Bool, DataW.TrodVars enc P W' sp s.vars (s.fn H (ds ++ [])).vars [] := fun sp => by rw [hvs, hfn]; rfl
  have hz := hW
  obtain ⟨_, _, _, _, _, hfrozen, _⟩ := hz
  refine ⟨ds, [], pa, [], pa, [], hW, hres _ _ _, hargs _ (fun p hp => by simpa using hlt p hp), hvars _, World.keptBut_mono (fun p hp => ⟨hp, Or.inr (by simpa using hp)⟩) (hb.frame (· ∈ pa)), fun _ => ?_⟩
  refine ⟨hok, _, _, ([] ++ pa) ++ [], ⟨[] ++ pa, [], trodAll_append (hargs _ (fun _ _ => rfl)) (hres _ _ _), hvars _, rfl, fun b off hp => ?_, by simp⟩, fun p hp _ => by simpa using hp⟩
  · have hp' : MemPlace.cell b off ∈ pa := by simpa using hp
    rw [hb.frozen (hlt _ hp')]
    exact hfrozen b off hp'
end Go.Proofs.Ytmdkenpodcnnbaa
namespace Go.Proofs.Ytmdkenpodcnnbaa.programChecks
set_option linter.unusedSimpArgs false
set_option linter.unusedVariables false
open Go.ChangeShapes Go.WideShapes Go.ChangeAt Go.RowKit Go.Sx

set_option maxRecDepth 100000
theorem contract (H : Type) (enc : TypeId × Value → H) (W : World) (base : Nat) (args : Array Value) (ds gs : List (DataW H)) (before : List MemPlace)
    (hval : ∀ (j : Nat) t v, Try.f3.params[j]? = some t → args[j]? = some v → Value.okWide Try.prog W .any base t v)
    (hW : DataW.Whole enc Try.prog Try.f3.params.toList Rows.programChecksSpec.vars false W args.toList ds gs before) :
    Calls Try.prog 3 args W fun e W' => ∃ v, e = .returned v ∧ Rows.programChecksSpec.post enc Try.prog Try.f3 false true false false W args v W' := by
  have hW' := hW
  obtain ⟨p, q, hA0, hV, rfl, hfz, hnd⟩ := hW
  have hA : DataW.TrodAll enc Try.prog W 0 (fun _ => true) true Try.f3.params.toList args.toList ds p := hA0
  rw [Try.params3] at hA hval
  obtain ⟨v0, vs0, d0, ds0, p0, q0, hargs, rfl, rfl, h0, r0⟩ := trodAll_cons hA
  obtain ⟨rfl, rfl, rfl⟩ := trodAll_nil r0
  obtain rfl : args = #[v0] := by cases args; simp_all
  obtain ⟨rfl, rfl⟩ := trodVars_none hV
  clear hA0
  simp only [List.append_nil, List.nil_append] at hW'
  have h0k := h0
  obtain ⟨n0, hf0⟩ := h0
  obtain ⟨cs0, rfl, hsz0⟩ := okWide_struct Try.underlying24 (hval 0 24 v0 rfl rfl)
  obtain ⟨f0, ns0, hcs0, hr0⟩ := open_prog (w := W) hf0
  have hcs0' : cs0 = #[ns0] := by
    apply Array.ext'
    simpa [Value.cells] using hcs0
  subst hcs0'
  have hlt0 : ∀ x ∈ p0, x.block < W.heap.size := fun x hx => by simpa using hW'.lt x (by simp [hx])
  refine (programChecks_ok f0 ns0 (hp W) hr0 W (has_hp W)).mono ?_
  rintro e W' ⟨v, G', rfl, hg, rfl⟩
  have hb := hg.below
  exact ⟨_, rfl, post_below rfl rfl hW' (fun _ _ _ => (trodAll_cons_mk (shut_bool Try.underlying4 _) trodAll_mk0))
    (fun sp hsp => by have this := (trodAll_cons_mk (WideElems.Trod_stays laidOut (by kernel_rfl) (of_decide_eq_true (by kernel_rfl)) h0k (fun x hx => hb.same (hlt0 x hx)) (fun x hx => hsp x (by simp [hx]))) trodAll_mk0); simp only [List.append_nil, List.nil_append] at this; exact this)
    hb (ok_one (by kernel_rfl) rfl (okWide_bool_mk Try.underlying4 _))⟩

set_option maxRecDepth 100000 in
theorem lifted (os : Os) (started : os.Started) (H : Type) (enc : TypeId × Value → H) :
    ReturnsInHanded {} Try.checked os 3 .any (Rows.programChecksSpec.pre6 enc Try.prog Try.f3 Rows.programChecksRow.domain false) (Rows.programChecksSpec.post enc Try.prog Try.f3 false true false false) := by
  refine returnsInHanded_of_change (C := Try.checked) own started (by kernel_rfl) Try.func3
    (ChangeSpec.witness6 (enc := enc) (C := Try.checked) false ⟨#[], #[.agg #[.slice none 0 0]], []⟩ 8 (by kernel_rfl) (by kernel_rfl) (by kernel_rfl) (by kernel_rfl)) ?_
  intro W base args ds gs before hval hW _ _
  exact contract H enc W base args ds gs before hval hW

theorem over : Rows.programChecksRow.holds Try.pinned (OpenSpec.ofChange Rows.programChecksSpec) :=
  OpenClaim.holds_of_wide 3 Try.f3 rfl rfl rfl rfl rfl rfl rfl ⟨rfl, rfl, rfl, rfl, rfl⟩ rfl rfl rfl rfl rfl (by kernel_rfl) Try.func3 (by kernel_rfl)
    (of_decide_eq_true (by kernel_rfl)) (by unfold Func.isWrapper; first | (rw [if_pos (by decide +kernel)]; kernel_rfl) | (rw [if_neg (by decide +kernel)]; exact ⟨rfl, rfl⟩))
    (fun os started H enc _ => lifted os started H enc)

theorem proved : Rows.ProgramChecksSaid := over
end Go.Proofs.Ytmdkenpodcnnbaa.programChecks

